/-
  Tables that are owned: their rows stand in blocks of their own.
-/
import Derived.Test.YtccioplhchmilaaC5
set_option linter.unusedVariables false
set_option maxRecDepth 100000
namespace Go.Proofs.Ytccioplhchmilaa.AL
open Go Go.Proofs

/-- New blocks only, and they say nothing of frozen ones. -/
structure Fresh (H H1 : Heap) : Prop where
  len : H.length ≤ H1.length
  old : ∀ i, i < H.length → hget H1 i = hget H i
  new : ∀ i g cs, H.length ≤ i → hget H1 i = some (g, cs) → IFrees cs = true
theorem Fresh.refl (H : Heap) : Fresh H H := ⟨Nat.le_refl _, fun _ _ => rfl, fun i g cs hi h => by have := hlt_of_get h; omega⟩
theorem Fresh.sub {H H1 : Heap} (h : Fresh H H1) : HSub H H1 := fun i g cs hi => by rw [h.old i (hlt_of_get hi)]; exact hi
theorem Fresh.trans {H H1 H2 : Heap} (h : Fresh H H1) (k : Fresh H1 H2) : Fresh H H2 :=
  ⟨Nat.le_trans h.len k.len, fun i hi => (k.old i (Nat.lt_of_lt_of_le hi h.len)).trans (h.old i hi), fun i g cs hi hg => by
    by_cases hl : i < H1.length
    · rw [k.old i hl] at hg; exact h.new i g cs hi hg
    · exact k.new i g cs (by omega) hg⟩
theorem fresh_new (H : Heap) (g : Nat) {cs : List AVal} (hc : IFrees cs = true) : Fresh H (hnew H g cs) :=
  ⟨by rw [hlen_new]; omega, fun i hi => hget_old g cs hi, fun i g' ds hi hg => by
    rw [hget_hnew, if_neg (by omega)] at hg
    split at hg
    · cases hg; exact hc
    · cases hg⟩
theorem Fresh.set {H H1 : Heap} (h : Fresh H H1) {i : Nat} (hi : H.length ≤ i) (g : Nat) {cs : List AVal} (hc : IFrees cs = true) : Fresh H (hset H1 i g cs) := by
  refine ⟨by rw [hlen_set]; exact h.len, fun j hj => by rw [hget_set_ne g cs (by omega)]; exact h.old j hj, fun j g' ds hj hg => ?_⟩
  by_cases hij : i = j
  · subst hij
    have := hlt_of_get hg
    rw [hlen_set] at this
    rw [hget_set g cs this] at hg
    cases hg; exact hc
  · rw [hget_set_ne g cs hij] at hg; exact h.new j g' ds hj hg
theorem ifrees_map (l : List Int) : IFrees (l.map I) = true := by
  induction l with
  | nil => rfl
  | cons a l ih => simp only [List.map_cons, IFrees, IFree, ih, Bool.and_self]
theorem ifrees_iff {cs : List AVal} : IFrees cs = true ↔ ∀ c ∈ cs, IFree c = true := by
  induction cs with
  | nil => simp [IFrees]
  | cons c cs ih => simp [IFrees, ih]

/-- A table whose blocks stand at 'lo' or above. -/
structure OTab (lo : Nat) (H : Heap) (k g : Nat) (rows : List AVal) (ks : List Nat) (t : List (List Int)) : Prop where
  top : hget H k = some (g, rows)
  lok : lo ≤ k
  len : rows.length = t.length
  kln : ks.length = t.length
  nd : (k :: ks).Nodup
  row : ∀ (j : Nat) (r : List Int) (kj : Nat), t[j]? = some r → ks[j]? = some kj → ∃ gj, rows[j]? = some (.own kj gj 1 0 r.length) ∧ hget H kj = some (gj, r.map I) ∧ lo ≤ kj
def IsOTab (lo : Nat) (H : Heap) (v : AVal) (t : List (List Int)) : Prop := (v = .nilS ∧ t = []) ∨ ∃ k g rows ks, v = .own k g 1 0 t.length ∧ OTab lo H k g rows ks t

theorem OTab.frame {lo : Nat} {H H' : Heap} {k g : Nat} {rows : List AVal} {ks : List Nat} {t : List (List Int)} (h : OTab lo H k g rows ks t) (hh : ∀ i, lo ≤ i → i < H.length → hget H' i = hget H i) : OTab lo H' k g rows ks t :=
  ⟨by rw [hh k h.lok (hlt_of_get h.top)]; exact h.top, h.lok, h.len, h.kln, h.nd, fun j r kj h1 h2 => by
    obtain ⟨gj, h3, h4, h5⟩ := h.row j r kj h1 h2
    exact ⟨gj, h3, by rw [hh kj h5 (hlt_of_get h4)]; exact h4, h5⟩⟩
theorem IsOTab.frame {lo : Nat} {H H' : Heap} {v : AVal} {t : List (List Int)} (h : IsOTab lo H v t) (hh : ∀ i, lo ≤ i → i < H.length → hget H' i = hget H i) : IsOTab lo H' v t := by
  rcases h with h | ⟨k, g, rows, ks, hv, h⟩
  · exact .inl h
  · exact .inr ⟨k, g, rows, ks, hv, h.frame hh⟩
theorem OTab.get {lo : Nat} {H : Heap} {k g : Nat} {rows : List AVal} {ks : List Nat} {t : List (List Int)} (h : OTab lo H k g rows ks t) {j : Nat} {r : List Int} (hj : t[j]? = some r) :
    ∃ kj gj, ks[j]? = some kj ∧ rows[j]? = some (.own kj gj 1 0 r.length) ∧ hget H kj = some (gj, r.map I) ∧ lo ≤ kj ∧ kj ≠ k := by
  have hjl := (List.getElem?_eq_some_iff.1 hj).1
  have hk : ks[j]? = some (ks[j]'(by rw [h.kln]; exact hjl)) := List.getElem?_eq_getElem _
  obtain ⟨gj, h1, h2, h3⟩ := h.row j r _ hj hk
  refine ⟨_, gj, hk, h1, h2, h3, fun e => ?_⟩
  exact (List.nodup_cons.1 h.nd).1 (e ▸ List.mem_of_getElem? hk)
/-- Writing into a row. -/
theorem OTab.put {lo : Nat} {H : Heap} {k g : Nat} {rows : List AVal} {ks : List Nat} {t : List (List Int)} (h : OTab lo H k g rows ks t) {j : Nat} {r : List Int} (hj : t[j]? = some r) {kj gj : Nat} (hkj : ks[j]? = some kj) (hg : hget H kj = some (gj, r.map I)) {r' : List Int} (hl : r'.length = r.length) :
    OTab lo (hset H kj gj (r'.map I)) k g rows ks (t.set j r') := by
  have hne : kj ≠ k := fun e => (List.nodup_cons.1 h.nd).1 (e ▸ List.mem_of_getElem? hkj)
  have hjl := (List.getElem?_eq_some_iff.1 hj).1
  refine ⟨by rw [hget_set_ne _ _ hne]; exact h.top, h.lok, by rw [List.length_set]; exact h.len, by rw [List.length_set]; exact h.kln, h.nd, fun i s ki h1 h2 => ?_⟩
  by_cases hij : j = i
  · subst hij
    rw [List.getElem?_set_self hjl] at h1
    cases h1
    rw [hkj] at h2; cases h2
    obtain ⟨gj', h3, h4, h5⟩ := h.row j r kj hj hkj
    rw [hg] at h4; cases h4
    exact ⟨gj, by rw [hl]; exact h3, hget_set _ _ (hlt_of_get hg), h5⟩
  · rw [List.getElem?_set_ne hij] at h1
    obtain ⟨gi, h3, h4, h5⟩ := h.row i s ki h1 h2
    refine ⟨gi, h3, ?_, h5⟩
    rw [hget_set_ne _ _ ?_]; exact h4
    intro e
    subst e
    have hnd := (List.nodup_cons.1 h.nd).2
    exact hij ((List.getElem?_inj (List.getElem?_eq_some_iff.1 hkj).1 hnd).1 (hkj.trans h2.symm))

theorem rIXo {b g n i : Nat} {K : AVal → Prop} (h : i < n) (k : K (.ptr b g i)) : IXK 1 (.own b g 1 0 n) (I (i : Int)) K := by
  refine ⟨rfl, by omega, by omega, ?_⟩
  simpa using k
theorem pur_ints {H : Heap} {k g : Nat} {r : List Int} (h : hget H k = some (g, r.map I)) (n : Nat) : Pur H (n + 1) (.own k g 1 0 r.length) (.sl false r.length (r.map I)) := by
  refine .inr ⟨r.map I, r.map I, h, by simp, rfl, ?_⟩
  rw [List.drop_zero, List.take_of_length_le (by simp)]
  exact All2.refl (fun v => Pur.refl _ _ v) _
/-- The table, frozen. -/
theorem OTab.pur {lo : Nat} {H Hf : Heap} {k g : Nat} {rows : List AVal} {ks : List Nat} {t : List (List Int)} (h : OTab lo H k g rows ks t) (hf : ∀ i, lo ≤ i → hget Hf i = hget H i) :
    Pur Hf 2 (.own k g 1 0 t.length) (.sl false t.length (t.map fun r => .sl false r.length (r.map I))) := by
  refine .inr ⟨rows, t.map fun r => .sl false r.length (r.map I), by rw [hf k h.lok]; exact h.top, by rw [h.len]; omega, rfl, ?_⟩
  rw [List.drop_zero, List.take_of_length_le (by rw [h.len]; omega)]
  have key : ∀ (rows : List AVal) (t : List (List Int)), rows.length = t.length → (∀ (j : Nat) (c : AVal) (r : List Int), rows[j]? = some c → t[j]? = some r → Pur Hf 1 c (.sl false r.length (r.map I))) → All2 (Pur Hf 1) rows (t.map fun r => .sl false r.length (r.map I)) := by
    intro rows
    induction rows with
    | nil => intro t hl _; have : t = [] := List.eq_nil_of_length_eq_zero (by simpa using hl.symm); subst this; rfl
    | cons c rows ih =>
      intro t hl hp
      cases t with
      | nil => cases hl
      | cons r t => exact ⟨_, _, rfl, hp 0 c r rfl rfl, ih t (by simpa using hl) fun j c' r' h1 h2 => hp (j + 1) c' r' h1 h2⟩
  refine key rows t h.len fun j c r h1 h2 => ?_
  obtain ⟨kj, gj, h3, h4, h5, h6, _⟩ := h.get h2
  rw [h1] at h4; cases h4
  exact pur_ints (by rw [hf kj h6]; exact h5) 0
theorem isTab_pure (t : List (List Int)) : IsTab (.sl false t.length (t.map fun r => .sl false r.length (r.map I))) t :=
  isSl_mk rfl (by simp) fun i c a hc ha => by
    rw [List.getElem?_map, ha] at hc
    cases hc
    exact isInts_map false a
theorem IsOTab.pur {lo : Nat} {H Hf : Heap} {v : AVal} {t : List (List Int)} (h : IsOTab lo H v t) (hf : ∀ i, lo ≤ i → hget Hf i = hget H i) : ∃ v', Pur Hf 2 v v' ∧ IsTab v' t := by
  rcases h with ⟨rfl, rfl⟩ | ⟨k, g, rows, ks, rfl, h⟩
  · exact ⟨.nilS, Pur.refl _ _ _, .inl ⟨rfl, rfl⟩⟩
  · exact ⟨_, h.pur hf, isTab_pure t⟩
theorem IsOTab.len {lo : Nat} {H : Heap} {v : AVal} {t : List (List Int)} (h : IsOTab lo H v t) {K : AVal → Prop} (k : K (I t.length)) : LENK v K := by
  rcases h with ⟨rfl, rfl⟩ | ⟨k', g, rows, ks, rfl, h⟩ <;> exact k
theorem nw_above (H H1 : Heap) {i : Nat} (hi : H.length ≤ i) : hget (nw H H1) i = hget H1 i := by
  rw [hget_nw]
  cases hb : Nat.blt i H.length with
  | false => rfl
  | true => have := blt_f hb; omega

theorem OTab.lt {lo : Nat} {H : Heap} {k g : Nat} {rows : List AVal} {ks : List Nat} {t : List (List Int)} (h : OTab lo H k g rows ks t) : ∀ i ∈ k :: ks, i < H.length := by
  intro i hi
  rcases List.mem_cons.1 hi with rfl | hi
  · exact hlt_of_get h.top
  · obtain ⟨j, hj, rfl⟩ := List.getElem_of_mem hi
    obtain ⟨gj, _, h2, _⟩ := h.row j _ _ (List.getElem?_eq_getElem (show j < t.length by rw [← h.kln]; exact hj)) (List.getElem?_eq_getElem hj)
    exact hlt_of_get h2
/-- A table, and a block that is none of its own. -/
def IsOTabN (lo : Nat) (H : Heap) (v : AVal) (t : List (List Int)) (kr : Nat) : Prop := (v = .nilS ∧ t = []) ∨ ∃ k g rows ks, v = .own k g 1 0 t.length ∧ OTab lo H k g rows ks t ∧ kr ∉ k :: ks
theorem IsOTab.new {lo : Nat} {H : Heap} {v : AVal} {t : List (List Int)} (h : IsOTab lo H v t) (g : Nat) (cs : List AVal) : IsOTabN lo (hnew H g cs) v t H.length := by
  rcases h with h | ⟨k, g', rows, ks, hv, h⟩
  · exact .inl h
  · exact .inr ⟨k, g', rows, ks, hv, h.frame fun i _ hi => hget_old g cs hi, fun hm => Nat.lt_irrefl _ (h.lt _ hm)⟩
/-- One block is new, or one from 'lo' on is written. -/
def Chg (lo : Nat) (H H' : Heap) : Prop := ∃ g cs, IFrees cs = true ∧ (H' = hnew H g cs ∨ ∃ j, lo ≤ j ∧ H' = hset H j g cs)
theorem Fresh.chg {H0 H H' : Heap} {lo : Nat} (hF : Fresh H0 H) (hlo : H0.length ≤ lo) (h : Chg lo H H') : Fresh H0 H' := by
  obtain ⟨g, cs, hc, rfl | ⟨j, hj, rfl⟩⟩ := h
  · exact hF.trans (fresh_new H g hc)
  · exact hF.set (Nat.le_trans hlo hj) g hc
/-- One more row. -/
theorem IsOTabN.snoc {lo : Nat} {H : Heap} {v : AVal} {t : List (List Int)} {kr gr : Nat} (h : IsOTabN lo H v t kr) {r : List Int} (hr : hget H kr = some (gr, r.map I)) (hlo : lo ≤ kr) (hlen : t.length < 1000000000) (hloH : lo ≤ H.length)
    {b : Bool} {K : AVal → Heap → Prop} (k : ∀ v' H', IsOTab lo H' v' (t ++ [r]) → Chg lo H H' → K v' H') : APK 1 H v (.sl b 1 [.own kr gr 1 0 r.length]) K := by
  unfold APK elemsOf
  refine ⟨rfl, ?_⟩
  rcases h with ⟨rfl, rfl⟩ | ⟨k', g, rows, ks, rfl, h, hn⟩
  · refine ⟨by omega, (fun h => by cases h), fun _ g => k _ _ (.inr ⟨H.length, g, [.own kr gr 1 0 r.length], [kr], rfl, ?_⟩) ⟨g, _, rfl, .inl rfl⟩⟩
    have hkr := hlt_of_get hr
    refine ⟨hget_new _ _ _, hloH, rfl, rfl, by simp; omega, fun j s kj h1 h2 => ?_⟩
    cases j with
    | zero => cases h1; cases h2; exact ⟨gr, rfl, by rw [hget_old _ _ hkr]; exact hr, hlo⟩
    | succ j => simp at h1
  · have hk' := hlt_of_get h.top
    have hnd := List.nodup_cons.1 h.nd
    refine ⟨rfl, rfl, by omega, rows, h.top, by rw [h.len]; omega, fun g' => ?_⟩
    have htk : rows.take (t.length * 1) = rows := List.take_of_length_le (by rw [h.len]; omega)
    rw [htk]
    have hrf : IFrees rows = true := by
      rw [ifrees_iff]
      intro c hc
      obtain ⟨j, hj, rfl⟩ := List.getElem_of_mem hc
      obtain ⟨kj, gj, _, h4, _⟩ := h.get (List.getElem?_eq_getElem (show j < t.length by rw [← h.len]; exact hj))
      rw [List.getElem?_eq_getElem hj] at h4
      rw [Option.some.inj h4]; rfl
    refine k _ _ (.inr ⟨k', g', rows ++ [.own kr gr 1 0 r.length], ks ++ [kr], by simp, ?_⟩) ⟨g', _, ?_, .inr ⟨k', h.lok, rfl⟩⟩
    · refine ⟨hget_set _ _ hk', h.lok, by simp [h.len], by simp [h.kln], ?_, fun j s kj h1 h2 => ?_⟩
      · rw [List.nodup_cons]
        simp only [List.mem_cons, not_or] at hn
        refine ⟨?_, ?_⟩
        · simp only [List.mem_append, List.mem_singleton, not_or]; exact ⟨hnd.1, fun e => hn.1 e.symm⟩
        · rw [List.nodup_append]
          refine ⟨hnd.2, by simp, ?_⟩
          intro a ha b hb e
          simp at hb
          subst hb; subst e
          exact hn.2 ha
      · by_cases hjl : j < t.length
        · rw [List.getElem?_append_left hjl] at h1
          rw [List.getElem?_append_left (by rw [h.kln]; exact hjl)] at h2
          obtain ⟨gj, h3, h4, h5⟩ := h.row j s kj h1 h2
          refine ⟨gj, by rw [List.getElem?_append_left (by rw [h.len]; exact hjl)]; exact h3, ?_, h5⟩
          rw [hget_set_ne _ _ ?_]; exact h4
          intro e; subst e
          exact hnd.1 (List.mem_of_getElem? h2)
        · have hj : j = t.length := by
            have := (List.getElem?_eq_some_iff.1 h1).1
            simp at this; omega
          subst hj
          rw [List.getElem?_append_right (Nat.le_refl _), Nat.sub_self] at h1
          rw [List.getElem?_append_right (by rw [h.kln]; exact Nat.le_refl _), h.kln, Nat.sub_self] at h2
          cases h1; cases h2
          refine ⟨gr, by rw [List.getElem?_append_right (by rw [h.len]; exact Nat.le_refl _), h.len, Nat.sub_self]; rfl, ?_, hlo⟩
          rw [hget_set_ne _ _ ?_]; exact hr
          intro e; subst e; simp at hn
    · rw [ifrees_iff] at hrf ⊢
      intro c hc
      rcases List.mem_append.1 hc with hc | hc
      · exact hrf c hc
      · simp at hc; subst hc; rfl

end Go.Proofs.Ytccioplhchmilaa.AL
