/-
  Contracts: tables by a function of places.
-/
import Derived.Test.YtccioplhchmilaaC9
set_option linter.unusedVariables false
set_option maxRecDepth 100000
namespace Go.Proofs.Ytccioplhchmilaa.AL
open Go Go.Proofs

/-! impl.table (slots: 0 rows, 1 columns, 2 at, 3 rows, 4 columns, 5 at, 7 out, 8 i, 9 j) -/
namespace impl_table
def lv : List (Nat × List Nat) := [(3, [1, 2, 7, 13, 14]), (7, [1, 2, 7, 8, 13, 14, 26, 27])]
noncomputable def K3 : List KF := [.lp (cB (cB (cR (cL (cR (cR (bodyOf Try.f107))))))), .bl 0, .sq (cR (cR (cR (bodyOf Try.f107))))]
def L3 (Q : AVal → Heap → Prop) (v1 v2 v7 v13 v14 : AVal) (H : Heap) : Prop := At Try.prog 107 43 K3 Q (slotsOf [(1, v1), (2, v2), (7, v7), (13, v13), (14, v14)]) H
theorem L3_frz {Q : AVal → Heap → Prop} {v1 v2 v7 v13 v14 w1 w2 w7 w13 w14 : AVal} {H Hf Hk : Heap} {k : Nat} (hs : Split H Hf Hk) (hp : PurL Hf k [(1, v1, w1), (2, v2, w2), (7, v7, w7), (13, v13, w13), (14, v14, w14)]) (h : L3 Q w1 w2 w7 w13 w14 Hk) : L3 Q v1 v2 v7 v13 v14 H := at_frz (ks := K3) hs hp h
noncomputable def K7 : List KF := [.lp (cB (cB (cR (cR (cR (cB (cL (cR (cR (cB (cB (cR (cL (cR (cR (bodyOf Try.f107)))))))))))))))), .bl 2, .bl 1, .sq (cR (cR (cR (cB (cB (cR (cL (cR (cR (bodyOf Try.f107)))))))))), .lp (cB (cB (cR (cL (cR (cR (bodyOf Try.f107))))))), .bl 0, .sq (cR (cR (cR (bodyOf Try.f107))))]
def L7 (Q : AVal → Heap → Prop) (v1 v2 v7 v8 v13 v14 v26 v27 : AVal) (H : Heap) : Prop := At Try.prog 107 43 K7 Q (slotsOf [(1, v1), (2, v2), (7, v7), (8, v8), (13, v13), (14, v14), (26, v26), (27, v27)]) H
theorem L7_frz {Q : AVal → Heap → Prop} {v1 v2 v7 v8 v13 v14 v26 v27 w1 w2 w7 w8 w13 w14 w26 w27 : AVal} {H Hf Hk : Heap} {k : Nat} (hs : Split H Hf Hk) (hp : PurL Hf k [(1, v1, w1), (2, v2, w2), (7, v7, w7), (8, v8, w8), (13, v13, w13), (14, v14, w14), (26, v26, w26), (27, v27, w27)]) (h : L7 Q w1 w2 w7 w8 w13 w14 w26 w27 Hk) : L7 Q v1 v2 v7 v8 v13 v14 v26 v27 H := at_frz (ks := K7) hs hp h
def start_vc (Q : AVal → Heap → Prop) (a0 a1 a2 : AVal) (H : Heap) : Prop :=
((Go.Operand.tmp 10) = (Go.Operand.tmp 10)) ∧ TT ∧ MKK 1 AVal.nilS a0 H fun x1 H2 =>
LENK x1 fun x3 =>
impl_table.L3 Q a1 a2 x1 x3 (AVal.int .i64 0) H2
theorem start_eq (Q : AVal → Heap → Prop) (a0 a1 a2 : AVal) (H : Heap) : vs Try.prog lv 107 43 Try.f107.results.toList Q true 1000 [.sq (bodyOf Try.f107)] (entry [a0, a1, a2]) H = start_vc Q a0 a1 a2 H := by kernel_rfl
theorem start {Q : AVal → Heap → Prop} {a0 a1 a2 : AVal} {H : Heap} (h : start_vc Q a0 a1 a2 H) : ACalls Try.prog 107 [a0, a1, a2] H Q := acalls_vs (lv := lv) mixed Try.func107 rfl (by kernel_rfl) (by kernel_rfl) (start_eq Q a0 a1 a2 H ▸ h)
def step3_vc (Q : AVal → Heap → Prop) (v1 v2 v7 v13 v14 : AVal) (H : Heap) : Prop :=
BINK .lss v14 v13 fun x1 =>
BRK x1 (((Go.Operand.tmp 19) = (Go.Operand.tmp 19)) ∧ TT ∧ MKK 1 (AVal.int .i64 0) v1 H fun x2 H3 =>
TT ∧ IXK 1 v7 v14 fun x4 =>
TT ∧ STK 1 H3 x4 x2 fun H5 =>
TT ∧ IXK 1 v7 v14 fun x6 =>
TT ∧ TT ∧ LDK false 1 H5 x6 fun x7 =>
LENK x7 fun x8 =>
impl_table.L7 Q v1 v2 v7 v14 v13 v14 x8 (AVal.int .i64 0) H5) (Q v7 H)
theorem step3_eq (Q : AVal → Heap → Prop) (v1 v2 v7 v13 v14 : AVal) (H : Heap) : vs Try.prog lv 107 43 Try.f107.results.toList Q true 1000 (.sq (cB (cB (cR (cL (cR (cR (bodyOf Try.f107))))))) :: K3) (slotsOf [(1, v1), (2, v2), (7, v7), (13, v13), (14, v14)]) H = step3_vc Q v1 v2 v7 v13 v14 H := by kernel_rfl
theorem step3 {Q : AVal → Heap → Prop} {v1 v2 v7 v13 v14 : AVal} {H : Heap} (h : step3_vc Q v1 v2 v7 v13 v14 H) : L3 Q v1 v2 v7 v13 v14 H := at_lp_vs (lv := lv) (ks := K3.tail) mixed Try.func107 (step3_eq Q v1 v2 v7 v13 v14 H ▸ h)
def step7_vc (Q : AVal → Heap → Prop) (v1 v2 v7 v8 v13 v14 v26 v27 : AVal) (H : Heap) : Prop :=
BINK .lss v27 v26 fun x1 =>
BRK x1 (TT ∧ TT ∧ IXK 1 v7 v8 fun x2 =>
TT ∧ TT ∧ LDK false 1 H x2 fun x3 =>
CALLK Try.prog v2 [v8, v27] H fun x4 H5 =>
(TT ∧ TT ∧ LDK false 1 H5 x2 fun x6 =>
x6 = x3) ∧
TT ∧ IXK 1 x3 v27 fun x7 =>
TT ∧ STK 1 H5 x7 x4 fun H8 =>
BINK .add v27 (AVal.int .i64 1) fun x9 =>
impl_table.L7 Q v1 v2 v7 v8 v13 v14 v26 x9 H8) (BINK .add v14 (AVal.int .i64 1) fun x10 =>
impl_table.L3 Q v1 v2 v7 v13 x10 H)
theorem step7_eq (Q : AVal → Heap → Prop) (v1 v2 v7 v8 v13 v14 v26 v27 : AVal) (H : Heap) : vs Try.prog lv 107 43 Try.f107.results.toList Q true 1000 (.sq (cB (cB (cR (cR (cR (cB (cL (cR (cR (cB (cB (cR (cL (cR (cR (bodyOf Try.f107)))))))))))))))) :: K7) (slotsOf [(1, v1), (2, v2), (7, v7), (8, v8), (13, v13), (14, v14), (26, v26), (27, v27)]) H = step7_vc Q v1 v2 v7 v8 v13 v14 v26 v27 H := by kernel_rfl
theorem step7 {Q : AVal → Heap → Prop} {v1 v2 v7 v8 v13 v14 v26 v27 : AVal} {H : Heap} (h : step7_vc Q v1 v2 v7 v8 v13 v14 v26 v27 H) : L7 Q v1 v2 v7 v8 v13 v14 v26 v27 H := at_lp_vs (lv := lv) (ks := K7.tail) mixed Try.func107 (step7_eq Q v1 v2 v7 v8 v13 v14 v26 v27 H ▸ h)
end impl_table


theorem OTab.snoc {lo : Nat} {H : Heap} {k g : Nat} {rows : List AVal} {ks : List Nat} {t : List (List Int)} (h : OTab lo H k g rows ks t) {kr gr : Nat} {r : List Int} (hr : hget H kr = some (gr, r.map I)) (hlo : lo ≤ kr) (hn : kr ∉ k :: ks) :
    OTab lo (hset H k g (rows ++ [.own kr gr 1 0 r.length])) k g (rows ++ [.own kr gr 1 0 r.length]) (ks ++ [kr]) (t ++ [r]) := by
  have hk' := hlt_of_get h.top
  have hnd := List.nodup_cons.1 h.nd
  refine ⟨hget_set _ _ hk', h.lok, by simp [h.len], by simp [h.kln], ?_, fun j s kj h1 h2 => ?_⟩
  · rw [List.nodup_cons]
    simp only [List.mem_cons, not_or] at hn
    refine ⟨?_, ?_⟩
    · simp only [List.mem_append, List.mem_singleton, not_or]; exact ⟨hnd.1, fun e => hn.1 e.symm⟩
    · rw [List.nodup_append]
      refine ⟨hnd.2, by simp, ?_⟩
      intro a ha b hb e
      simp at hb
      subst hb; subst e
      exact hn.2 ha
  · by_cases hjl : j < t.length
    · rw [List.getElem?_append_left hjl] at h1
      rw [List.getElem?_append_left (by rw [h.kln]; exact hjl)] at h2
      obtain ⟨gj, h3, h4, h5⟩ := h.row j s kj h1 h2
      refine ⟨gj, by rw [List.getElem?_append_left (by rw [h.len]; exact hjl)]; exact h3, ?_, h5⟩
      rw [hget_set_ne _ _ ?_]; exact h4
      intro e; subst e
      exact hnd.1 (List.mem_of_getElem? h2)
    · have hj : j = t.length := by
        have := (List.getElem?_eq_some_iff.1 h1).1
        simp at this; omega
      subst hj
      rw [List.getElem?_append_right (Nat.le_refl _), Nat.sub_self] at h1
      rw [List.getElem?_append_right (by rw [h.kln]; exact Nat.le_refl _), h.kln, Nat.sub_self] at h2
      cases h1; cases h2
      refine ⟨gr, by rw [List.getElem?_append_right (by rw [h.len]; exact Nat.le_refl _), h.len, Nat.sub_self]; rfl, ?_, hlo⟩
      rw [hget_set_ne _ _ ?_]; exact hr
      intro e; subst e; simp at hn

/-- A table whose last rows are still nil. -/
structure PTab (lo : Nat) (H : Heap) (k g n : Nat) (rows : List AVal) (ks : List Nat) (t : List (List Int)) : Prop where
  all : hget H k = some (g, rows ++ List.replicate n AVal.nilS)
  tab : OTab lo (hset H k g rows) k g rows ks t
theorem PTab.row {lo : Nat} {H : Heap} {k g n : Nat} {rows : List AVal} {ks : List Nat} {t : List (List Int)} (h : PTab lo H k g n rows ks t) {j : Nat} {r : List Int} (hj : t[j]? = some r) :
    ∃ kj gj, ks[j]? = some kj ∧ (rows ++ List.replicate n AVal.nilS)[j]? = some (.own kj gj 1 0 r.length) ∧ hget H kj = some (gj, r.map I) ∧ lo ≤ kj ∧ kj ≠ k := by
  obtain ⟨kj, gj, h1, h2, h3, h4, h5⟩ := h.tab.get hj
  refine ⟨kj, gj, h1, ?_, by rwa [hget_set_ne _ _ h5.symm] at h3, h4, h5⟩
  rw [List.getElem?_append_left (List.getElem?_eq_some_iff.1 h2).1]; exact h2
theorem hset_comm {H : Heap} {i j gi gj : Nat} {cs ds : List AVal} (h : i ≠ j) : hset (hset H i gi cs) j gj ds = hset (hset H j gj ds) i gi cs := by
  simp only [hset]; rw [List.set_comm _ _ h]
theorem PTab.put {lo : Nat} {H : Heap} {k g n : Nat} {rows : List AVal} {ks : List Nat} {t : List (List Int)} (h : PTab lo H k g n rows ks t) {j : Nat} {r : List Int} (hj : t[j]? = some r) {kj gj : Nat} (hkj : ks[j]? = some kj) (hg : hget H kj = some (gj, r.map I)) (hne : kj ≠ k) {r' : List Int} (hl : r'.length = r.length) :
    PTab lo (hset H kj gj (r'.map I)) k g n rows ks (t.set j r') := by
  refine ⟨by rw [hget_set_ne _ _ hne]; exact h.all, ?_⟩
  have := h.tab.put hj hkj (by rw [hget_set_ne _ _ hne.symm]; exact hg) hl
  rw [hset_comm hne]; exact this
theorem PTab.snoc {lo : Nat} {H : Heap} {k g n : Nat} {rows : List AVal} {ks : List Nat} {t : List (List Int)} (h : PTab lo H k g (n + 1) rows ks t) (hlo : lo ≤ H.length) (g' : Nat) (r : List Int) :
    PTab lo (hset (hnew H g' (r.map I)) k g ((rows ++ List.replicate (n + 1) AVal.nilS).set t.length (.own H.length g' 1 0 r.length))) k g n (rows ++ [.own H.length g' 1 0 r.length]) (ks ++ [H.length]) (t ++ [r]) := by
  have hk := hlt_of_get h.all
  have hset1 : (rows ++ List.replicate (n + 1) AVal.nilS).set t.length (.own H.length g' 1 0 r.length) = rows ++ [.own H.length g' 1 0 r.length] ++ List.replicate n AVal.nilS := by
    rw [← h.tab.len, List.set_append_right _ _ (Nat.le_refl _), Nat.sub_self, List.replicate_succ, List.set_cons_zero, List.append_assoc]; rfl
  rw [hset1]
  refine ⟨hget_set _ _ (by rw [hlen_new]; omega), ?_⟩
  rw [hset_set]
  have h1 : OTab lo (hnew (hset H k g rows) g' (r.map I)) k g rows ks t := h.tab.frame fun i _ hi => hget_old _ _ hi
  have hl : (hset H k g rows).length = H.length := hlen_set _ _ _ _
  have hnot : H.length ∉ k :: ks := fun hm => by have := h.tab.lt _ hm; rw [hl] at this; omega
  have := h1.snoc (kr := H.length) (gr := g') (r := r) (by have := hget_new (hset H k g rows) g' (r.map I); rw [hl] at this; exact this) hlo hnot
  rw [← hset_old _ _ _ _ hk, hset_set] at this
  exact this

def tabRow (c : Nat) (F : Nat → Nat → Int) (i : Nat) : List Int := (List.range c).map (F i)
def tabT (r c : Nat) (F : Nat → Nat → Int) : List (List Int) := (List.range r).map (tabRow c F)
section
variable {rr c : Nat} {F : Nat → Nat → Int} {f : AVal} {H0 : Heap} {Q : AVal → Heap → Prop}
theorem table_in (hc : c ≤ 1000000) (hr : rr ≤ 1000000) (hf : ∀ i j, i < rr → j < c → ∀ H1, Fresh H0 H1 → CALLK Try.prog f [I (i : Nat), I (j : Nat)] H1 fun v H2 => v = I (F i j) ∧ H2 = H1) {i : Nat} (hi : i < rr) {k g n : Nat} {rows : List AVal} {ks : List Nat} {t : List (List Int)} {w13 w14 w1 : AVal} (htl : t.length = i)
    (hq : ∀ (H : Heap), PTab H0.length H k g n rows ks (t ++ [tabRow c F i]) → Fresh H0 H → impl_table.L7 Q w1 f (.own k g 1 0 rr) (I i) w13 w14 (I c) (I c) H) : ∀ (m j : Nat) (r : List Int) (H : Heap), j + m = c → r.length = c → r.take j = (tabRow c F i).take j → PTab H0.length H k g n rows ks (t ++ [r]) → Fresh H0 H →
      impl_table.L7 Q w1 f (.own k g 1 0 rr) (I i) w13 w14 (I c) (I j) H := by
  intro m
  induction m with
  | zero =>
    intro j r H hj h1 h2 hp hF
    have : j = c := by omega
    subst this
    rw [List.take_of_length_le (by omega), List.take_of_length_le (by simp [tabRow])] at h2
    rw [h2] at hp
    exact hq H hp hF
  | succ m ih =>
    intro j r H hj h1 h2 hp hF
    have hrow : (t ++ [r])[i]? = some r := by rw [← htl, List.getElem?_append_right (Nat.le_refl _), Nat.sub_self]; rfl
    obtain ⟨kj, gj, g1, g2, g3, g4, g5⟩ := hp.row hrow
    apply impl_table.step7
    unfold impl_table.step7_vc
    repeat' (first
    | with_reducible refine rTT ?_
    | with_reducible refine rRFL ?_
    | with_reducible refine rLEN (by assumption) ?_
    | (with_reducible refine rIXk (by assumption) (by assumption) ?_; intro p hp)
    | (with_reducible refine rIX (by assumption) (by omega) (by omega) ?_; intro p a ha hp)
    | with_reducible refine rLDi (by assumption) ?_
    | (with_reducible refine rLD (by assumption) ?_; intro c hc)
    | with_reducible refine rADD (by omega) ?_
    | with_reducible refine rSUB (by omega) ?_
    | with_reducible refine rLSS ?_
    | with_reducible refine rLEQ ?_
    | with_reducible refine rGTR ?_
    | with_reducible refine rGEQ ?_
    | with_reducible refine rEQL ?_
    | with_reducible refine rNEQ ?_
    | with_reducible refine rNOT ?_
    | (with_reducible refine rBRK ?_ ?_ <;> intro hb)
    | (with_reducible refine rBRKn ?_ ?_ <;> intro hb)
    | (with_reducible refine rBRKnb ?_ ?_ <;> intro hb)
    | (with_reducible refine rBRKb ?_ ?_ <;> intro hb)
    | (with_reducible refine rSPL ?_ ?_ <;> intro hb)
    | (with_reducible refine rSPLn ?_ ?_ <;> intro hb)
    | (with_reducible refine rSPLnb ?_ ?_ <;> intro hb)
    | (with_reducible refine rSPLb ?_ ?_ <;> intro hb)
    | (exfalso; omega))
    refine rIXo hi ?_
    repeat' (first
    | with_reducible refine rTT ?_
    | with_reducible refine rRFL ?_
    | with_reducible refine rLEN (by assumption) ?_
    | (with_reducible refine rIXk (by assumption) (by assumption) ?_; intro p hp)
    | (with_reducible refine rIX (by assumption) (by omega) (by omega) ?_; intro p a ha hp)
    | with_reducible refine rLDi (by assumption) ?_
    | (with_reducible refine rLD (by assumption) ?_; intro c hc)
    | with_reducible refine rADD (by omega) ?_
    | with_reducible refine rSUB (by omega) ?_
    | with_reducible refine rLSS ?_
    | with_reducible refine rLEQ ?_
    | with_reducible refine rGTR ?_
    | with_reducible refine rGEQ ?_
    | with_reducible refine rEQL ?_
    | with_reducible refine rNEQ ?_
    | with_reducible refine rNOT ?_
    | (with_reducible refine rBRK ?_ ?_ <;> intro hb)
    | (with_reducible refine rBRKn ?_ ?_ <;> intro hb)
    | (with_reducible refine rBRKnb ?_ ?_ <;> intro hb)
    | (with_reducible refine rBRKb ?_ ?_ <;> intro hb)
    | (with_reducible refine rSPL ?_ ?_ <;> intro hb)
    | (with_reducible refine rSPLn ?_ ?_ <;> intro hb)
    | (with_reducible refine rSPLnb ?_ ?_ <;> intro hb)
    | (with_reducible refine rSPLb ?_ ?_ <;> intro hb)
    | (exfalso; omega))
    refine rLDf hp.all g2 ?_
    refine CALLK_mono ?_ (hf i j hi (by omega) H hF)
    rintro v H2 ⟨rfl, rfl⟩
    refine ⟨⟨rfl, rfl, rLDf hp.all g2 rfl⟩, ?_⟩
    repeat' (first
    | with_reducible refine rTT ?_
    | with_reducible refine rRFL ?_
    | with_reducible refine rLEN (by assumption) ?_
    | (with_reducible refine rIXk (by assumption) (by assumption) ?_; intro p hp)
    | (with_reducible refine rIX (by assumption) (by omega) (by omega) ?_; intro p a ha hp)
    | with_reducible refine rLDi (by assumption) ?_
    | (with_reducible refine rLD (by assumption) ?_; intro c hc)
    | with_reducible refine rADD (by omega) ?_
    | with_reducible refine rSUB (by omega) ?_
    | with_reducible refine rLSS ?_
    | with_reducible refine rLEQ ?_
    | with_reducible refine rGTR ?_
    | with_reducible refine rGEQ ?_
    | with_reducible refine rEQL ?_
    | with_reducible refine rNEQ ?_
    | with_reducible refine rNOT ?_
    | (with_reducible refine rBRK ?_ ?_ <;> intro hb)
    | (with_reducible refine rBRKn ?_ ?_ <;> intro hb)
    | (with_reducible refine rBRKnb ?_ ?_ <;> intro hb)
    | (with_reducible refine rBRKb ?_ ?_ <;> intro hb)
    | (with_reducible refine rSPL ?_ ?_ <;> intro hb)
    | (with_reducible refine rSPLn ?_ ?_ <;> intro hb)
    | (with_reducible refine rSPLnb ?_ ?_ <;> intro hb)
    | (with_reducible refine rSPLb ?_ ?_ <;> intro hb)
    | (exfalso; omega))
    refine rIXo (by omega) ?_
    repeat' (first
    | with_reducible refine rTT ?_
    | with_reducible refine rRFL ?_
    | with_reducible refine rLEN (by assumption) ?_
    | (with_reducible refine rIXk (by assumption) (by assumption) ?_; intro p hp)
    | (with_reducible refine rIX (by assumption) (by omega) (by omega) ?_; intro p a ha hp)
    | with_reducible refine rLDi (by assumption) ?_
    | (with_reducible refine rLD (by assumption) ?_; intro c hc)
    | with_reducible refine rADD (by omega) ?_
    | with_reducible refine rSUB (by omega) ?_
    | with_reducible refine rLSS ?_
    | with_reducible refine rLEQ ?_
    | with_reducible refine rGTR ?_
    | with_reducible refine rGEQ ?_
    | with_reducible refine rEQL ?_
    | with_reducible refine rNEQ ?_
    | with_reducible refine rNOT ?_
    | (with_reducible refine rBRK ?_ ?_ <;> intro hb)
    | (with_reducible refine rBRKn ?_ ?_ <;> intro hb)
    | (with_reducible refine rBRKnb ?_ ?_ <;> intro hb)
    | (with_reducible refine rBRKb ?_ ?_ <;> intro hb)
    | (with_reducible refine rSPL ?_ ?_ <;> intro hb)
    | (with_reducible refine rSPLn ?_ ?_ <;> intro hb)
    | (with_reducible refine rSPLnb ?_ ?_ <;> intro hb)
    | (with_reducible refine rSPLb ?_ ?_ <;> intro hb)
    | (exfalso; omega))
    refine rSTp g3 (by simp; omega) rfl ?_
    repeat' (first
    | with_reducible refine rTT ?_
    | with_reducible refine rRFL ?_
    | with_reducible refine rLEN (by assumption) ?_
    | (with_reducible refine rIXk (by assumption) (by assumption) ?_; intro p hp)
    | (with_reducible refine rIX (by assumption) (by omega) (by omega) ?_; intro p a ha hp)
    | with_reducible refine rLDi (by assumption) ?_
    | (with_reducible refine rLD (by assumption) ?_; intro c hc)
    | with_reducible refine rADD (by omega) ?_
    | with_reducible refine rSUB (by omega) ?_
    | with_reducible refine rLSS ?_
    | with_reducible refine rLEQ ?_
    | with_reducible refine rGTR ?_
    | with_reducible refine rGEQ ?_
    | with_reducible refine rEQL ?_
    | with_reducible refine rNEQ ?_
    | with_reducible refine rNOT ?_
    | (with_reducible refine rBRK ?_ ?_ <;> intro hb)
    | (with_reducible refine rBRKn ?_ ?_ <;> intro hb)
    | (with_reducible refine rBRKnb ?_ ?_ <;> intro hb)
    | (with_reducible refine rBRKb ?_ ?_ <;> intro hb)
    | (with_reducible refine rSPL ?_ ?_ <;> intro hb)
    | (with_reducible refine rSPLn ?_ ?_ <;> intro hb)
    | (with_reducible refine rSPLnb ?_ ?_ <;> intro hb)
    | (with_reducible refine rSPLb ?_ ?_ <;> intro hb)
    | (exfalso; omega))
    have hset1 : (r.map I).set j (I (F i j)) = (r.set j (F i j)).map I := by rw [List.map_set]
    rw [hset1]
    have hp1 := hp.put hrow g1 g3 g5 (r' := r.set j (F i j)) (by simp)
    have hs : (t ++ [r]).set i (r.set j (F i j)) = t ++ [r.set j (F i j)] := by
      rw [← htl, List.set_append_right _ _ (Nat.le_refl _), Nat.sub_self]; rfl
    rw [hs] at hp1
    refine ih (j + 1) (r.set j (F i j)) _ (by omega) (by simpa using h1) ?_ hp1 (hF.set g4 _ (ifrees_map _))
    have e1 : (r.set j (F i j))[j]? = some (F i j) := List.getElem?_set_self (by omega)
    have e2 : (tabRow c F i)[j]? = some (F i j) := by simp [tabRow, List.getElem?_range (show j < c by omega)]
    rw [take_some e1, take_some e2, List.take_set_of_le (Nat.le_refl _), h2]
theorem table_out (hc : c ≤ 1000000) (hr : rr ≤ 1000000) (hf : ∀ i j, i < rr → j < c → ∀ H1, Fresh H0 H1 → CALLK Try.prog f [I (i : Nat), I (j : Nat)] H1 fun v H2 => v = I (F i j) ∧ H2 = H1) {k g : Nat} (hq : ∀ H rows ks, OTab H0.length H k g rows ks (tabT rr c F) → Fresh H0 H → Q (.own k g 1 0 rr) H) :
    ∀ (n i : Nat) (rows : List AVal) (ks : List Nat) (H : Heap), i + n = rr → PTab H0.length H k g n rows ks ((List.range i).map (tabRow c F)) → Fresh H0 H → impl_table.L3 Q (I c) f (.own k g 1 0 rr) (I rr) (I i) H := by
  intro n
  induction n with
  | zero =>
    intro i rows ks H hi hp hF
    have : i = rr := by omega
    subst this
    apply impl_table.step3
    unfold impl_table.step3_vc
    repeat' (first
    | with_reducible refine rTT ?_
    | with_reducible refine rRFL ?_
    | with_reducible refine rLEN (by assumption) ?_
    | (with_reducible refine rIXk (by assumption) (by assumption) ?_; intro p hp)
    | (with_reducible refine rIX (by assumption) (by omega) (by omega) ?_; intro p a ha hp)
    | with_reducible refine rLDi (by assumption) ?_
    | (with_reducible refine rLD (by assumption) ?_; intro c hc)
    | with_reducible refine rADD (by omega) ?_
    | with_reducible refine rSUB (by omega) ?_
    | with_reducible refine rLSS ?_
    | with_reducible refine rLEQ ?_
    | with_reducible refine rGTR ?_
    | with_reducible refine rGEQ ?_
    | with_reducible refine rEQL ?_
    | with_reducible refine rNEQ ?_
    | with_reducible refine rNOT ?_
    | (with_reducible refine rBRK ?_ ?_ <;> intro hb)
    | (with_reducible refine rBRKn ?_ ?_ <;> intro hb)
    | (with_reducible refine rBRKnb ?_ ?_ <;> intro hb)
    | (with_reducible refine rBRKb ?_ ?_ <;> intro hb)
    | (with_reducible refine rSPL ?_ ?_ <;> intro hb)
    | (with_reducible refine rSPLn ?_ ?_ <;> intro hb)
    | (with_reducible refine rSPLnb ?_ ?_ <;> intro hb)
    | (with_reducible refine rSPLb ?_ ?_ <;> intro hb)
    | (exfalso; omega))
    have h1 := hp.all
    simp only [List.replicate_zero, List.append_nil] at h1
    have h2 := hp.tab
    rw [hset_self h1] at h2
    exact hq H rows ks h2 hF
  | succ n ih =>
    intro i rows ks H hi hp hF
    have hlen : ((List.range i).map (tabRow c F)).length = i := by simp
    apply impl_table.step3
    unfold impl_table.step3_vc
    repeat' (first
    | with_reducible refine rTT ?_
    | with_reducible refine rRFL ?_
    | with_reducible refine rLEN (by assumption) ?_
    | (with_reducible refine rIXk (by assumption) (by assumption) ?_; intro p hp)
    | (with_reducible refine rIX (by assumption) (by omega) (by omega) ?_; intro p a ha hp)
    | with_reducible refine rLDi (by assumption) ?_
    | (with_reducible refine rLD (by assumption) ?_; intro c hc)
    | with_reducible refine rADD (by omega) ?_
    | with_reducible refine rSUB (by omega) ?_
    | with_reducible refine rLSS ?_
    | with_reducible refine rLEQ ?_
    | with_reducible refine rGTR ?_
    | with_reducible refine rGEQ ?_
    | with_reducible refine rEQL ?_
    | with_reducible refine rNEQ ?_
    | with_reducible refine rNOT ?_
    | (with_reducible refine rBRK ?_ ?_ <;> intro hb)
    | (with_reducible refine rBRKn ?_ ?_ <;> intro hb)
    | (with_reducible refine rBRKnb ?_ ?_ <;> intro hb)
    | (with_reducible refine rBRKb ?_ ?_ <;> intro hb)
    | (with_reducible refine rSPL ?_ ?_ <;> intro hb)
    | (with_reducible refine rSPLn ?_ ?_ <;> intro hb)
    | (with_reducible refine rSPLnb ?_ ?_ <;> intro hb)
    | (with_reducible refine rSPLb ?_ ?_ <;> intro hb)
    | (exfalso; omega))
    refine rMKI (by omega) (by omega) fun g' => ?_
    rw [Int.toNat_natCast]
    have hk := hlt_of_get hp.all
    have hrl : rows.length = i := by have := hp.tab.len; rw [hlen] at this; exact this
    have hp1 := hp.snoc hF.len g' (List.replicate c 0)
    have hF1 : Fresh H0 (hset (hnew H g' ((List.replicate c 0).map I)) k g ((rows ++ List.replicate (n + 1) AVal.nilS).set ((List.range i).map (tabRow c F)).length (.own H.length g' 1 0 (List.replicate c (0 : Int)).length))) := by
      refine (hF.trans (fresh_new H g' (ifrees_map _))).set hp.tab.lok g ?_
      have := (hF.new k g _ hp.tab.lok hp.all)
      rw [ifrees_iff] at this ⊢
      intro x hx
      rcases List.mem_or_eq_of_mem_set hx with h | rfl
      · exact this x h
      · rfl
    rw [hlen, show (List.replicate c (0 : Int)).length = c by simp] at hp1 hF1
    repeat' (first
    | with_reducible refine rTT ?_
    | with_reducible refine rRFL ?_
    | with_reducible refine rLEN (by assumption) ?_
    | (with_reducible refine rIXk (by assumption) (by assumption) ?_; intro p hp)
    | (with_reducible refine rIX (by assumption) (by omega) (by omega) ?_; intro p a ha hp)
    | with_reducible refine rLDi (by assumption) ?_
    | (with_reducible refine rLD (by assumption) ?_; intro c hc)
    | with_reducible refine rADD (by omega) ?_
    | with_reducible refine rSUB (by omega) ?_
    | with_reducible refine rLSS ?_
    | with_reducible refine rLEQ ?_
    | with_reducible refine rGTR ?_
    | with_reducible refine rGEQ ?_
    | with_reducible refine rEQL ?_
    | with_reducible refine rNEQ ?_
    | with_reducible refine rNOT ?_
    | (with_reducible refine rBRK ?_ ?_ <;> intro hb)
    | (with_reducible refine rBRKn ?_ ?_ <;> intro hb)
    | (with_reducible refine rBRKnb ?_ ?_ <;> intro hb)
    | (with_reducible refine rBRKb ?_ ?_ <;> intro hb)
    | (with_reducible refine rSPL ?_ ?_ <;> intro hb)
    | (with_reducible refine rSPLn ?_ ?_ <;> intro hb)
    | (with_reducible refine rSPLnb ?_ ?_ <;> intro hb)
    | (with_reducible refine rSPLb ?_ ?_ <;> intro hb)
    | (exfalso; omega))
    refine rIXo (by omega) ?_
    repeat' (first
    | with_reducible refine rTT ?_
    | with_reducible refine rRFL ?_
    | with_reducible refine rLEN (by assumption) ?_
    | (with_reducible refine rIXk (by assumption) (by assumption) ?_; intro p hp)
    | (with_reducible refine rIX (by assumption) (by omega) (by omega) ?_; intro p a ha hp)
    | with_reducible refine rLDi (by assumption) ?_
    | (with_reducible refine rLD (by assumption) ?_; intro c hc)
    | with_reducible refine rADD (by omega) ?_
    | with_reducible refine rSUB (by omega) ?_
    | with_reducible refine rLSS ?_
    | with_reducible refine rLEQ ?_
    | with_reducible refine rGTR ?_
    | with_reducible refine rGEQ ?_
    | with_reducible refine rEQL ?_
    | with_reducible refine rNEQ ?_
    | with_reducible refine rNOT ?_
    | (with_reducible refine rBRK ?_ ?_ <;> intro hb)
    | (with_reducible refine rBRKn ?_ ?_ <;> intro hb)
    | (with_reducible refine rBRKnb ?_ ?_ <;> intro hb)
    | (with_reducible refine rBRKb ?_ ?_ <;> intro hb)
    | (with_reducible refine rSPL ?_ ?_ <;> intro hb)
    | (with_reducible refine rSPLn ?_ ?_ <;> intro hb)
    | (with_reducible refine rSPLnb ?_ ?_ <;> intro hb)
    | (with_reducible refine rSPLb ?_ ?_ <;> intro hb)
    | (exfalso; omega))
    refine rSTp (cs := rows ++ List.replicate (n + 1) AVal.nilS) (by rw [hget_old _ _ hk]; exact hp.all) (by simp; omega) rfl ?_
    repeat' (first
    | with_reducible refine rTT ?_
    | with_reducible refine rRFL ?_
    | with_reducible refine rLEN (by assumption) ?_
    | (with_reducible refine rIXk (by assumption) (by assumption) ?_; intro p hp)
    | (with_reducible refine rIX (by assumption) (by omega) (by omega) ?_; intro p a ha hp)
    | with_reducible refine rLDi (by assumption) ?_
    | (with_reducible refine rLD (by assumption) ?_; intro c hc)
    | with_reducible refine rADD (by omega) ?_
    | with_reducible refine rSUB (by omega) ?_
    | with_reducible refine rLSS ?_
    | with_reducible refine rLEQ ?_
    | with_reducible refine rGTR ?_
    | with_reducible refine rGEQ ?_
    | with_reducible refine rEQL ?_
    | with_reducible refine rNEQ ?_
    | with_reducible refine rNOT ?_
    | (with_reducible refine rBRK ?_ ?_ <;> intro hb)
    | (with_reducible refine rBRKn ?_ ?_ <;> intro hb)
    | (with_reducible refine rBRKnb ?_ ?_ <;> intro hb)
    | (with_reducible refine rBRKb ?_ ?_ <;> intro hb)
    | (with_reducible refine rSPL ?_ ?_ <;> intro hb)
    | (with_reducible refine rSPLn ?_ ?_ <;> intro hb)
    | (with_reducible refine rSPLnb ?_ ?_ <;> intro hb)
    | (with_reducible refine rSPLb ?_ ?_ <;> intro hb)
    | (exfalso; omega))
    refine rIXo (by omega) ?_
    repeat' (first
    | with_reducible refine rTT ?_
    | with_reducible refine rRFL ?_
    | with_reducible refine rLEN (by assumption) ?_
    | (with_reducible refine rIXk (by assumption) (by assumption) ?_; intro p hp)
    | (with_reducible refine rIX (by assumption) (by omega) (by omega) ?_; intro p a ha hp)
    | with_reducible refine rLDi (by assumption) ?_
    | (with_reducible refine rLD (by assumption) ?_; intro c hc)
    | with_reducible refine rADD (by omega) ?_
    | with_reducible refine rSUB (by omega) ?_
    | with_reducible refine rLSS ?_
    | with_reducible refine rLEQ ?_
    | with_reducible refine rGTR ?_
    | with_reducible refine rGEQ ?_
    | with_reducible refine rEQL ?_
    | with_reducible refine rNEQ ?_
    | with_reducible refine rNOT ?_
    | (with_reducible refine rBRK ?_ ?_ <;> intro hb)
    | (with_reducible refine rBRKn ?_ ?_ <;> intro hb)
    | (with_reducible refine rBRKnb ?_ ?_ <;> intro hb)
    | (with_reducible refine rBRKb ?_ ?_ <;> intro hb)
    | (with_reducible refine rSPL ?_ ?_ <;> intro hb)
    | (with_reducible refine rSPLn ?_ ?_ <;> intro hb)
    | (with_reducible refine rSPLnb ?_ ?_ <;> intro hb)
    | (with_reducible refine rSPLb ?_ ?_ <;> intro hb)
    | (exfalso; omega))
    have hrow : ((List.range i).map (tabRow c F) ++ [List.replicate c 0])[i]? = some (List.replicate c 0) := by
      rw [List.getElem?_append_right (by simp), hlen, Nat.sub_self]; rfl
    obtain ⟨kj, gj, g1, g2, g3, g4, g5⟩ := hp1.row hrow
    refine rLDf hp1.all g2 ?_
    rw [show (List.replicate c (0 : Int)).length = c by simp]
    show impl_table.L7 Q _ _ _ _ _ _ (I c) _ _
    refine table_in hc hr hf (i := i) (by omega) hlen (fun H' hp' hF' => ?_) c 0 (List.replicate c 0) _ (by omega) (by simp) rfl hp1 hF1
    apply impl_table.step7
    unfold impl_table.step7_vc
    repeat' (first
    | with_reducible refine rTT ?_
    | with_reducible refine rRFL ?_
    | with_reducible refine rLEN (by assumption) ?_
    | (with_reducible refine rIXk (by assumption) (by assumption) ?_; intro p hp)
    | (with_reducible refine rIX (by assumption) (by omega) (by omega) ?_; intro p a ha hp)
    | with_reducible refine rLDi (by assumption) ?_
    | (with_reducible refine rLD (by assumption) ?_; intro c hc)
    | with_reducible refine rADD (by omega) ?_
    | with_reducible refine rSUB (by omega) ?_
    | with_reducible refine rLSS ?_
    | with_reducible refine rLEQ ?_
    | with_reducible refine rGTR ?_
    | with_reducible refine rGEQ ?_
    | with_reducible refine rEQL ?_
    | with_reducible refine rNEQ ?_
    | with_reducible refine rNOT ?_
    | (with_reducible refine rBRK ?_ ?_ <;> intro hb)
    | (with_reducible refine rBRKn ?_ ?_ <;> intro hb)
    | (with_reducible refine rBRKnb ?_ ?_ <;> intro hb)
    | (with_reducible refine rBRKb ?_ ?_ <;> intro hb)
    | (with_reducible refine rSPL ?_ ?_ <;> intro hb)
    | (with_reducible refine rSPLn ?_ ?_ <;> intro hb)
    | (with_reducible refine rSPLnb ?_ ?_ <;> intro hb)
    | (with_reducible refine rSPLb ?_ ?_ <;> intro hb)
    | (exfalso; omega))
    refine ih (i + 1) (rows ++ [AVal.own H.length g' 1 0 c]) (ks ++ [H.length]) H' (by omega) ?_ hF'
    rw [List.range_succ, List.map_append]
    exact hp'
theorem table_ok (hc : c ≤ 1000000) (hr : rr ≤ 1000000) (hf : ∀ i j, i < rr → j < c → ∀ H1, Fresh H0 H1 → CALLK Try.prog f [I (i : Nat), I (j : Nat)] H1 fun v H2 => v = I (F i j) ∧ H2 = H1) :
    ACalls Try.prog 107 [I rr, I c, f] H0 fun v H => IsOTab H0.length H v (tabT rr c F) ∧ Fresh H0 H := by
  apply impl_table.start
  unfold impl_table.start_vc
  refine ⟨rfl, rfl, ?_⟩
  refine ⟨by omega, by omega, rfl, rfl, fun g => ?_⟩
  rw [Int.toNat_natCast]
  have hrep : rep rr [AVal.nilS] = List.replicate rr AVal.nilS := by
    unfold rep
    clear hr hf
    induction rr with
    | zero => rfl
    | succ n ih => rw [List.replicate_succ, List.flatten_cons, ih, List.replicate_succ]; rfl
  rw [hrep]
  have hfree : IFrees (List.replicate rr AVal.nilS) = true := by
    rw [ifrees_iff]
    intro x hx
    rw [(List.mem_replicate.1 hx).2]; rfl
  show impl_table.L3 _ _ _ _ (I rr) _ _
  refine table_out hc hr hf (k := H0.length) (g := g) (fun H rows ks h1 h2 => ⟨.inr ⟨_, g, rows, ks, by simp [tabT], h1⟩, h2⟩) rr 0 [] [] _ (by omega) ⟨by rw [hget_new]; rfl, ?_⟩ (fresh_new H0 g hfree)
  rw [hset_new]
  exact ⟨hget_new _ _ _, Nat.le_refl _, rfl, rfl, by simp, fun j s kj h1 h2 => by simp at h2⟩
end

end Go.Proofs.Ytccioplhchmilaa.AL
