/-
  Contracts of functions, and what they rest on: Contracts: tables by a function of places. Contracts: corner sums and heights. Contracts: corner sums and heights, as the reference tells them. Contracts: heights, as the reference tells them. Contracts: comparing lists and tables. Contracts: the matrix of heights. Contracts: tables of heights. Contracts: the matrix of heights, as the reference tells it. Contracts: tables of heights, as the reference tells them. Contracts: the reference's test of heights. Contracts: comparing heights. Contracts: being below. Plain facts: sign matrices by places, their corner sums and heights, being below. Contracts: being below; drawn tables as values. Contracts: tables by closures, mirrors, the least and the greatest matrix.
-/
import Derived.Test.YtccioplhchmilaaLawColoursFlipM0
set_option linter.unusedVariables false
set_option maxRecDepth 100000
namespace Go.Proofs.Ytccioplhchmilaa.AL
open Go Go.Proofs

/-! impl.table (slots: 0 rows, 1 columns, 2 at, 3 rows, 4 columns, 5 at, 7 out, 8 i, 9 j) -/
namespace impl_table
def lv : List (Nat × List Nat) := [(3, [1, 2, 7, 13, 14]), (7, [1, 2, 7, 8, 13, 14, 26, 27])]
noncomputable def K3 : List KF := [.lp (cB (cB (cR (cL (cR (cR (bodyOf Try.f107))))))), .bl 0, .sq (cR (cR (cR (bodyOf Try.f107))))]
def L3 (Q : AVal → Heap → Prop) (v1 v2 v7 v13 v14 : AVal) (H : Heap) : Prop := At Try.prog 107 43 K3 Q (slotsOf [(1, v1), (2, v2), (7, v7), (13, v13), (14, v14)]) H
theorem L3_frz {Q : AVal → Heap → Prop} {v1 v2 v7 v13 v14 w1 w2 w7 w13 w14 : AVal} {H Hf Hk : Heap} {k : Nat} (hs : Split H Hf Hk) (hp : PurL Hf k [(1, v1, w1), (2, v2, w2), (7, v7, w7), (13, v13, w13), (14, v14, w14)]) (h : L3 Q w1 w2 w7 w13 w14 Hk) : L3 Q v1 v2 v7 v13 v14 H := at_frz (ks := K3) hs hp h
noncomputable def K7 : List KF := [.lp (cB (cB (cR (cR (cR (cB (cL (cR (cR (cB (cB (cR (cL (cR (cR (bodyOf Try.f107)))))))))))))))), .bl 2, .bl 1, .sq (cR (cR (cR (cB (cB (cR (cL (cR (cR (bodyOf Try.f107)))))))))), .lp (cB (cB (cR (cL (cR (cR (bodyOf Try.f107))))))), .bl 0, .sq (cR (cR (cR (bodyOf Try.f107))))]
def L7 (Q : AVal → Heap → Prop) (v1 v2 v7 v8 v13 v14 v26 v27 : AVal) (H : Heap) : Prop := At Try.prog 107 43 K7 Q (slotsOf [(1, v1), (2, v2), (7, v7), (8, v8), (13, v13), (14, v14), (26, v26), (27, v27)]) H
theorem L7_frz {Q : AVal → Heap → Prop} {v1 v2 v7 v8 v13 v14 v26 v27 w1 w2 w7 w8 w13 w14 w26 w27 : AVal} {H Hf Hk : Heap} {k : Nat} (hs : Split H Hf Hk) (hp : PurL Hf k [(1, v1, w1), (2, v2, w2), (7, v7, w7), (8, v8, w8), (13, v13, w13), (14, v14, w14), (26, v26, w26), (27, v27, w27)]) (h : L7 Q w1 w2 w7 w8 w13 w14 w26 w27 Hk) : L7 Q v1 v2 v7 v8 v13 v14 v26 v27 H := at_frz (ks := K7) hs hp h
def start_vc (Q : AVal → Heap → Prop) (a0 a1 a2 : AVal) (H : Heap) : Prop :=
 ((Go.Operand.tmp 10) = (Go.Operand.tmp 10)) ∧ TT ∧ MKK 1 AVal.nilS a0 H fun x1 H2 =>
 LENK x1 fun x3 =>
 impl_table.L3 Q a1 a2 x1 x3 (AVal.int .i64 0) H2
theorem start_eq (Q : AVal → Heap → Prop) (a0 a1 a2 : AVal) (H : Heap) : vs Try.prog lv 107 43 Try.f107.results.toList Q true 1000 [.sq (bodyOf Try.f107)] (entry [a0, a1, a2]) H = start_vc Q a0 a1 a2 H := by kernel_rfl
theorem start {Q : AVal → Heap → Prop} {a0 a1 a2 : AVal} {H : Heap} (h : start_vc Q a0 a1 a2 H) : ACalls Try.prog 107 [a0, a1, a2] H Q := acalls_vs (lv := lv) mixed Try.func107 rfl (by kernel_rfl) (by kernel_rfl) (start_eq Q a0 a1 a2 H ▸ h)
def step3_vc (Q : AVal → Heap → Prop) (v1 v2 v7 v13 v14 : AVal) (H : Heap) : Prop :=
 BINK .lss v14 v13 fun x1 =>
 BRK x1 (((Go.Operand.tmp 19) = (Go.Operand.tmp 19)) ∧ TT ∧ MKK 1 (AVal.int .i64 0) v1 H fun x2 H3 =>
 TT ∧ IXK 1 v7 v14 fun x4 =>
 TT ∧ STK 1 H3 x4 x2 fun H5 =>
 TT ∧ IXK 1 v7 v14 fun x6 =>
 TT ∧ TT ∧ LDK false 1 H5 x6 fun x7 =>
 LENK x7 fun x8 =>
 impl_table.L7 Q v1 v2 v7 v14 v13 v14 x8 (AVal.int .i64 0) H5) (Q v7 H)
theorem step3_eq (Q : AVal → Heap → Prop) (v1 v2 v7 v13 v14 : AVal) (H : Heap) : vs Try.prog lv 107 43 Try.f107.results.toList Q true 1000 (.sq (cB (cB (cR (cL (cR (cR (bodyOf Try.f107))))))) :: K3) (slotsOf [(1, v1), (2, v2), (7, v7), (13, v13), (14, v14)]) H = step3_vc Q v1 v2 v7 v13 v14 H := by kernel_rfl
theorem step3 {Q : AVal → Heap → Prop} {v1 v2 v7 v13 v14 : AVal} {H : Heap} (h : step3_vc Q v1 v2 v7 v13 v14 H) : L3 Q v1 v2 v7 v13 v14 H := at_lp_vs (lv := lv) (ks := K3.tail) mixed Try.func107 (step3_eq Q v1 v2 v7 v13 v14 H ▸ h)
def step7_vc (Q : AVal → Heap → Prop) (v1 v2 v7 v8 v13 v14 v26 v27 : AVal) (H : Heap) : Prop :=
 BINK .lss v27 v26 fun x1 =>
 BRK x1 (TT ∧ TT ∧ IXK 1 v7 v8 fun x2 =>
 TT ∧ TT ∧ LDK false 1 H x2 fun x3 =>
 CALLK Try.prog v2 [v8, v27] H fun x4 H5 =>
 (TT ∧ TT ∧ LDK false 1 H5 x2 fun x6 =>
 x6 = x3) ∧
 TT ∧ IXK 1 x3 v27 fun x7 =>
 TT ∧ STK 1 H5 x7 x4 fun H8 =>
 BINK .add v27 (AVal.int .i64 1) fun x9 =>
 impl_table.L7 Q v1 v2 v7 v8 v13 v14 v26 x9 H8) (BINK .add v14 (AVal.int .i64 1) fun x10 =>
 impl_table.L3 Q v1 v2 v7 v13 x10 H)
theorem step7_eq (Q : AVal → Heap → Prop) (v1 v2 v7 v8 v13 v14 v26 v27 : AVal) (H : Heap) : vs Try.prog lv 107 43 Try.f107.results.toList Q true 1000 (.sq (cB (cB (cR (cR (cR (cB (cL (cR (cR (cB (cB (cR (cL (cR (cR (bodyOf Try.f107)))))))))))))))) :: K7) (slotsOf [(1, v1), (2, v2), (7, v7), (8, v8), (13, v13), (14, v14), (26, v26), (27, v27)]) H = step7_vc Q v1 v2 v7 v8 v13 v14 v26 v27 H := by kernel_rfl
theorem step7 {Q : AVal → Heap → Prop} {v1 v2 v7 v8 v13 v14 v26 v27 : AVal} {H : Heap} (h : step7_vc Q v1 v2 v7 v8 v13 v14 v26 v27 H) : L7 Q v1 v2 v7 v8 v13 v14 v26 v27 H := at_lp_vs (lv := lv) (ks := K7.tail) mixed Try.func107 (step7_eq Q v1 v2 v7 v8 v13 v14 v26 v27 H ▸ h)
end impl_table


theorem OTab.snoc {lo : Nat} {H : Heap} {k g : Nat} {rows : List AVal} {ks : List Nat} {t : List (List Int)} (h : OTab lo H k g rows ks t) {kr gr : Nat} {r : List Int} (hr : hget H kr = some (gr, r.map I)) (hlo : lo ≤ kr) (hn : kr ∉ k :: ks) :
    OTab lo (hset H k g (rows ++ [.own kr gr 1 0 r.length])) k g (rows ++ [.own kr gr 1 0 r.length]) (ks ++ [kr]) (t ++ [r]) := by
  have hk' := hlt_of_get h.top
  have hnd := List.nodup_cons.1 h.nd
  refine ⟨hget_set _ _ hk', h.lok, by simp [h.len], by simp [h.kln], ?_, fun j s kj h1 h2 => ?_⟩
  · rw [List.nodup_cons]
    simp only [List.mem_cons, not_or] at hn
    refine ⟨?_, ?_⟩
    · simp only [List.mem_append, List.mem_singleton, not_or]; exact ⟨hnd.1, fun e => hn.1 e.symm⟩
    · rw [List.nodup_append]
      refine ⟨hnd.2, by simp, ?_⟩
      intro a ha b hb e
      simp at hb
      subst hb; subst e
      exact hn.2 ha
  · by_cases hjl : j < t.length
    · rw [List.getElem?_append_left hjl] at h1
      rw [List.getElem?_append_left (by rw [h.kln]; exact hjl)] at h2
      obtain ⟨gj, h3, h4, h5⟩ := h.row j s kj h1 h2
      refine ⟨gj, by rw [List.getElem?_append_left (by rw [h.len]; exact hjl)]; exact h3, ?_, h5⟩
      rw [hget_set_ne _ _ ?_]; exact h4
      intro e; subst e
      exact hnd.1 (List.mem_of_getElem? h2)
    · have hj : j = t.length := by
        have := (List.getElem?_eq_some_iff.1 h1).1
        simp at this; omega
      subst hj
      rw [List.getElem?_append_right (Nat.le_refl _), Nat.sub_self] at h1
      rw [List.getElem?_append_right (by rw [h.kln]; exact Nat.le_refl _), h.kln, Nat.sub_self] at h2
      cases h1; cases h2
      refine ⟨gr, by rw [List.getElem?_append_right (by rw [h.len]; exact Nat.le_refl _), h.len, Nat.sub_self]; rfl, ?_, hlo⟩
      rw [hget_set_ne _ _ ?_]; exact hr
      intro e; subst e; simp at hn

/-- A table whose last rows are still nil. -/
structure PTab (lo : Nat) (H : Heap) (k g n : Nat) (rows : List AVal) (ks : List Nat) (t : List (List Int)) : Prop where
  all : hget H k = some (g, rows ++ List.replicate n AVal.nilS)
  tab : OTab lo (hset H k g rows) k g rows ks t
theorem PTab.row {lo : Nat} {H : Heap} {k g n : Nat} {rows : List AVal} {ks : List Nat} {t : List (List Int)} (h : PTab lo H k g n rows ks t) {j : Nat} {r : List Int} (hj : t[j]? = some r) :
    ∃ kj gj, ks[j]? = some kj ∧ (rows ++ List.replicate n AVal.nilS)[j]? = some (.own kj gj 1 0 r.length) ∧ hget H kj = some (gj, r.map I) ∧ lo ≤ kj ∧ kj ≠ k := by
  obtain ⟨kj, gj, h1, h2, h3, h4, h5⟩ := h.tab.get hj
  refine ⟨kj, gj, h1, ?_, by rwa [hget_set_ne _ _ h5.symm] at h3, h4, h5⟩
  rw [List.getElem?_append_left (List.getElem?_eq_some_iff.1 h2).1]; exact h2
theorem hset_comm {H : Heap} {i j gi gj : Nat} {cs ds : List AVal} (h : i ≠ j) : hset (hset H i gi cs) j gj ds = hset (hset H j gj ds) i gi cs := by
  simp only [hset]; rw [List.set_comm _ _ h]
theorem PTab.put {lo : Nat} {H : Heap} {k g n : Nat} {rows : List AVal} {ks : List Nat} {t : List (List Int)} (h : PTab lo H k g n rows ks t) {j : Nat} {r : List Int} (hj : t[j]? = some r) {kj gj : Nat} (hkj : ks[j]? = some kj) (hg : hget H kj = some (gj, r.map I)) (hne : kj ≠ k) {r' : List Int} (hl : r'.length = r.length) :
    PTab lo (hset H kj gj (r'.map I)) k g n rows ks (t.set j r') := by
  refine ⟨by rw [hget_set_ne _ _ hne]; exact h.all, ?_⟩
  have := h.tab.put hj hkj (by rw [hget_set_ne _ _ hne.symm]; exact hg) hl
  rw [hset_comm hne]; exact this
theorem PTab.snoc {lo : Nat} {H : Heap} {k g n : Nat} {rows : List AVal} {ks : List Nat} {t : List (List Int)} (h : PTab lo H k g (n + 1) rows ks t) (hlo : lo ≤ H.length) (g' : Nat) (r : List Int) :
    PTab lo (hset (hnew H g' (r.map I)) k g ((rows ++ List.replicate (n + 1) AVal.nilS).set t.length (.own H.length g' 1 0 r.length))) k g n (rows ++ [.own H.length g' 1 0 r.length]) (ks ++ [H.length]) (t ++ [r]) := by
  have hk := hlt_of_get h.all
  have hset1 : (rows ++ List.replicate (n + 1) AVal.nilS).set t.length (.own H.length g' 1 0 r.length) = rows ++ [.own H.length g' 1 0 r.length] ++ List.replicate n AVal.nilS := by
    rw [← h.tab.len, List.set_append_right _ _ (Nat.le_refl _), Nat.sub_self, List.replicate_succ, List.set_cons_zero, List.append_assoc]; rfl
  rw [hset1]
  refine ⟨hget_set _ _ (by rw [hlen_new]; omega), ?_⟩
  rw [hset_set]
  have h1 : OTab lo (hnew (hset H k g rows) g' (r.map I)) k g rows ks t := h.tab.frame fun i _ hi => hget_old _ _ hi
  have hl : (hset H k g rows).length = H.length := hlen_set _ _ _ _
  have hnot : H.length ∉ k :: ks := fun hm => by have := h.tab.lt _ hm; rw [hl] at this; omega
  have := h1.snoc (kr := H.length) (gr := g') (r := r) (by have := hget_new (hset H k g rows) g' (r.map I); rw [hl] at this; exact this) hlo hnot
  rw [← hset_old _ _ _ _ hk, hset_set] at this
  exact this

def tabRow (c : Nat) (F : Nat → Nat → Int) (i : Nat) : List Int := (List.range c).map (F i)
def tabT (r c : Nat) (F : Nat → Nat → Int) : List (List Int) := (List.range r).map (tabRow c F)
section
variable {rr c : Nat} {F : Nat → Nat → Int} {f : AVal} {H0 : Heap} {Q : AVal → Heap → Prop}
theorem table_in (hc : c ≤ 1000000) (hr : rr ≤ 1000000) (hf : ∀ i j, i < rr → j < c → ∀ H1, Fresh H0 H1 → CALLK Try.prog f [I (i : Nat), I (j : Nat)] H1 fun v H2 => v = I (F i j) ∧ H2 = H1) {i : Nat} (hi : i < rr) {k g n : Nat} {rows : List AVal} {ks : List Nat} {t : List (List Int)} {w13 w14 w1 : AVal} (htl : t.length = i)
    (hq : ∀ (H : Heap), PTab H0.length H k g n rows ks (t ++ [tabRow c F i]) → Fresh H0 H → impl_table.L7 Q w1 f (.own k g 1 0 rr) (I i) w13 w14 (I c) (I c) H) : ∀ (m j : Nat) (r : List Int) (H : Heap), j + m = c → r.length = c → r.take j = (tabRow c F i).take j → PTab H0.length H k g n rows ks (t ++ [r]) → Fresh H0 H →
      impl_table.L7 Q w1 f (.own k g 1 0 rr) (I i) w13 w14 (I c) (I j) H := by
  intro m
  induction m with
  | zero =>
    intro j r H hj h1 h2 hp hF
    have : j = c := by omega
    subst this
    rw [List.take_of_length_le (by omega), List.take_of_length_le (by simp [tabRow])] at h2
    rw [h2] at hp
    exact hq H hp hF
  | succ m ih =>
    intro j r H hj h1 h2 hp hF
    have hrow : (t ++ [r])[i]? = some r := by rw [← htl, List.getElem?_append_right (Nat.le_refl _), Nat.sub_self]; rfl
    obtain ⟨kj, gj, g1, g2, g3, g4, g5⟩ := hp.row hrow
    apply impl_table.step7
    unfold impl_table.step7_vc
    repeat' (with_reducible first
 | refine rTT ?_
 | refine rRFL ?_
 | refine rLEN (by assumption) ?_
 | (refine rIXk (by assumption) (by assumption) ?_; intro p hp)
 | (refine rIX (by assumption) (by omega) (by omega) ?_; intro p a ha hp)
 | refine rLDi (by assumption) ?_
 | (refine rLD (by assumption) ?_; intro c hc)
 | refine rADD (by omega) ?_
 | refine rSUB (by omega) ?_
 | refine rLSS ?_
 | refine rLEQ ?_
 | refine rGTR ?_
 | refine rGEQ ?_
 | refine rEQL ?_
 | refine rNEQ ?_
 | refine rNOT ?_
 | (refine rBRK ?_ ?_ <;> intro hb)
 | (refine rBRKn ?_ ?_ <;> intro hb)
 | (refine rBRKnb ?_ ?_ <;> intro hb)
 | (refine rBRKb ?_ ?_ <;> intro hb)
 | (refine rSPL ?_ ?_ <;> intro hb)
 | (refine rSPLn ?_ ?_ <;> intro hb)
 | (refine rSPLnb ?_ ?_ <;> intro hb)
 | (refine rSPLb ?_ ?_ <;> intro hb)
 | (exfalso; omega))
    refine rIXo hi ?_
    repeat' (with_reducible first
 | refine rTT ?_
 | refine rRFL ?_
 | refine rLEN (by assumption) ?_
 | (refine rIXk (by assumption) (by assumption) ?_; intro p hp)
 | (refine rIX (by assumption) (by omega) (by omega) ?_; intro p a ha hp)
 | refine rLDi (by assumption) ?_
 | (refine rLD (by assumption) ?_; intro c hc)
 | refine rADD (by omega) ?_
 | refine rSUB (by omega) ?_
 | refine rLSS ?_
 | refine rLEQ ?_
 | refine rGTR ?_
 | refine rGEQ ?_
 | refine rEQL ?_
 | refine rNEQ ?_
 | refine rNOT ?_
 | (refine rBRK ?_ ?_ <;> intro hb)
 | (refine rBRKn ?_ ?_ <;> intro hb)
 | (refine rBRKnb ?_ ?_ <;> intro hb)
 | (refine rBRKb ?_ ?_ <;> intro hb)
 | (refine rSPL ?_ ?_ <;> intro hb)
 | (refine rSPLn ?_ ?_ <;> intro hb)
 | (refine rSPLnb ?_ ?_ <;> intro hb)
 | (refine rSPLb ?_ ?_ <;> intro hb)
 | (exfalso; omega))
    refine rLDf hp.all g2 ?_
    refine CALLK_mono ?_ (hf i j hi (by omega) H hF)
    rintro v H2 ⟨rfl, rfl⟩
    refine ⟨⟨rfl, rfl, rLDf hp.all g2 rfl⟩, ?_⟩
    repeat' (with_reducible first
 | refine rTT ?_
 | refine rRFL ?_
 | refine rLEN (by assumption) ?_
 | (refine rIXk (by assumption) (by assumption) ?_; intro p hp)
 | (refine rIX (by assumption) (by omega) (by omega) ?_; intro p a ha hp)
 | refine rLDi (by assumption) ?_
 | (refine rLD (by assumption) ?_; intro c hc)
 | refine rADD (by omega) ?_
 | refine rSUB (by omega) ?_
 | refine rLSS ?_
 | refine rLEQ ?_
 | refine rGTR ?_
 | refine rGEQ ?_
 | refine rEQL ?_
 | refine rNEQ ?_
 | refine rNOT ?_
 | (refine rBRK ?_ ?_ <;> intro hb)
 | (refine rBRKn ?_ ?_ <;> intro hb)
 | (refine rBRKnb ?_ ?_ <;> intro hb)
 | (refine rBRKb ?_ ?_ <;> intro hb)
 | (refine rSPL ?_ ?_ <;> intro hb)
 | (refine rSPLn ?_ ?_ <;> intro hb)
 | (refine rSPLnb ?_ ?_ <;> intro hb)
 | (refine rSPLb ?_ ?_ <;> intro hb)
 | (exfalso; omega))
    refine rIXo (by omega) ?_
    repeat' (with_reducible first
 | refine rTT ?_
 | refine rRFL ?_
 | refine rLEN (by assumption) ?_
 | (refine rIXk (by assumption) (by assumption) ?_; intro p hp)
 | (refine rIX (by assumption) (by omega) (by omega) ?_; intro p a ha hp)
 | refine rLDi (by assumption) ?_
 | (refine rLD (by assumption) ?_; intro c hc)
 | refine rADD (by omega) ?_
 | refine rSUB (by omega) ?_
 | refine rLSS ?_
 | refine rLEQ ?_
 | refine rGTR ?_
 | refine rGEQ ?_
 | refine rEQL ?_
 | refine rNEQ ?_
 | refine rNOT ?_
 | (refine rBRK ?_ ?_ <;> intro hb)
 | (refine rBRKn ?_ ?_ <;> intro hb)
 | (refine rBRKnb ?_ ?_ <;> intro hb)
 | (refine rBRKb ?_ ?_ <;> intro hb)
 | (refine rSPL ?_ ?_ <;> intro hb)
 | (refine rSPLn ?_ ?_ <;> intro hb)
 | (refine rSPLnb ?_ ?_ <;> intro hb)
 | (refine rSPLb ?_ ?_ <;> intro hb)
 | (exfalso; omega))
    refine rSTp g3 (by simp; omega) rfl ?_
    repeat' (with_reducible first
 | refine rTT ?_
 | refine rRFL ?_
 | refine rLEN (by assumption) ?_
 | (refine rIXk (by assumption) (by assumption) ?_; intro p hp)
 | (refine rIX (by assumption) (by omega) (by omega) ?_; intro p a ha hp)
 | refine rLDi (by assumption) ?_
 | (refine rLD (by assumption) ?_; intro c hc)
 | refine rADD (by omega) ?_
 | refine rSUB (by omega) ?_
 | refine rLSS ?_
 | refine rLEQ ?_
 | refine rGTR ?_
 | refine rGEQ ?_
 | refine rEQL ?_
 | refine rNEQ ?_
 | refine rNOT ?_
 | (refine rBRK ?_ ?_ <;> intro hb)
 | (refine rBRKn ?_ ?_ <;> intro hb)
 | (refine rBRKnb ?_ ?_ <;> intro hb)
 | (refine rBRKb ?_ ?_ <;> intro hb)
 | (refine rSPL ?_ ?_ <;> intro hb)
 | (refine rSPLn ?_ ?_ <;> intro hb)
 | (refine rSPLnb ?_ ?_ <;> intro hb)
 | (refine rSPLb ?_ ?_ <;> intro hb)
 | (exfalso; omega))
    have hset1 : (r.map I).set j (I (F i j)) = (r.set j (F i j)).map I := by rw [List.map_set]
    rw [hset1]
    have hp1 := hp.put hrow g1 g3 g5 (r' := r.set j (F i j)) (by simp)
    have hs : (t ++ [r]).set i (r.set j (F i j)) = t ++ [r.set j (F i j)] := by
      rw [← htl, List.set_append_right _ _ (Nat.le_refl _), Nat.sub_self]; rfl
    rw [hs] at hp1
    refine ih (j + 1) (r.set j (F i j)) _ (by omega) (by simpa using h1) ?_ hp1 (hF.set g4 _ (ifrees_map _))
    have e1 : (r.set j (F i j))[j]? = some (F i j) := List.getElem?_set_self (by omega)
    have e2 : (tabRow c F i)[j]? = some (F i j) := by simp [tabRow, List.getElem?_range (show j < c by omega)]
    rw [take_some e1, take_some e2, List.take_set_of_le (Nat.le_refl _), h2]
theorem table_out (hc : c ≤ 1000000) (hr : rr ≤ 1000000) (hf : ∀ i j, i < rr → j < c → ∀ H1, Fresh H0 H1 → CALLK Try.prog f [I (i : Nat), I (j : Nat)] H1 fun v H2 => v = I (F i j) ∧ H2 = H1) {k g : Nat} (hq : ∀ H rows ks, OTab H0.length H k g rows ks (tabT rr c F) → Fresh H0 H → Q (.own k g 1 0 rr) H) :
    ∀ (n i : Nat) (rows : List AVal) (ks : List Nat) (H : Heap), i + n = rr → PTab H0.length H k g n rows ks ((List.range i).map (tabRow c F)) → Fresh H0 H → impl_table.L3 Q (I c) f (.own k g 1 0 rr) (I rr) (I i) H := by
  intro n
  induction n with
  | zero =>
    intro i rows ks H hi hp hF
    have : i = rr := by omega
    subst this
    apply impl_table.step3
    unfold impl_table.step3_vc
    repeat' (with_reducible first
 | refine rTT ?_
 | refine rRFL ?_
 | refine rLEN (by assumption) ?_
 | (refine rIXk (by assumption) (by assumption) ?_; intro p hp)
 | (refine rIX (by assumption) (by omega) (by omega) ?_; intro p a ha hp)
 | refine rLDi (by assumption) ?_
 | (refine rLD (by assumption) ?_; intro c hc)
 | refine rADD (by omega) ?_
 | refine rSUB (by omega) ?_
 | refine rLSS ?_
 | refine rLEQ ?_
 | refine rGTR ?_
 | refine rGEQ ?_
 | refine rEQL ?_
 | refine rNEQ ?_
 | refine rNOT ?_
 | (refine rBRK ?_ ?_ <;> intro hb)
 | (refine rBRKn ?_ ?_ <;> intro hb)
 | (refine rBRKnb ?_ ?_ <;> intro hb)
 | (refine rBRKb ?_ ?_ <;> intro hb)
 | (refine rSPL ?_ ?_ <;> intro hb)
 | (refine rSPLn ?_ ?_ <;> intro hb)
 | (refine rSPLnb ?_ ?_ <;> intro hb)
 | (refine rSPLb ?_ ?_ <;> intro hb)
 | (exfalso; omega))
    have h1 := hp.all
    simp only [List.replicate_zero, List.append_nil] at h1
    have h2 := hp.tab
    rw [hset_self h1] at h2
    exact hq H rows ks h2 hF
  | succ n ih =>
    intro i rows ks H hi hp hF
    have hlen : ((List.range i).map (tabRow c F)).length = i := by simp
    apply impl_table.step3
    unfold impl_table.step3_vc
    repeat' (with_reducible first
 | refine rTT ?_
 | refine rRFL ?_
 | refine rLEN (by assumption) ?_
 | (refine rIXk (by assumption) (by assumption) ?_; intro p hp)
 | (refine rIX (by assumption) (by omega) (by omega) ?_; intro p a ha hp)
 | refine rLDi (by assumption) ?_
 | (refine rLD (by assumption) ?_; intro c hc)
 | refine rADD (by omega) ?_
 | refine rSUB (by omega) ?_
 | refine rLSS ?_
 | refine rLEQ ?_
 | refine rGTR ?_
 | refine rGEQ ?_
 | refine rEQL ?_
 | refine rNEQ ?_
 | refine rNOT ?_
 | (refine rBRK ?_ ?_ <;> intro hb)
 | (refine rBRKn ?_ ?_ <;> intro hb)
 | (refine rBRKnb ?_ ?_ <;> intro hb)
 | (refine rBRKb ?_ ?_ <;> intro hb)
 | (refine rSPL ?_ ?_ <;> intro hb)
 | (refine rSPLn ?_ ?_ <;> intro hb)
 | (refine rSPLnb ?_ ?_ <;> intro hb)
 | (refine rSPLb ?_ ?_ <;> intro hb)
 | (exfalso; omega))
    refine rMKI (by omega) (by omega) fun g' => ?_
    rw [Int.toNat_natCast]
    have hk := hlt_of_get hp.all
    have hrl : rows.length = i := by have := hp.tab.len; rw [hlen] at this; exact this
    have hp1 := hp.snoc hF.len g' (List.replicate c 0)
    have hF1 : Fresh H0 (hset (hnew H g' ((List.replicate c 0).map I)) k g ((rows ++ List.replicate (n + 1) AVal.nilS).set ((List.range i).map (tabRow c F)).length (.own H.length g' 1 0 (List.replicate c (0 : Int)).length))) := by
      refine (hF.trans (fresh_new H g' (ifrees_map _))).set hp.tab.lok g ?_
      have := (hF.new k g _ hp.tab.lok hp.all)
      rw [ifrees_iff] at this ⊢
      intro x hx
      rcases List.mem_or_eq_of_mem_set hx with h | rfl
      · exact this x h
      · rfl
    rw [hlen, show (List.replicate c (0 : Int)).length = c by simp] at hp1 hF1
    repeat' (with_reducible first
 | refine rTT ?_
 | refine rRFL ?_
 | refine rLEN (by assumption) ?_
 | (refine rIXk (by assumption) (by assumption) ?_; intro p hp)
 | (refine rIX (by assumption) (by omega) (by omega) ?_; intro p a ha hp)
 | refine rLDi (by assumption) ?_
 | (refine rLD (by assumption) ?_; intro c hc)
 | refine rADD (by omega) ?_
 | refine rSUB (by omega) ?_
 | refine rLSS ?_
 | refine rLEQ ?_
 | refine rGTR ?_
 | refine rGEQ ?_
 | refine rEQL ?_
 | refine rNEQ ?_
 | refine rNOT ?_
 | (refine rBRK ?_ ?_ <;> intro hb)
 | (refine rBRKn ?_ ?_ <;> intro hb)
 | (refine rBRKnb ?_ ?_ <;> intro hb)
 | (refine rBRKb ?_ ?_ <;> intro hb)
 | (refine rSPL ?_ ?_ <;> intro hb)
 | (refine rSPLn ?_ ?_ <;> intro hb)
 | (refine rSPLnb ?_ ?_ <;> intro hb)
 | (refine rSPLb ?_ ?_ <;> intro hb)
 | (exfalso; omega))
    refine rIXo (by omega) ?_
    repeat' (with_reducible first
 | refine rTT ?_
 | refine rRFL ?_
 | refine rLEN (by assumption) ?_
 | (refine rIXk (by assumption) (by assumption) ?_; intro p hp)
 | (refine rIX (by assumption) (by omega) (by omega) ?_; intro p a ha hp)
 | refine rLDi (by assumption) ?_
 | (refine rLD (by assumption) ?_; intro c hc)
 | refine rADD (by omega) ?_
 | refine rSUB (by omega) ?_
 | refine rLSS ?_
 | refine rLEQ ?_
 | refine rGTR ?_
 | refine rGEQ ?_
 | refine rEQL ?_
 | refine rNEQ ?_
 | refine rNOT ?_
 | (refine rBRK ?_ ?_ <;> intro hb)
 | (refine rBRKn ?_ ?_ <;> intro hb)
 | (refine rBRKnb ?_ ?_ <;> intro hb)
 | (refine rBRKb ?_ ?_ <;> intro hb)
 | (refine rSPL ?_ ?_ <;> intro hb)
 | (refine rSPLn ?_ ?_ <;> intro hb)
 | (refine rSPLnb ?_ ?_ <;> intro hb)
 | (refine rSPLb ?_ ?_ <;> intro hb)
 | (exfalso; omega))
    refine rSTp (cs := rows ++ List.replicate (n + 1) AVal.nilS) (by rw [hget_old _ _ hk]; exact hp.all) (by simp; omega) rfl ?_
    repeat' (with_reducible first
 | refine rTT ?_
 | refine rRFL ?_
 | refine rLEN (by assumption) ?_
 | (refine rIXk (by assumption) (by assumption) ?_; intro p hp)
 | (refine rIX (by assumption) (by omega) (by omega) ?_; intro p a ha hp)
 | refine rLDi (by assumption) ?_
 | (refine rLD (by assumption) ?_; intro c hc)
 | refine rADD (by omega) ?_
 | refine rSUB (by omega) ?_
 | refine rLSS ?_
 | refine rLEQ ?_
 | refine rGTR ?_
 | refine rGEQ ?_
 | refine rEQL ?_
 | refine rNEQ ?_
 | refine rNOT ?_
 | (refine rBRK ?_ ?_ <;> intro hb)
 | (refine rBRKn ?_ ?_ <;> intro hb)
 | (refine rBRKnb ?_ ?_ <;> intro hb)
 | (refine rBRKb ?_ ?_ <;> intro hb)
 | (refine rSPL ?_ ?_ <;> intro hb)
 | (refine rSPLn ?_ ?_ <;> intro hb)
 | (refine rSPLnb ?_ ?_ <;> intro hb)
 | (refine rSPLb ?_ ?_ <;> intro hb)
 | (exfalso; omega))
    refine rIXo (by omega) ?_
    repeat' (with_reducible first
 | refine rTT ?_
 | refine rRFL ?_
 | refine rLEN (by assumption) ?_
 | (refine rIXk (by assumption) (by assumption) ?_; intro p hp)
 | (refine rIX (by assumption) (by omega) (by omega) ?_; intro p a ha hp)
 | refine rLDi (by assumption) ?_
 | (refine rLD (by assumption) ?_; intro c hc)
 | refine rADD (by omega) ?_
 | refine rSUB (by omega) ?_
 | refine rLSS ?_
 | refine rLEQ ?_
 | refine rGTR ?_
 | refine rGEQ ?_
 | refine rEQL ?_
 | refine rNEQ ?_
 | refine rNOT ?_
 | (refine rBRK ?_ ?_ <;> intro hb)
 | (refine rBRKn ?_ ?_ <;> intro hb)
 | (refine rBRKnb ?_ ?_ <;> intro hb)
 | (refine rBRKb ?_ ?_ <;> intro hb)
 | (refine rSPL ?_ ?_ <;> intro hb)
 | (refine rSPLn ?_ ?_ <;> intro hb)
 | (refine rSPLnb ?_ ?_ <;> intro hb)
 | (refine rSPLb ?_ ?_ <;> intro hb)
 | (exfalso; omega))
    have hrow : ((List.range i).map (tabRow c F) ++ [List.replicate c 0])[i]? = some (List.replicate c 0) := by
      rw [List.getElem?_append_right (by simp), hlen, Nat.sub_self]; rfl
    obtain ⟨kj, gj, g1, g2, g3, g4, g5⟩ := hp1.row hrow
    refine rLDf hp1.all g2 ?_
    rw [show (List.replicate c (0 : Int)).length = c by simp]
    show impl_table.L7 Q _ _ _ _ _ _ (I c) _ _
    refine table_in hc hr hf (i := i) (by omega) hlen (fun H' hp' hF' => ?_) c 0 (List.replicate c 0) _ (by omega) (by simp) rfl hp1 hF1
    apply impl_table.step7
    unfold impl_table.step7_vc
    repeat' (with_reducible first
 | refine rTT ?_
 | refine rRFL ?_
 | refine rLEN (by assumption) ?_
 | (refine rIXk (by assumption) (by assumption) ?_; intro p hp)
 | (refine rIX (by assumption) (by omega) (by omega) ?_; intro p a ha hp)
 | refine rLDi (by assumption) ?_
 | (refine rLD (by assumption) ?_; intro c hc)
 | refine rADD (by omega) ?_
 | refine rSUB (by omega) ?_
 | refine rLSS ?_
 | refine rLEQ ?_
 | refine rGTR ?_
 | refine rGEQ ?_
 | refine rEQL ?_
 | refine rNEQ ?_
 | refine rNOT ?_
 | (refine rBRK ?_ ?_ <;> intro hb)
 | (refine rBRKn ?_ ?_ <;> intro hb)
 | (refine rBRKnb ?_ ?_ <;> intro hb)
 | (refine rBRKb ?_ ?_ <;> intro hb)
 | (refine rSPL ?_ ?_ <;> intro hb)
 | (refine rSPLn ?_ ?_ <;> intro hb)
 | (refine rSPLnb ?_ ?_ <;> intro hb)
 | (refine rSPLb ?_ ?_ <;> intro hb)
 | (exfalso; omega))
    refine ih (i + 1) (rows ++ [AVal.own H.length g' 1 0 c]) (ks ++ [H.length]) H' (by omega) ?_ hF'
    rw [List.range_succ, List.map_append]
    exact hp'
theorem table_ok (hc : c ≤ 1000000) (hr : rr ≤ 1000000) (hf : ∀ i j, i < rr → j < c → ∀ H1, Fresh H0 H1 → CALLK Try.prog f [I (i : Nat), I (j : Nat)] H1 fun v H2 => v = I (F i j) ∧ H2 = H1) :
    ACalls Try.prog 107 [I rr, I c, f] H0 fun v H => IsOTab H0.length H v (tabT rr c F) ∧ Fresh H0 H := by
  apply impl_table.start
  unfold impl_table.start_vc
  refine ⟨rfl, rfl, ?_⟩
  refine ⟨by omega, by omega, rfl, rfl, fun g => ?_⟩
  rw [Int.toNat_natCast]
  have hrep : rep rr [AVal.nilS] = List.replicate rr AVal.nilS := by
    unfold rep
    clear hr hf
    induction rr with
    | zero => rfl
    | succ n ih => rw [List.replicate_succ, List.flatten_cons, ih, List.replicate_succ]; rfl
  rw [hrep]
  have hfree : IFrees (List.replicate rr AVal.nilS) = true := by
    rw [ifrees_iff]
    intro x hx
    rw [(List.mem_replicate.1 hx).2]; rfl
  show impl_table.L3 _ _ _ _ (I rr) _ _
  refine table_out hc hr hf (k := H0.length) (g := g) (fun H rows ks h1 h2 => ⟨.inr ⟨_, g, rows, ks, by simp [tabT], h1⟩, h2⟩) rr 0 [] [] _ (by omega) ⟨by rw [hget_new]; rfl, ?_⟩ (fresh_new H0 g hfree)
  rw [hset_new]
  exact ⟨hget_new _ _ _, Nat.le_refl _, rfl, rfl, by simp, fun j s kj h1 h2 => by simp at h2⟩
end

end Go.Proofs.Ytccioplhchmilaa.AL

set_option linter.unusedVariables false
set_option maxRecDepth 100000
namespace Go.Proofs.Ytccioplhchmilaa.AL
open Go Go.Proofs

/-! impl.cornerSum (slots: 0 m, 1 rows, 2 columns, 3 m, 4 rows, 5 columns, 7 all, 8 _, 9 row) -/
namespace impl_cornerSum
def lv : List (Nat × List Nat) := [(3, [2, 7, 12, 13, 14])]
noncomputable def K3 : List KF := [.lp (cB (cB (cR (cL (cR (cR (bodyOf Try.f109))))))), .bl 0, .sq (cR (cR (cR (bodyOf Try.f109))))]
def L3 (Q : AVal → Heap → Prop) (v2 v7 v12 v13 v14 : AVal) (H : Heap) : Prop := At Try.prog 109 26 K3 Q (slotsOf [(2, v2), (7, v7), (12, v12), (13, v13), (14, v14)]) H
theorem L3_frz {Q : AVal → Heap → Prop} {v2 v7 v12 v13 v14 w2 w7 w12 w13 w14 : AVal} {H Hf Hk : Heap} {k : Nat} (hs : Split H Hf Hk) (hp : PurL Hf k [(2, v2, w2), (7, v7, w7), (12, v12, w12), (13, v13, w13), (14, v14, w14)]) (h : L3 Q w2 w7 w12 w13 w14 Hk) : L3 Q v2 v7 v12 v13 v14 H := at_frz (ks := K3) hs hp h
def start_vc (Q : AVal → Heap → Prop) (a0 a1 a2 : AVal) (H : Heap) : Prop :=
 TT ∧ TT ∧ SLK 1 a0 none (some a1) none fun x1 =>
 LENK x1 fun x2 =>
 impl_cornerSum.L3 Q a2 (AVal.int .i64 0) x1 x2 (AVal.int .i64 0) H
theorem start_eq (Q : AVal → Heap → Prop) (a0 a1 a2 : AVal) (H : Heap) : vs Try.prog lv 109 26 Try.f109.results.toList Q true 1000 [.sq (bodyOf Try.f109)] (entry [a0, a1, a2]) H = start_vc Q a0 a1 a2 H := by kernel_rfl
theorem start {Q : AVal → Heap → Prop} {a0 a1 a2 : AVal} {H : Heap} (h : start_vc Q a0 a1 a2 H) : ACalls Try.prog 109 [a0, a1, a2] H Q := acalls_vs (lv := lv) mixed Try.func109 rfl (by kernel_rfl) (by kernel_rfl) (start_eq Q a0 a1 a2 H ▸ h)
def step3_vc (Q : AVal → Heap → Prop) (v2 v7 v12 v13 v14 : AVal) (H : Heap) : Prop :=
 BINK .lss v14 v13 fun x1 =>
 BRK x1 (TT ∧ IXK 1 v12 v14 fun x2 =>
 TT ∧ TT ∧ LDK false 1 H x2 fun x3 =>
 TT ∧ TT ∧ SLK 1 x3 none (some v2) none fun x4 =>
 ACalls Try.prog 136 [x4] H fun x5 H6 =>
 BINK .add v7 x5 fun x7 =>
 BINK .add v14 (AVal.int .i64 1) fun x8 =>
 impl_cornerSum.L3 Q v2 x7 v12 v13 x8 H6) (Q v7 H)
theorem step3_eq (Q : AVal → Heap → Prop) (v2 v7 v12 v13 v14 : AVal) (H : Heap) : vs Try.prog lv 109 26 Try.f109.results.toList Q true 1000 (.sq (cB (cB (cR (cL (cR (cR (bodyOf Try.f109))))))) :: K3) (slotsOf [(2, v2), (7, v7), (12, v12), (13, v13), (14, v14)]) H = step3_vc Q v2 v7 v12 v13 v14 H := by kernel_rfl
theorem step3 {Q : AVal → Heap → Prop} {v2 v7 v12 v13 v14 : AVal} {H : Heap} (h : step3_vc Q v2 v7 v12 v13 v14 H) : L3 Q v2 v7 v12 v13 v14 H := at_lp_vs (lv := lv) (ks := K3.tail) mixed Try.func109 (step3_eq Q v2 v7 v12 v13 v14 H ▸ h)
end impl_cornerSum

/-! impl.heights (slots: 0 m, 1 m) -/
namespace impl_heights
def lv : List (Nat × List Nat) := []
def start_vc (Q : AVal → Heap → Prop) (a0 : AVal) (H : Heap) : Prop :=
 BOXK a0 H fun x1 H2 =>
 TT ∧ TT ∧ LDK false 1 H2 x1 fun x3 =>
 LENK x3 fun x4 =>
 BINK .add x4 (AVal.int .i64 1) fun x5 =>
 TT ∧ TT ∧ LDK false 1 H2 x1 fun x6 =>
 LENK x6 fun x7 =>
 BINK .add x7 (AVal.int .i64 1) fun x8 =>
 ACalls Try.prog 107 [x5, x8, (AVal.fn 108 [] [x1])] H2 fun x9 H10 =>
 Q x9 H10
theorem start_eq (Q : AVal → Heap → Prop) (a0 : AVal) (H : Heap) : vs Try.prog lv 56 11 Try.f56.results.toList Q true 1000 [.sq (bodyOf Try.f56)] (entry [a0]) H = start_vc Q a0 H := by kernel_rfl
theorem start {Q : AVal → Heap → Prop} {a0 : AVal} {H : Heap} (h : start_vc Q a0 H) : ACalls Try.prog 56 [a0] H Q := acalls_vs (lv := lv) mixed Try.func56 rfl (by kernel_rfl) (by kernel_rfl) (start_eq Q a0 H ▸ h)
end impl_heights

/-! impl.heights$1 (slots: 0 i, 1 j, 3 i, 4 j) -/
namespace impl_heights_1
def lv : List (Nat × List Nat) := []
def start_vc (Q : AVal → Heap → Prop) (a0 a1 a2 : AVal) (H : Heap) : Prop :=
 BINK .add a0 a1 fun x1 =>
 TT ∧ TT ∧ LDK false 1 H a2 fun x2 =>
 ACalls Try.prog 109 [x2, a0, a1] H fun x3 H4 =>
 BINK .mul (AVal.int .i64 2) x3 fun x5 =>
 BINK .sub x1 x5 fun x6 =>
 Q x6 H4
theorem start_eq (Q : AVal → Heap → Prop) (a0 a1 a2 : AVal) (H : Heap) : vs Try.prog lv 108 15 Try.f108.results.toList Q true 1000 [.sq (bodyOf Try.f108)] (entry [a0, a1, a2]) H = start_vc Q a0 a1 a2 H := by kernel_rfl
theorem start {Q : AVal → Heap → Prop} {a0 a1 a2 : AVal} {H : Heap} (h : start_vc Q a0 a1 a2 H) : ACalls Try.prog 108 [a0, a1, a2] H Q := acalls_vs (lv := lv) mixed Try.func108 rfl (by kernel_rfl) (by kernel_rfl) (start_eq Q a0 a1 a2 H ▸ h)
end impl_heights_1

/-! impl.changed (slots: 0 m, 1 change, 2 m, 3 change) -/
namespace impl_changed
def lv : List (Nat × List Nat) := []
def start_vc (Q : AVal → Heap → Prop) (a0 a1 : AVal) (H : Heap) : Prop :=
 ACalls Try.prog 40 [a0] H fun x1 H2 =>
 NOTK x1 fun x3 =>
 BRK x3 (Q (AVal.tup [AVal.nilS, (AVal.bool false)]) H2) (CALLK Try.prog a1 [a0] H2 fun x4 H5 =>
 Q (AVal.tup [x4, (AVal.bool true)]) H5)
theorem start_eq (Q : AVal → Heap → Prop) (a0 a1 : AVal) (H : Heap) : vs Try.prog lv 76 12 Try.f76.results.toList Q true 1000 [.sq (bodyOf Try.f76)] (entry [a0, a1]) H = start_vc Q a0 a1 H := by kernel_rfl
theorem start {Q : AVal → Heap → Prop} {a0 a1 : AVal} {H : Heap} (h : start_vc Q a0 a1 H) : ACalls Try.prog 76 [a0, a1] H Q := acalls_vs (lv := lv) mixed Try.func76 rfl (by kernel_rfl) (by kernel_rfl) (start_eq Q a0 a1 H ▸ h)
end impl_changed

/-! impl.HeightsOf (slots: 0 m, 1 m) -/
namespace impl_HeightsOf
def lv : List (Nat × List Nat) := []
def start_vc (Q : AVal → Heap → Prop) (a0 : AVal) (H : Heap) : Prop :=
 ACalls Try.prog 76 [a0, (AVal.fn 56 [] [])] H fun x1 H2 =>
 EXTK x1 0 fun x3 =>
 EXTK x1 1 fun x4 =>
 Q (AVal.tup [x3, x4]) H2
theorem start_eq (Q : AVal → Heap → Prop) (a0 : AVal) (H : Heap) : vs Try.prog lv 22 8 Try.f22.results.toList Q true 1000 [.sq (bodyOf Try.f22)] (entry [a0]) H = start_vc Q a0 H := by kernel_rfl
theorem start {Q : AVal → Heap → Prop} {a0 : AVal} {H : Heap} (h : start_vc Q a0 H) : ACalls Try.prog 22 [a0] H Q := acalls_vs (lv := lv) mixed Try.func22 rfl (by kernel_rfl) (by kernel_rfl) (start_eq Q a0 H ▸ h)
end impl_HeightsOf


theorem rSLto {α : Type} {R : AVal → α → Prop} {v : AVal} {l : List α} {K : AVal → Prop} {k : Int} (h : IsSl R v l) (h0 : 0 ≤ k) (h1 : k ≤ l.length) (kk : ∀ v', IsSl R v' (l.take k.toNat) → K v') : SLK 1 v none (some (I k)) none K := by
  rcases h with ⟨rfl, rfl⟩ | ⟨x, cs, rfl, hc, hr⟩
  · have hk : k = 0 := by simp at h1; omega
    subst hk
    exact ⟨by omega, by decide, by decide, rfl, kk _ (.inl ⟨rfl, rfl⟩)⟩
  · refine ⟨by omega, Nat.zero_le _, by omega, rfl, kk _ ?_⟩
    refine isSl_mk (by simp; omega) (by simp; omega) fun i c a hi ha => ?_
    simp only [List.drop_zero, Nat.sub_zero, Nat.mul_one] at hi
    rw [List.getElem?_take] at hi ha
    split at hi
    · rw [if_pos (by assumption)] at ha; exact hr i c a hi ha
    · cases hi

def cornerG (rows : List (List Int)) (j : Nat) (s : Int) : Int := rows.foldl (fun s r => w64 (s + sumW (r.take j))) s
def cornerF (t : List (List Int)) (i j : Nat) : Int := cornerG (t.take i) j 0
theorem corner_loop {t : List (List Int)} {v : AVal} {j : Nat} (hv : IsTab v t) (hl : t.length ≤ 1000000) (hr : ∀ r ∈ t, j ≤ r.length ∧ r.length ≤ 1000000) {H : Heap} {Q : AVal → Heap → Prop} : ∀ (n k : Nat) (s : Int), k + n = t.length → Q (I (cornerG (t.drop k) j s)) H →
    impl_cornerSum.L3 Q (I j) (I s) v (I t.length) (I k) H := by
  intro n
  induction n with
  | zero =>
    intro k s hk hq
    apply impl_cornerSum.step3
    unfold impl_cornerSum.step3_vc
    repeat' (with_reducible first
 | refine rTT ?_
 | refine rRFL ?_
 | refine rLEN (by assumption) ?_
 | (refine rIXk (by assumption) (by assumption) ?_; intro p hp)
 | (refine rIX (by assumption) (by omega) (by omega) ?_; intro p a ha hp)
 | refine rLDi (by assumption) ?_
 | (refine rLD (by assumption) ?_; intro c hc)
 | refine rADD (by omega) ?_
 | refine rSUB (by omega) ?_
 | refine rLSS ?_
 | refine rLEQ ?_
 | refine rGTR ?_
 | refine rGEQ ?_
 | refine rEQL ?_
 | refine rNEQ ?_
 | refine rNOT ?_
 | (refine rBRK ?_ ?_ <;> intro hb)
 | (refine rBRKn ?_ ?_ <;> intro hb)
 | (refine rBRKnb ?_ ?_ <;> intro hb)
 | (refine rBRKb ?_ ?_ <;> intro hb)
 | (refine rSPL ?_ ?_ <;> intro hb)
 | (refine rSPLn ?_ ?_ <;> intro hb)
 | (refine rSPLnb ?_ ?_ <;> intro hb)
 | (refine rSPLb ?_ ?_ <;> intro hb)
 | (exfalso; omega))
    rw [List.drop_eq_nil_of_le (by omega)] at hq
    exact hq
  | succ n ih =>
    intro k s hk hq
    obtain ⟨r, hrow⟩ := ex_get (l := t) (k := k) (by omega)
    have hj := hr r (List.mem_of_getElem? hrow)
    apply impl_cornerSum.step3
    unfold impl_cornerSum.step3_vc
    repeat' (with_reducible first
 | refine rTT ?_
 | refine rRFL ?_
 | refine rLEN (by assumption) ?_
 | (refine rIXk (by assumption) (by assumption) ?_; intro p hp)
 | (refine rIX (by assumption) (by omega) (by omega) ?_; intro p a ha hp)
 | refine rLDi (by assumption) ?_
 | (refine rLD (by assumption) ?_; intro c hc)
 | refine rADD (by omega) ?_
 | refine rSUB (by omega) ?_
 | refine rLSS ?_
 | refine rLEQ ?_
 | refine rGTR ?_
 | refine rGEQ ?_
 | refine rEQL ?_
 | refine rNEQ ?_
 | refine rNOT ?_
 | (refine rBRK ?_ ?_ <;> intro hb)
 | (refine rBRKn ?_ ?_ <;> intro hb)
 | (refine rBRKnb ?_ ?_ <;> intro hb)
 | (refine rBRKb ?_ ?_ <;> intro hb)
 | (refine rSPL ?_ ?_ <;> intro hb)
 | (refine rSPLn ?_ ?_ <;> intro hb)
 | (refine rSPLnb ?_ ?_ <;> intro hb)
 | (refine rSPLb ?_ ?_ <;> intro hb)
 | (exfalso; omega))
    refine rSLto (by assumption) (by omega) (by omega) fun v' hv' => ?_
    refine ACalls.mono (sum_ok hv' (by simp; omega)) ?_
    rintro r1 H1 ⟨rfl, rfl⟩
    refine rADDw ?_
    repeat' (with_reducible first
 | refine rTT ?_
 | refine rRFL ?_
 | refine rLEN (by assumption) ?_
 | (refine rIXk (by assumption) (by assumption) ?_; intro p hp)
 | (refine rIX (by assumption) (by omega) (by omega) ?_; intro p a ha hp)
 | refine rLDi (by assumption) ?_
 | (refine rLD (by assumption) ?_; intro c hc)
 | refine rADD (by omega) ?_
 | refine rSUB (by omega) ?_
 | refine rLSS ?_
 | refine rLEQ ?_
 | refine rGTR ?_
 | refine rGEQ ?_
 | refine rEQL ?_
 | refine rNEQ ?_
 | refine rNOT ?_
 | (refine rBRK ?_ ?_ <;> intro hb)
 | (refine rBRKn ?_ ?_ <;> intro hb)
 | (refine rBRKnb ?_ ?_ <;> intro hb)
 | (refine rBRKb ?_ ?_ <;> intro hb)
 | (refine rSPL ?_ ?_ <;> intro hb)
 | (refine rSPLn ?_ ?_ <;> intro hb)
 | (refine rSPLnb ?_ ?_ <;> intro hb)
 | (refine rSPLb ?_ ?_ <;> intro hb)
 | (exfalso; omega))
    rw [drop_some hrow] at hq
    refine ih (k + 1) _ (by omega) ?_
    simpa [cornerG] using hq
theorem cornerSum_ok {t : List (List Int)} {v : AVal} {i j : Nat} (hv : IsTab v t) (hl : t.length ≤ 1000000) (hi : i ≤ t.length) (hr : ∀ r ∈ t, j ≤ r.length ∧ r.length ≤ 1000000) {H : Heap} : ACalls Try.prog 109 [v, I i, I j] H fun r H' => r = I (cornerF t i j) ∧ H' = H := by
  apply impl_cornerSum.start
  unfold impl_cornerSum.start_vc
  repeat' (with_reducible first
 | refine rTT ?_
 | refine rRFL ?_
 | refine rLEN (by assumption) ?_
 | (refine rIXk (by assumption) (by assumption) ?_; intro p hp)
 | (refine rIX (by assumption) (by omega) (by omega) ?_; intro p a ha hp)
 | refine rLDi (by assumption) ?_
 | (refine rLD (by assumption) ?_; intro c hc)
 | refine rADD (by omega) ?_
 | refine rSUB (by omega) ?_
 | refine rLSS ?_
 | refine rLEQ ?_
 | refine rGTR ?_
 | refine rGEQ ?_
 | refine rEQL ?_
 | refine rNEQ ?_
 | refine rNOT ?_
 | (refine rBRK ?_ ?_ <;> intro hb)
 | (refine rBRKn ?_ ?_ <;> intro hb)
 | (refine rBRKnb ?_ ?_ <;> intro hb)
 | (refine rBRKb ?_ ?_ <;> intro hb)
 | (refine rSPL ?_ ?_ <;> intro hb)
 | (refine rSPLn ?_ ?_ <;> intro hb)
 | (refine rSPLnb ?_ ?_ <;> intro hb)
 | (refine rSPLb ?_ ?_ <;> intro hb)
 | (exfalso; omega))
  refine rSLto hv (by omega) (by omega) fun v' hv' => ?_
  rw [Int.toNat_natCast] at hv'
  repeat' (with_reducible first
 | refine rTT ?_
 | refine rRFL ?_
 | refine rLEN (by assumption) ?_
 | (refine rIXk (by assumption) (by assumption) ?_; intro p hp)
 | (refine rIX (by assumption) (by omega) (by omega) ?_; intro p a ha hp)
 | refine rLDi (by assumption) ?_
 | (refine rLD (by assumption) ?_; intro c hc)
 | refine rADD (by omega) ?_
 | refine rSUB (by omega) ?_
 | refine rLSS ?_
 | refine rLEQ ?_
 | refine rGTR ?_
 | refine rGEQ ?_
 | refine rEQL ?_
 | refine rNEQ ?_
 | refine rNOT ?_
 | (refine rBRK ?_ ?_ <;> intro hb)
 | (refine rBRKn ?_ ?_ <;> intro hb)
 | (refine rBRKnb ?_ ?_ <;> intro hb)
 | (refine rBRKb ?_ ?_ <;> intro hb)
 | (refine rSPL ?_ ?_ <;> intro hb)
 | (refine rSPLn ?_ ?_ <;> intro hb)
 | (refine rSPLnb ?_ ?_ <;> intro hb)
 | (refine rSPLb ?_ ?_ <;> intro hb)
 | (exfalso; omega))
  refine corner_loop hv' (by simp; omega) (fun r hr' => hr r (List.mem_of_mem_take hr')) (t.take i).length 0 0 (by omega) ⟨by simp [cornerF], rfl⟩

def heightAt (t : List (List Int)) (i j : Nat) : Int := w64 (w64 (i + j) - w64 (2 * cornerF t i j))
def heightsF (t : List (List Int)) : List (List Int) := tabT (t.length + 1) (t.length + 1) (heightAt t)
theorem heights_ok {t : List (List Int)} {v : AVal} (hv : IsTab v t) (hl : t.length ≤ 100000) (hs : isSquareB t = true) {H : Heap} : ACalls Try.prog 56 [v] H fun r H' => IsTab r (heightsF t) ∧ H' = H := by
  apply ACalls.freeze
  apply impl_heights.start
  unfold impl_heights.start_vc
  refine rBOX hv.one fun g => ?_
  repeat' (first | with_reducible refine rTT ?_ | refine rLDp (hget_new _ _ _) ?_ | with_reducible refine rLEN hv ?_ | with_reducible refine rADD (by omega) ?_)
  have e : ((t.length : Int) + 1) = ((t.length + 1 : Nat) : Int) := by omega
  rw [e]
  refine ACalls.mono (table_ok (F := heightAt t) (by omega) (by omega) ?_) ?_
  · intro i j hi hj H1 hF
    refine rCALL ?_
    show ACalls Try.prog 108 [I i, I j, .ptr H.length g 0] _ _
    apply impl_heights_1.start
    unfold impl_heights_1.start_vc
    refine rADDw ?_
    repeat' (with_reducible first
 | refine rTT ?_
 | refine rRFL ?_
 | refine rLEN (by assumption) ?_
 | (refine rIXk (by assumption) (by assumption) ?_; intro p hp)
 | (refine rIX (by assumption) (by omega) (by omega) ?_; intro p a ha hp)
 | refine rLDi (by assumption) ?_
 | (refine rLD (by assumption) ?_; intro c hc)
 | refine rADD (by omega) ?_
 | refine rSUB (by omega) ?_
 | refine rLSS ?_
 | refine rLEQ ?_
 | refine rGTR ?_
 | refine rGEQ ?_
 | refine rEQL ?_
 | refine rNEQ ?_
 | refine rNOT ?_
 | (refine rBRK ?_ ?_ <;> intro hb)
 | (refine rBRKn ?_ ?_ <;> intro hb)
 | (refine rBRKnb ?_ ?_ <;> intro hb)
 | (refine rBRKb ?_ ?_ <;> intro hb)
 | (refine rSPL ?_ ?_ <;> intro hb)
 | (refine rSPLn ?_ ?_ <;> intro hb)
 | (refine rSPLnb ?_ ?_ <;> intro hb)
 | (refine rSPLb ?_ ?_ <;> intro hb)
 | (exfalso; omega))
    refine rLDp (by rw [hF.old _ (by rw [hlen_new]; omega), hget_new]) ?_
    refine ACalls.mono (cornerSum_ok hv (by omega) (by omega) (fun r hr => by rw [sq_len hs hr]; omega)) ?_
    rintro r H2 ⟨rfl, rfl⟩
    refine rMULw ?_
    refine rSUBw ?_
    exact ⟨rfl, rfl⟩
  · rintro r H1 ⟨h1, h2⟩
    have hsub : HSub H H1 := (hsub_new _ _ _).trans h2.sub
    obtain ⟨v', q1, q2⟩ := h1.pur (Hf := nw H H1) fun i hi => nw_above H H1 (by rw [hlen_new] at hi; omega)
    exact ⟨nw H H1, H, 2, v', nw_split hsub, q1, q2, rfl⟩

theorem heightsOf_ok {t : List (List Int)} {v : AVal} (hv : IsTab v t) (hl : t.length ≤ 100000) {H : Heap} : ACalls Try.prog 22 [v] H fun r H' => (∃ h, r = .tup [h, .bool (goodB t)] ∧ IsTab h (bif goodB t then heightsF t else [])) ∧ H' = H := by
  apply impl_HeightsOf.start
  unfold impl_HeightsOf.start_vc
  apply impl_changed.start
  unfold impl_changed.start_vc
  refine ACalls.mono (isSign_ok hv (by omega)) ?_
  rintro r H1 ⟨rfl, rfl⟩
  repeat' (with_reducible first
 | refine rTT ?_
 | refine rRFL ?_
 | refine rLEN (by assumption) ?_
 | (refine rIXk (by assumption) (by assumption) ?_; intro p hp)
 | (refine rIX (by assumption) (by omega) (by omega) ?_; intro p a ha hp)
 | refine rLDi (by assumption) ?_
 | (refine rLD (by assumption) ?_; intro c hc)
 | refine rADD (by omega) ?_
 | refine rSUB (by omega) ?_
 | refine rLSS ?_
 | refine rLEQ ?_
 | refine rGTR ?_
 | refine rGEQ ?_
 | refine rEQL ?_
 | refine rNEQ ?_
 | refine rNOT ?_
 | (refine rBRK ?_ ?_ <;> intro hb)
 | (refine rBRKn ?_ ?_ <;> intro hb)
 | (refine rBRKnb ?_ ?_ <;> intro hb)
 | (refine rBRKb ?_ ?_ <;> intro hb)
 | (refine rSPL ?_ ?_ <;> intro hb)
 | (refine rSPLn ?_ ?_ <;> intro hb)
 | (refine rSPLnb ?_ ?_ <;> intro hb)
 | (refine rSPLb ?_ ?_ <;> intro hb)
 | (exfalso; omega))
  · exact ⟨_, rfl, _, rfl, ⟨_, by rw [hb], by rw [hb]; exact .inl ⟨rfl, rfl⟩⟩, rfl⟩
  · refine rCALL ?_
    have hs : isSquareB t = true := by simp only [goodB, Bool.and_eq_true] at hb; exact hb.2.1
    refine ACalls.mono (heights_ok hv hl hs) ?_
    rintro r H2 ⟨h1, rfl⟩
    exact ⟨_, rfl, _, rfl, ⟨_, by rw [hb], by rw [hb]; exact h1⟩, rfl⟩

end Go.Proofs.Ytccioplhchmilaa.AL

set_option linter.unusedVariables false
set_option maxRecDepth 100000
namespace Go.Proofs.Ytccioplhchmilaa.AL
open Go Go.Proofs

/-! spec.sgCorners (slots: 0 m, 1 m, 3 out, 4 i, 5 row, 6 j, 7 x) -/
namespace spec_sgCorners
def lv : List (Nat × List Nat) := [(3, [0, 3, 12, 13]), (7, [0, 3, 4, 5, 12, 13, 19, 20, 21])]
noncomputable def K3 : List KF := [.lp (cB (cB (cR (cL (cR (cR (bodyOf Try.f114))))))), .bl 0, .sq (cR (cR (cR (bodyOf Try.f114))))]
def L3 (Q : AVal → Heap → Prop) (v0 v3 v12 v13 : AVal) (H : Heap) : Prop := At Try.prog 114 58 K3 Q (slotsOf [(0, v0), (3, v3), (12, v12), (13, v13)]) H
theorem L3_frz {Q : AVal → Heap → Prop} {v0 v3 v12 v13 w0 w3 w12 w13 : AVal} {H Hf Hk : Heap} {k : Nat} (hs : Split H Hf Hk) (hp : PurL Hf k [(0, v0, w0), (3, v3, w3), (12, v12, w12), (13, v13, w13)]) (h : L3 Q w0 w3 w12 w13 Hk) : L3 Q v0 v3 v12 v13 H := at_frz (ks := K3) hs hp h
noncomputable def K7 : List KF := [.lp (cB (cB (cR (cR (cR (cB (cL (cR (cR (cB (cB (cR (cL (cR (cR (bodyOf Try.f114)))))))))))))))), .bl 2, .bl 1, .sq (cR (cR (cR (cB (cB (cR (cL (cR (cR (bodyOf Try.f114)))))))))), .lp (cB (cB (cR (cL (cR (cR (bodyOf Try.f114))))))), .bl 0, .sq (cR (cR (cR (bodyOf Try.f114))))]
def L7 (Q : AVal → Heap → Prop) (v0 v3 v4 v5 v12 v13 v19 v20 v21 : AVal) (H : Heap) : Prop := At Try.prog 114 58 K7 Q (slotsOf [(0, v0), (3, v3), (4, v4), (5, v5), (12, v12), (13, v13), (19, v19), (20, v20), (21, v21)]) H
theorem L7_frz {Q : AVal → Heap → Prop} {v0 v3 v4 v5 v12 v13 v19 v20 v21 w0 w3 w4 w5 w12 w13 w19 w20 w21 : AVal} {H Hf Hk : Heap} {k : Nat} (hs : Split H Hf Hk) (hp : PurL Hf k [(0, v0, w0), (3, v3, w3), (4, v4, w4), (5, v5, w5), (12, v12, w12), (13, v13, w13), (19, v19, w19), (20, v20, w20), (21, v21, w21)]) (h : L7 Q w0 w3 w4 w5 w12 w13 w19 w20 w21 Hk) : L7 Q v0 v3 v4 v5 v12 v13 v19 v20 v21 H := at_frz (ks := K7) hs hp h
def start_vc (Q : AVal → Heap → Prop) (a0 : AVal) (H : Heap) : Prop :=
 LENK a0 fun x1 =>
 ACalls Try.prog 123 [x1] H fun x2 H3 =>
 LENK a0 fun x4 =>
 spec_sgCorners.L3 Q a0 x2 x4 (AVal.int .i64 0) H3
theorem start_eq (Q : AVal → Heap → Prop) (a0 : AVal) (H : Heap) : vs Try.prog lv 114 58 Try.f114.results.toList Q true 1000 [.sq (bodyOf Try.f114)] (entry [a0]) H = start_vc Q a0 H := by kernel_rfl
theorem start {Q : AVal → Heap → Prop} {a0 : AVal} {H : Heap} (h : start_vc Q a0 H) : ACalls Try.prog 114 [a0] H Q := acalls_vs (lv := lv) mixed Try.func114 rfl (by kernel_rfl) (by kernel_rfl) (start_eq Q a0 H ▸ h)
def step3_vc (Q : AVal → Heap → Prop) (v0 v3 v12 v13 : AVal) (H : Heap) : Prop :=
 BINK .lss v13 v12 fun x1 =>
 BRK x1 (TT ∧ IXK 1 v0 v13 fun x2 =>
 TT ∧ TT ∧ LDK false 1 H x2 fun x3 =>
 LENK x3 fun x4 =>
 spec_sgCorners.L7 Q v0 v3 v13 (AVal.int .i64 0) v12 v13 x3 x4 (AVal.int .i64 0) H) (Q v3 H)
theorem step3_eq (Q : AVal → Heap → Prop) (v0 v3 v12 v13 : AVal) (H : Heap) : vs Try.prog lv 114 58 Try.f114.results.toList Q true 1000 (.sq (cB (cB (cR (cL (cR (cR (bodyOf Try.f114))))))) :: K3) (slotsOf [(0, v0), (3, v3), (12, v12), (13, v13)]) H = step3_vc Q v0 v3 v12 v13 H := by kernel_rfl
theorem step3 {Q : AVal → Heap → Prop} {v0 v3 v12 v13 : AVal} {H : Heap} (h : step3_vc Q v0 v3 v12 v13 H) : L3 Q v0 v3 v12 v13 H := at_lp_vs (lv := lv) (ks := K3.tail) mixed Try.func114 (step3_eq Q v0 v3 v12 v13 H ▸ h)
def step7_vc (Q : AVal → Heap → Prop) (v0 v3 v4 v5 v12 v13 v19 v20 v21 : AVal) (H : Heap) : Prop :=
 BINK .lss v21 v20 fun x1 =>
 BRK x1 (TT ∧ IXK 1 v19 v21 fun x2 =>
 TT ∧ TT ∧ LDK false 1 H x2 fun x3 =>
 BINK .add v5 x3 fun x4 =>
 TT ∧ IXK 1 v3 v4 fun x5 =>
 TT ∧ TT ∧ LDK false 1 H x5 fun x6 =>
 TT ∧ IXK 1 x6 v21 fun x7 =>
 TT ∧ STK 1 H x7 x4 fun H8 =>
 BINK .gtr v4 (AVal.int .i64 0) fun x9 =>
 BRK x9 (TT ∧ TT ∧ IXK 1 v3 v4 fun x10 =>
 TT ∧ TT ∧ LDK false 1 H8 x10 fun x11 =>
 TT ∧ IXK 1 x11 v21 fun x12 =>
 TT ∧ TT ∧ LDK false 1 H8 x12 fun x13 =>
 BINK .sub v4 (AVal.int .i64 1) fun x14 =>
 TT ∧ IXK 1 v3 x14 fun x15 =>
 TT ∧ TT ∧ LDK false 1 H8 x15 fun x16 =>
 TT ∧ IXK 1 x16 v21 fun x17 =>
 TT ∧ TT ∧ LDK false 1 H8 x17 fun x18 =>
 BINK .add x13 x18 fun x19 =>
 TT ∧ IXK 1 x11 v21 fun x20 =>
 TT ∧ STK 1 H8 x20 x19 fun H21 =>
 BINK .add v21 (AVal.int .i64 1) fun x22 =>
 spec_sgCorners.L7 Q v0 v3 v4 x4 v12 v13 v19 v20 x22 H21) (BINK .add v21 (AVal.int .i64 1) fun x23 =>
 spec_sgCorners.L7 Q v0 v3 v4 x4 v12 v13 v19 v20 x23 H8)) (BINK .add v13 (AVal.int .i64 1) fun x24 =>
 spec_sgCorners.L3 Q v0 v3 v12 x24 H)
theorem step7_eq (Q : AVal → Heap → Prop) (v0 v3 v4 v5 v12 v13 v19 v20 v21 : AVal) (H : Heap) : vs Try.prog lv 114 58 Try.f114.results.toList Q true 1000 (.sq (cB (cB (cR (cR (cR (cB (cL (cR (cR (cB (cB (cR (cL (cR (cR (bodyOf Try.f114)))))))))))))))) :: K7) (slotsOf [(0, v0), (3, v3), (4, v4), (5, v5), (12, v12), (13, v13), (19, v19), (20, v20), (21, v21)]) H = step7_vc Q v0 v3 v4 v5 v12 v13 v19 v20 v21 H := by kernel_rfl
theorem step7 {Q : AVal → Heap → Prop} {v0 v3 v4 v5 v12 v13 v19 v20 v21 : AVal} {H : Heap} (h : step7_vc Q v0 v3 v4 v5 v12 v13 v19 v20 v21 H) : L7 Q v0 v3 v4 v5 v12 v13 v19 v20 v21 H := at_lp_vs (lv := lv) (ks := K7.tail) mixed Try.func114 (step7_eq Q v0 v3 v4 v5 v12 v13 v19 v20 v21 H ▸ h)
end spec_sgCorners

/-! spec.heOf (slots: 0 m, 1 m, 3 corners, 4 out, 5 i, 6 row, 7 j) -/
namespace spec_heOf
def lv : List (Nat × List Nat) := [(4, [0, 3, 4, 5]), (8, [0, 3, 4, 5, 6, 7])]
noncomputable def K4 : List KF := [.lp (cB (cB (cR (cL (cR (cR (cR (bodyOf Try.f61)))))))), .bl 0, .sq (cR (cR (cR (cR (bodyOf Try.f61)))))]
def L4 (Q : AVal → Heap → Prop) (v0 v3 v4 v5 : AVal) (H : Heap) : Prop := At Try.prog 61 41 K4 Q (slotsOf [(0, v0), (3, v3), (4, v4), (5, v5)]) H
theorem L4_frz {Q : AVal → Heap → Prop} {v0 v3 v4 v5 w0 w3 w4 w5 : AVal} {H Hf Hk : Heap} {k : Nat} (hs : Split H Hf Hk) (hp : PurL Hf k [(0, v0, w0), (3, v3, w3), (4, v4, w4), (5, v5, w5)]) (h : L4 Q w0 w3 w4 w5 Hk) : L4 Q v0 v3 v4 v5 H := at_frz (ks := K4) hs hp h
noncomputable def K8 : List KF := [.lp (cB (cB (cR (cL (cR (cB (cL (cR (cB (cB (cR (cL (cR (cR (cR (bodyOf Try.f61)))))))))))))))), .bl 2, .sq (cR (cR (cB (cL (cR (cB (cB (cR (cL (cR (cR (cR (bodyOf Try.f61))))))))))))), .bl 1, .sq (cR (cR (cB (cB (cR (cL (cR (cR (cR (bodyOf Try.f61)))))))))), .lp (cB (cB (cR (cL (cR (cR (cR (bodyOf Try.f61)))))))), .bl 0, .sq (cR (cR (cR (cR (bodyOf Try.f61)))))]
def L8 (Q : AVal → Heap → Prop) (v0 v3 v4 v5 v6 v7 : AVal) (H : Heap) : Prop := At Try.prog 61 41 K8 Q (slotsOf [(0, v0), (3, v3), (4, v4), (5, v5), (6, v6), (7, v7)]) H
theorem L8_frz {Q : AVal → Heap → Prop} {v0 v3 v4 v5 v6 v7 w0 w3 w4 w5 w6 w7 : AVal} {H Hf Hk : Heap} {k : Nat} (hs : Split H Hf Hk) (hp : PurL Hf k [(0, v0, w0), (3, v3, w3), (4, v4, w4), (5, v5, w5), (6, v6, w6), (7, v7, w7)]) (h : L8 Q w0 w3 w4 w5 w6 w7 Hk) : L8 Q v0 v3 v4 v5 v6 v7 H := at_frz (ks := K8) hs hp h
def start_vc (Q : AVal → Heap → Prop) (a0 : AVal) (H : Heap) : Prop :=
 ACalls Try.prog 114 [a0] H fun x1 H2 =>
 spec_heOf.L4 Q a0 x1 AVal.nilS (AVal.int .i64 0) H2
theorem start_eq (Q : AVal → Heap → Prop) (a0 : AVal) (H : Heap) : vs Try.prog lv 61 41 Try.f61.results.toList Q true 1000 [.sq (bodyOf Try.f61)] (entry [a0]) H = start_vc Q a0 H := by kernel_rfl
theorem start {Q : AVal → Heap → Prop} {a0 : AVal} {H : Heap} (h : start_vc Q a0 H) : ACalls Try.prog 61 [a0] H Q := acalls_vs (lv := lv) mixed Try.func61 rfl (by kernel_rfl) (by kernel_rfl) (start_eq Q a0 H ▸ h)
def step4_vc (Q : AVal → Heap → Prop) (v0 v3 v4 v5 : AVal) (H : Heap) : Prop :=
 LENK v0 fun x1 =>
 BINK .leq v5 x1 fun x2 =>
 BRK x2 (spec_heOf.L8 Q v0 v3 v4 v5 AVal.nilS (AVal.int .i64 0) H) (Q v4 H)
theorem step4_eq (Q : AVal → Heap → Prop) (v0 v3 v4 v5 : AVal) (H : Heap) : vs Try.prog lv 61 41 Try.f61.results.toList Q true 1000 (.sq (cB (cB (cR (cL (cR (cR (cR (bodyOf Try.f61)))))))) :: K4) (slotsOf [(0, v0), (3, v3), (4, v4), (5, v5)]) H = step4_vc Q v0 v3 v4 v5 H := by kernel_rfl
theorem step4 {Q : AVal → Heap → Prop} {v0 v3 v4 v5 : AVal} {H : Heap} (h : step4_vc Q v0 v3 v4 v5 H) : L4 Q v0 v3 v4 v5 H := at_lp_vs (lv := lv) (ks := K4.tail) mixed Try.func61 (step4_eq Q v0 v3 v4 v5 H ▸ h)
def step8_vc (Q : AVal → Heap → Prop) (v0 v3 v4 v5 v6 v7 : AVal) (H : Heap) : Prop :=
 LENK v0 fun x1 =>
 BINK .leq v7 x1 fun x2 =>
 BRK x2 (BINK .add v5 v7 fun x3 =>
 BINK .sub v5 (AVal.int .i64 1) fun x4 =>
 BINK .sub v7 (AVal.int .i64 1) fun x5 =>
 ACalls Try.prog 115 [v3, x4, x5] H fun x6 H7 =>
 BINK .mul (AVal.int .i64 2) x6 fun x8 =>
 BINK .sub x3 x8 fun x9 =>
 TT ∧ TT ∧ TT ∧ BSK 1 [x9] H7 fun x10 H11 =>
 TT ∧ TT ∧ APK 1 H11 v6 x10 fun x12 H13 =>
 BINK .add v7 (AVal.int .i64 1) fun x14 =>
 spec_heOf.L8 Q v0 v3 v4 v5 x12 x14 H13) (TT ∧ TT ∧ TT ∧ BSK 1 [v6] H fun x15 H16 =>
 TT ∧ TT ∧ APK 1 H16 v4 x15 fun x17 H18 =>
 BINK .add v5 (AVal.int .i64 1) fun x19 =>
 spec_heOf.L4 Q v0 v3 x17 x19 H18)
theorem step8_eq (Q : AVal → Heap → Prop) (v0 v3 v4 v5 v6 v7 : AVal) (H : Heap) : vs Try.prog lv 61 41 Try.f61.results.toList Q true 1000 (.sq (cB (cB (cR (cL (cR (cB (cL (cR (cB (cB (cR (cL (cR (cR (cR (bodyOf Try.f61)))))))))))))))) :: K8) (slotsOf [(0, v0), (3, v3), (4, v4), (5, v5), (6, v6), (7, v7)]) H = step8_vc Q v0 v3 v4 v5 v6 v7 H := by kernel_rfl
theorem step8 {Q : AVal → Heap → Prop} {v0 v3 v4 v5 v6 v7 : AVal} {H : Heap} (h : step8_vc Q v0 v3 v4 v5 v6 v7 H) : L8 Q v0 v3 v4 v5 v6 v7 H := at_lp_vs (lv := lv) (ks := K8.tail) mixed Try.func61 (step8_eq Q v0 v3 v4 v5 v6 v7 H ▸ h)
end spec_heOf

/-! spec.HeightsOf (slots: 0 m, 1 m) -/
namespace spec_HeightsOf
def lv : List (Nat × List Nat) := []
def start_vc (Q : AVal → Heap → Prop) (a0 : AVal) (H : Heap) : Prop :=
 ACalls Try.prog 53 [a0] H fun x1 H2 =>
 NOTK x1 fun x3 =>
 BRK x3 (Q (AVal.tup [AVal.nilS, (AVal.bool false)]) H2) (ACalls Try.prog 61 [a0] H2 fun x4 H5 =>
 Q (AVal.tup [x4, (AVal.bool true)]) H5)
theorem start_eq (Q : AVal → Heap → Prop) (a0 : AVal) (H : Heap) : vs Try.prog lv 23 9 Try.f23.results.toList Q true 1000 [.sq (bodyOf Try.f23)] (entry [a0]) H = start_vc Q a0 H := by kernel_rfl
theorem start {Q : AVal → Heap → Prop} {a0 : AVal} {H : Heap} (h : start_vc Q a0 H) : ACalls Try.prog 23 [a0] H Q := acalls_vs (lv := lv) mixed Try.func23 rfl (by kernel_rfl) (by kernel_rfl) (start_eq Q a0 H ▸ h)
end spec_HeightsOf


def cornAt (t : List (List Int)) : Nat → Nat → Int
  | 0, j => sumW ((t.getD 0 []).take (j + 1))
  | i + 1, j => w64 (sumW ((t.getD (i + 1) []).take (j + 1)) + cornAt t i j)
theorem sumW_snoc (l : List Int) (x : Int) : sumW (l ++ [x]) = w64 (sumW l + x) := by simp [sumW]
section
variable {t : List (List Int)} {v : AVal} {H0 : Heap} {Q : AVal → Heap → Prop}
theorem corners_in (hv : IsTab v t) (hl : t.length ≤ 100000) (hs : isSquareB t = true) {i : Nat} {row : List Int} (hrow : t[i]? = some row) {vr w12 w13 : AVal} (hvr : IsInts vr row) {k g : Nat} {rows : List AVal} {ks : List Nat}
    (hq : ∀ (s : Int) (T : List (List Int)) (H : Heap), T.length = t.length → isSquareB T = true → (∀ x, x < i + 1 → T[x]? = some (tabRow t.length (cornAt t) x)) → OTab H0.length H k g rows ks T → Fresh H0 H →
      spec_sgCorners.L7 Q v (.own k g 1 0 t.length) (I i) (I s) w12 w13 vr (I row.length) (I row.length) H) :
    ∀ (m j : Nat) (T : List (List Int)) (r : List Int) (H : Heap), j + m = t.length → T.length = t.length → isSquareB T = true → (∀ x, x < i → T[x]? = some (tabRow t.length (cornAt t) x)) → T[i]? = some r → r.take j = (tabRow t.length (cornAt t) i).take j →
      OTab H0.length H k g rows ks T → Fresh H0 H → spec_sgCorners.L7 Q v (.own k g 1 0 t.length) (I i) (I (sumW (row.take j))) w12 w13 vr (I row.length) (I j) H := by
  have hrl : row.length = t.length := sq_len hs (List.mem_of_getElem? hrow)
  have hil := (List.getElem?_eq_some_iff.1 hrow).1
  intro m
  induction m with
  | zero =>
    intro j T r H hj h1 h2 h3 h4 h5 ho hF
    have : j = t.length := by omega
    subst this
    have hr1 := sq_len h2 (List.mem_of_getElem? h4)
    rw [List.take_of_length_le (by omega), List.take_of_length_le (by simp [tabRow])] at h5
    have := hq (sumW (row.take t.length)) T H h1 h2 (fun x hx => by
      by_cases hxi : x = i
      · subst hxi; rw [h4, h5]
      · exact h3 x (by omega)) ho hF
    rw [hrl] at this ⊢
    exact this
  | succ m ih =>
    intro j T r H hj h1 h2 h3 h4 h5 ho hF
    have hr1 := sq_len h2 (List.mem_of_getElem? h4)
    obtain ⟨x, hx⟩ := ex_get (l := row) (k := j) (by omega)
    obtain ⟨kj, gj, g1, g2, g3, g4, g5⟩ := ho.get h4
    have hset1 : ∀ (r : List Int) w, (r.map I).set j (I w) = (r.set j w).map I := fun r w => by rw [List.map_set]
    have hT : i < T.length := by omega
    apply spec_sgCorners.step7
    unfold spec_sgCorners.step7_vc
    repeat' (with_reducible first
 | refine rTT ?_
 | refine rRFL ?_
 | refine rLEN (by assumption) ?_
 | (refine rIXk (by assumption) (by assumption) ?_; intro p hp)
 | (refine rIX (by assumption) (by omega) (by omega) ?_; intro p a ha hp)
 | refine rLDi (by assumption) ?_
 | (refine rLD (by assumption) ?_; intro c hc)
 | refine rADD (by omega) ?_
 | refine rSUB (by omega) ?_
 | refine rLSS ?_
 | refine rLEQ ?_
 | refine rGTR ?_
 | refine rGEQ ?_
 | refine rEQL ?_
 | refine rNEQ ?_
 | refine rNOT ?_
 | (refine rBRK ?_ ?_ <;> intro hb)
 | (refine rBRKn ?_ ?_ <;> intro hb)
 | (refine rBRKnb ?_ ?_ <;> intro hb)
 | (refine rBRKb ?_ ?_ <;> intro hb)
 | (refine rSPL ?_ ?_ <;> intro hb)
 | (refine rSPLn ?_ ?_ <;> intro hb)
 | (refine rSPLnb ?_ ?_ <;> intro hb)
 | (refine rSPLb ?_ ?_ <;> intro hb)
 | (exfalso; omega))
    · -- not the first row
      refine rADDw ?_
      rw [← sumW_snoc, ← take_some hx]
      repeat' (with_reducible first
 | refine rTT ?_
 | refine rRFL ?_
 | refine rLEN (by assumption) ?_
 | (refine rIXk (by assumption) (by assumption) ?_; intro p hp)
 | (refine rIX (by assumption) (by omega) (by omega) ?_; intro p a ha hp)
 | refine rLDi (by assumption) ?_
 | (refine rLD (by assumption) ?_; intro c hc)
 | refine rADD (by omega) ?_
 | refine rSUB (by omega) ?_
 | refine rLSS ?_
 | refine rLEQ ?_
 | refine rGTR ?_
 | refine rGEQ ?_
 | refine rEQL ?_
 | refine rNEQ ?_
 | refine rNOT ?_
 | (refine rBRK ?_ ?_ <;> intro hb)
 | (refine rBRKn ?_ ?_ <;> intro hb)
 | (refine rBRKnb ?_ ?_ <;> intro hb)
 | (refine rBRKb ?_ ?_ <;> intro hb)
 | (refine rSPL ?_ ?_ <;> intro hb)
 | (refine rSPLn ?_ ?_ <;> intro hb)
 | (refine rSPLnb ?_ ?_ <;> intro hb)
 | (refine rSPLb ?_ ?_ <;> intro hb)
 | (exfalso; omega))
      refine rIXo (by omega) ?_
      repeat' (with_reducible first
 | refine rTT ?_
 | refine rRFL ?_
 | refine rLEN (by assumption) ?_
 | (refine rIXk (by assumption) (by assumption) ?_; intro p hp)
 | (refine rIX (by assumption) (by omega) (by omega) ?_; intro p a ha hp)
 | refine rLDi (by assumption) ?_
 | (refine rLD (by assumption) ?_; intro c hc)
 | refine rADD (by omega) ?_
 | refine rSUB (by omega) ?_
 | refine rLSS ?_
 | refine rLEQ ?_
 | refine rGTR ?_
 | refine rGEQ ?_
 | refine rEQL ?_
 | refine rNEQ ?_
 | refine rNOT ?_
 | (refine rBRK ?_ ?_ <;> intro hb)
 | (refine rBRKn ?_ ?_ <;> intro hb)
 | (refine rBRKnb ?_ ?_ <;> intro hb)
 | (refine rBRKb ?_ ?_ <;> intro hb)
 | (refine rSPL ?_ ?_ <;> intro hb)
 | (refine rSPLn ?_ ?_ <;> intro hb)
 | (refine rSPLnb ?_ ?_ <;> intro hb)
 | (refine rSPLb ?_ ?_ <;> intro hb)
 | (exfalso; omega))
      refine rLDf ho.top g2 ?_
      repeat' (with_reducible first
 | refine rTT ?_
 | refine rRFL ?_
 | refine rLEN (by assumption) ?_
 | (refine rIXk (by assumption) (by assumption) ?_; intro p hp)
 | (refine rIX (by assumption) (by omega) (by omega) ?_; intro p a ha hp)
 | refine rLDi (by assumption) ?_
 | (refine rLD (by assumption) ?_; intro c hc)
 | refine rADD (by omega) ?_
 | refine rSUB (by omega) ?_
 | refine rLSS ?_
 | refine rLEQ ?_
 | refine rGTR ?_
 | refine rGEQ ?_
 | refine rEQL ?_
 | refine rNEQ ?_
 | refine rNOT ?_
 | (refine rBRK ?_ ?_ <;> intro hb)
 | (refine rBRKn ?_ ?_ <;> intro hb)
 | (refine rBRKnb ?_ ?_ <;> intro hb)
 | (refine rBRKb ?_ ?_ <;> intro hb)
 | (refine rSPL ?_ ?_ <;> intro hb)
 | (refine rSPLn ?_ ?_ <;> intro hb)
 | (refine rSPLnb ?_ ?_ <;> intro hb)
 | (refine rSPLb ?_ ?_ <;> intro hb)
 | (exfalso; omega))
      refine rIXo (by omega) ?_
      repeat' (with_reducible first
 | refine rTT ?_
 | refine rRFL ?_
 | refine rLEN (by assumption) ?_
 | (refine rIXk (by assumption) (by assumption) ?_; intro p hp)
 | (refine rIX (by assumption) (by omega) (by omega) ?_; intro p a ha hp)
 | refine rLDi (by assumption) ?_
 | (refine rLD (by assumption) ?_; intro c hc)
 | refine rADD (by omega) ?_
 | refine rSUB (by omega) ?_
 | refine rLSS ?_
 | refine rLEQ ?_
 | refine rGTR ?_
 | refine rGEQ ?_
 | refine rEQL ?_
 | refine rNEQ ?_
 | refine rNOT ?_
 | (refine rBRK ?_ ?_ <;> intro hb)
 | (refine rBRKn ?_ ?_ <;> intro hb)
 | (refine rBRKnb ?_ ?_ <;> intro hb)
 | (refine rBRKb ?_ ?_ <;> intro hb)
 | (refine rSPL ?_ ?_ <;> intro hb)
 | (refine rSPLn ?_ ?_ <;> intro hb)
 | (refine rSPLnb ?_ ?_ <;> intro hb)
 | (refine rSPLb ?_ ?_ <;> intro hb)
 | (exfalso; omega))
      refine rSTp g3 (by simp; omega) rfl ?_
      rw [hset1]
      have ho1 := ho.put h4 g1 g3 (r' := r.set j (sumW (row.take (j + 1)))) (by simp)
      have h4' : (T.set i (r.set j (sumW (row.take (j + 1)))))[i]? = some (r.set j (sumW (row.take (j + 1)))) := List.getElem?_set_self hT
      obtain ⟨kj', gj', p1, p2, p3, p4, p5⟩ := ho1.get h4'
      have h2' := sq_set h2 h4 (r' := r.set j (sumW (row.take (j + 1)))) (by simp)
      have hF1 := hF.set g4 gj (ifrees_map (r.set j (sumW (row.take (j + 1)))))
      refine rGTR ?_
      refine rBRK (fun hb2 => ?_) (fun hb2 => ?_)
      · obtain ⟨i', rfl⟩ : ∃ i', i = i' + 1 := ⟨i - 1, by omega⟩
        have h6 := h3 i' (by omega)
        have h6' : (T.set (i' + 1) (r.set j (sumW (row.take (j + 1)))))[i']? = some (tabRow t.length (cornAt t) i') := by rw [List.getElem?_set_ne (by omega)]; exact h6
        obtain ⟨kp, gp, q1, q2, q3, q4, q5⟩ := ho1.get h6'
        refine rTT (rTT ?_)
        refine rIXo (by omega) ?_
        repeat' (with_reducible first
 | refine rTT ?_
 | refine rRFL ?_
 | refine rLEN (by assumption) ?_
 | (refine rIXk (by assumption) (by assumption) ?_; intro p hp)
 | (refine rIX (by assumption) (by omega) (by omega) ?_; intro p a ha hp)
 | refine rLDi (by assumption) ?_
 | (refine rLD (by assumption) ?_; intro c hc)
 | refine rADD (by omega) ?_
 | refine rSUB (by omega) ?_
 | refine rLSS ?_
 | refine rLEQ ?_
 | refine rGTR ?_
 | refine rGEQ ?_
 | refine rEQL ?_
 | refine rNEQ ?_
 | refine rNOT ?_
 | (refine rBRK ?_ ?_ <;> intro hb)
 | (refine rBRKn ?_ ?_ <;> intro hb)
 | (refine rBRKnb ?_ ?_ <;> intro hb)
 | (refine rBRKb ?_ ?_ <;> intro hb)
 | (refine rSPL ?_ ?_ <;> intro hb)
 | (refine rSPLn ?_ ?_ <;> intro hb)
 | (refine rSPLnb ?_ ?_ <;> intro hb)
 | (refine rSPLb ?_ ?_ <;> intro hb)
 | (exfalso; omega))
        refine rLDf ho1.top p2 ?_
        repeat' (with_reducible first
 | refine rTT ?_
 | refine rRFL ?_
 | refine rLEN (by assumption) ?_
 | (refine rIXk (by assumption) (by assumption) ?_; intro p hp)
 | (refine rIX (by assumption) (by omega) (by omega) ?_; intro p a ha hp)
 | refine rLDi (by assumption) ?_
 | (refine rLD (by assumption) ?_; intro c hc)
 | refine rADD (by omega) ?_
 | refine rSUB (by omega) ?_
 | refine rLSS ?_
 | refine rLEQ ?_
 | refine rGTR ?_
 | refine rGEQ ?_
 | refine rEQL ?_
 | refine rNEQ ?_
 | refine rNOT ?_
 | (refine rBRK ?_ ?_ <;> intro hb)
 | (refine rBRKn ?_ ?_ <;> intro hb)
 | (refine rBRKnb ?_ ?_ <;> intro hb)
 | (refine rBRKb ?_ ?_ <;> intro hb)
 | (refine rSPL ?_ ?_ <;> intro hb)
 | (refine rSPLn ?_ ?_ <;> intro hb)
 | (refine rSPLnb ?_ ?_ <;> intro hb)
 | (refine rSPLb ?_ ?_ <;> intro hb)
 | (exfalso; omega))
        refine rIXo (by simp; omega) ?_
        repeat' (with_reducible first
 | refine rTT ?_
 | refine rRFL ?_
 | refine rLEN (by assumption) ?_
 | (refine rIXk (by assumption) (by assumption) ?_; intro p hp)
 | (refine rIX (by assumption) (by omega) (by omega) ?_; intro p a ha hp)
 | refine rLDi (by assumption) ?_
 | (refine rLD (by assumption) ?_; intro c hc)
 | refine rADD (by omega) ?_
 | refine rSUB (by omega) ?_
 | refine rLSS ?_
 | refine rLEQ ?_
 | refine rGTR ?_
 | refine rGEQ ?_
 | refine rEQL ?_
 | refine rNEQ ?_
 | refine rNOT ?_
 | (refine rBRK ?_ ?_ <;> intro hb)
 | (refine rBRKn ?_ ?_ <;> intro hb)
 | (refine rBRKnb ?_ ?_ <;> intro hb)
 | (refine rBRKb ?_ ?_ <;> intro hb)
 | (refine rSPL ?_ ?_ <;> intro hb)
 | (refine rSPLn ?_ ?_ <;> intro hb)
 | (refine rSPLnb ?_ ?_ <;> intro hb)
 | (refine rSPLb ?_ ?_ <;> intro hb)
 | (exfalso; omega))
        refine rLDf p3 (by rw [List.getElem?_map, List.getElem?_set_self (by omega)]; rfl) ?_
        repeat' (with_reducible first
 | refine rTT ?_
 | refine rRFL ?_
 | refine rLEN (by assumption) ?_
 | (refine rIXk (by assumption) (by assumption) ?_; intro p hp)
 | (refine rIX (by assumption) (by omega) (by omega) ?_; intro p a ha hp)
 | refine rLDi (by assumption) ?_
 | (refine rLD (by assumption) ?_; intro c hc)
 | refine rADD (by omega) ?_
 | refine rSUB (by omega) ?_
 | refine rLSS ?_
 | refine rLEQ ?_
 | refine rGTR ?_
 | refine rGEQ ?_
 | refine rEQL ?_
 | refine rNEQ ?_
 | refine rNOT ?_
 | (refine rBRK ?_ ?_ <;> intro hb)
 | (refine rBRKn ?_ ?_ <;> intro hb)
 | (refine rBRKnb ?_ ?_ <;> intro hb)
 | (refine rBRKb ?_ ?_ <;> intro hb)
 | (refine rSPL ?_ ?_ <;> intro hb)
 | (refine rSPLn ?_ ?_ <;> intro hb)
 | (refine rSPLnb ?_ ?_ <;> intro hb)
 | (refine rSPLb ?_ ?_ <;> intro hb)
 | (exfalso; omega))
        have ei : (((i' + 1 : Nat) : Int) - 1) = (i' : Int) := by omega
        rw [ei]
        refine rIXo (by omega) ?_
        repeat' (with_reducible first
 | refine rTT ?_
 | refine rRFL ?_
 | refine rLEN (by assumption) ?_
 | (refine rIXk (by assumption) (by assumption) ?_; intro p hp)
 | (refine rIX (by assumption) (by omega) (by omega) ?_; intro p a ha hp)
 | refine rLDi (by assumption) ?_
 | (refine rLD (by assumption) ?_; intro c hc)
 | refine rADD (by omega) ?_
 | refine rSUB (by omega) ?_
 | refine rLSS ?_
 | refine rLEQ ?_
 | refine rGTR ?_
 | refine rGEQ ?_
 | refine rEQL ?_
 | refine rNEQ ?_
 | refine rNOT ?_
 | (refine rBRK ?_ ?_ <;> intro hb)
 | (refine rBRKn ?_ ?_ <;> intro hb)
 | (refine rBRKnb ?_ ?_ <;> intro hb)
 | (refine rBRKb ?_ ?_ <;> intro hb)
 | (refine rSPL ?_ ?_ <;> intro hb)
 | (refine rSPLn ?_ ?_ <;> intro hb)
 | (refine rSPLnb ?_ ?_ <;> intro hb)
 | (refine rSPLb ?_ ?_ <;> intro hb)
 | (exfalso; omega))
        refine rLDf ho1.top q2 ?_
        repeat' (with_reducible first
 | refine rTT ?_
 | refine rRFL ?_
 | refine rLEN (by assumption) ?_
 | (refine rIXk (by assumption) (by assumption) ?_; intro p hp)
 | (refine rIX (by assumption) (by omega) (by omega) ?_; intro p a ha hp)
 | refine rLDi (by assumption) ?_
 | (refine rLD (by assumption) ?_; intro c hc)
 | refine rADD (by omega) ?_
 | refine rSUB (by omega) ?_
 | refine rLSS ?_
 | refine rLEQ ?_
 | refine rGTR ?_
 | refine rGEQ ?_
 | refine rEQL ?_
 | refine rNEQ ?_
 | refine rNOT ?_
 | (refine rBRK ?_ ?_ <;> intro hb)
 | (refine rBRKn ?_ ?_ <;> intro hb)
 | (refine rBRKnb ?_ ?_ <;> intro hb)
 | (refine rBRKb ?_ ?_ <;> intro hb)
 | (refine rSPL ?_ ?_ <;> intro hb)
 | (refine rSPLn ?_ ?_ <;> intro hb)
 | (refine rSPLnb ?_ ?_ <;> intro hb)
 | (refine rSPLb ?_ ?_ <;> intro hb)
 | (exfalso; omega))
        refine rIXo (by simp [tabRow]; omega) ?_
        repeat' (with_reducible first
 | refine rTT ?_
 | refine rRFL ?_
 | refine rLEN (by assumption) ?_
 | (refine rIXk (by assumption) (by assumption) ?_; intro p hp)
 | (refine rIX (by assumption) (by omega) (by omega) ?_; intro p a ha hp)
 | refine rLDi (by assumption) ?_
 | (refine rLD (by assumption) ?_; intro c hc)
 | refine rADD (by omega) ?_
 | refine rSUB (by omega) ?_
 | refine rLSS ?_
 | refine rLEQ ?_
 | refine rGTR ?_
 | refine rGEQ ?_
 | refine rEQL ?_
 | refine rNEQ ?_
 | refine rNOT ?_
 | (refine rBRK ?_ ?_ <;> intro hb)
 | (refine rBRKn ?_ ?_ <;> intro hb)
 | (refine rBRKnb ?_ ?_ <;> intro hb)
 | (refine rBRKb ?_ ?_ <;> intro hb)
 | (refine rSPL ?_ ?_ <;> intro hb)
 | (refine rSPLn ?_ ?_ <;> intro hb)
 | (refine rSPLnb ?_ ?_ <;> intro hb)
 | (refine rSPLb ?_ ?_ <;> intro hb)
 | (exfalso; omega))
        refine rLDf q3 (v := I (cornAt t i' j)) (by simp [tabRow, List.getElem?_range (show j < t.length by omega)]) ?_
        refine rADDw ?_
        repeat' (with_reducible first
 | refine rTT ?_
 | refine rRFL ?_
 | refine rLEN (by assumption) ?_
 | (refine rIXk (by assumption) (by assumption) ?_; intro p hp)
 | (refine rIX (by assumption) (by omega) (by omega) ?_; intro p a ha hp)
 | refine rLDi (by assumption) ?_
 | (refine rLD (by assumption) ?_; intro c hc)
 | refine rADD (by omega) ?_
 | refine rSUB (by omega) ?_
 | refine rLSS ?_
 | refine rLEQ ?_
 | refine rGTR ?_
 | refine rGEQ ?_
 | refine rEQL ?_
 | refine rNEQ ?_
 | refine rNOT ?_
 | (refine rBRK ?_ ?_ <;> intro hb)
 | (refine rBRKn ?_ ?_ <;> intro hb)
 | (refine rBRKnb ?_ ?_ <;> intro hb)
 | (refine rBRKb ?_ ?_ <;> intro hb)
 | (refine rSPL ?_ ?_ <;> intro hb)
 | (refine rSPLn ?_ ?_ <;> intro hb)
 | (refine rSPLnb ?_ ?_ <;> intro hb)
 | (refine rSPLb ?_ ?_ <;> intro hb)
 | (exfalso; omega))
        refine rIXo (by simp; omega) ?_
        repeat' (with_reducible first
 | refine rTT ?_
 | refine rRFL ?_
 | refine rLEN (by assumption) ?_
 | (refine rIXk (by assumption) (by assumption) ?_; intro p hp)
 | (refine rIX (by assumption) (by omega) (by omega) ?_; intro p a ha hp)
 | refine rLDi (by assumption) ?_
 | (refine rLD (by assumption) ?_; intro c hc)
 | refine rADD (by omega) ?_
 | refine rSUB (by omega) ?_
 | refine rLSS ?_
 | refine rLEQ ?_
 | refine rGTR ?_
 | refine rGEQ ?_
 | refine rEQL ?_
 | refine rNEQ ?_
 | refine rNOT ?_
 | (refine rBRK ?_ ?_ <;> intro hb)
 | (refine rBRKn ?_ ?_ <;> intro hb)
 | (refine rBRKnb ?_ ?_ <;> intro hb)
 | (refine rBRKb ?_ ?_ <;> intro hb)
 | (refine rSPL ?_ ?_ <;> intro hb)
 | (refine rSPLn ?_ ?_ <;> intro hb)
 | (refine rSPLnb ?_ ?_ <;> intro hb)
 | (refine rSPLb ?_ ?_ <;> intro hb)
 | (exfalso; omega))
        refine rSTp p3 (by simp; omega) rfl ?_
        rw [hset1]
        repeat' (with_reducible first
 | refine rTT ?_
 | refine rRFL ?_
 | refine rLEN (by assumption) ?_
 | (refine rIXk (by assumption) (by assumption) ?_; intro p hp)
 | (refine rIX (by assumption) (by omega) (by omega) ?_; intro p a ha hp)
 | refine rLDi (by assumption) ?_
 | (refine rLD (by assumption) ?_; intro c hc)
 | refine rADD (by omega) ?_
 | refine rSUB (by omega) ?_
 | refine rLSS ?_
 | refine rLEQ ?_
 | refine rGTR ?_
 | refine rGEQ ?_
 | refine rEQL ?_
 | refine rNEQ ?_
 | refine rNOT ?_
 | (refine rBRK ?_ ?_ <;> intro hb)
 | (refine rBRKn ?_ ?_ <;> intro hb)
 | (refine rBRKnb ?_ ?_ <;> intro hb)
 | (refine rBRKb ?_ ?_ <;> intro hb)
 | (refine rSPL ?_ ?_ <;> intro hb)
 | (refine rSPLn ?_ ?_ <;> intro hb)
 | (refine rSPLnb ?_ ?_ <;> intro hb)
 | (refine rSPLb ?_ ?_ <;> intro hb)
 | (exfalso; omega))
        have hgetD : t.getD (i' + 1) [] = row := by simp [List.getD, hrow]
        have hval : w64 (sumW (row.take (j + 1)) + cornAt t i' j) = cornAt t (i' + 1) j := by rw [cornAt, hgetD]
        rw [hval]
        have ho2 := ho1.put h4' p1 p3 (r' := (r.set j (sumW (row.take (j + 1)))).set j (cornAt t (i' + 1) j)) (by simp)
        rw [List.set_set, List.set_set] at ho2
        rw [List.set_set]
        refine ih (j + 1) (T.set (i' + 1) (r.set j (cornAt t (i' + 1) j))) (r.set j (cornAt t (i' + 1) j)) _ (by omega) (by simpa using h1) (sq_set h2 h4 (by simp)) (fun y hy => by rw [List.getElem?_set_ne (by omega)]; exact h3 y hy) (List.getElem?_set_self hT) ?_ ho2 (hF1.set p4 gj' (ifrees_map _))
        have e1 : (r.set j (cornAt t (i' + 1) j))[j]? = some (cornAt t (i' + 1) j) := List.getElem?_set_self (by omega)
        have e2 : (tabRow t.length (cornAt t) (i' + 1))[j]? = some (cornAt t (i' + 1) j) := by simp [tabRow, List.getElem?_range (show j < t.length by omega)]
        rw [take_some e1, take_some e2, List.take_set_of_le (Nat.le_refl _), h5]
      · have hi0 : i = 0 := by omega
        subst hi0
        repeat' (with_reducible first
 | refine rTT ?_
 | refine rRFL ?_
 | refine rLEN (by assumption) ?_
 | (refine rIXk (by assumption) (by assumption) ?_; intro p hp)
 | (refine rIX (by assumption) (by omega) (by omega) ?_; intro p a ha hp)
 | refine rLDi (by assumption) ?_
 | (refine rLD (by assumption) ?_; intro c hc)
 | refine rADD (by omega) ?_
 | refine rSUB (by omega) ?_
 | refine rLSS ?_
 | refine rLEQ ?_
 | refine rGTR ?_
 | refine rGEQ ?_
 | refine rEQL ?_
 | refine rNEQ ?_
 | refine rNOT ?_
 | (refine rBRK ?_ ?_ <;> intro hb)
 | (refine rBRKn ?_ ?_ <;> intro hb)
 | (refine rBRKnb ?_ ?_ <;> intro hb)
 | (refine rBRKb ?_ ?_ <;> intro hb)
 | (refine rSPL ?_ ?_ <;> intro hb)
 | (refine rSPLn ?_ ?_ <;> intro hb)
 | (refine rSPLnb ?_ ?_ <;> intro hb)
 | (refine rSPLb ?_ ?_ <;> intro hb)
 | (exfalso; omega))
        have hgetD : t.getD 0 [] = row := by simp [List.getD, hrow]
        have hval : sumW (row.take (j + 1)) = cornAt t 0 j := by rw [cornAt, hgetD]
        refine ih (j + 1) (T.set 0 (r.set j (sumW (row.take (j + 1))))) (r.set j (sumW (row.take (j + 1)))) _ (by omega) (by simpa using h1) h2' (fun y hy => by omega) h4' ?_ ho1 hF1
        have e1 : (r.set j (sumW (row.take (j + 1))))[j]? = some (sumW (row.take (j + 1))) := List.getElem?_set_self (by omega)
        have e2 : (tabRow t.length (cornAt t) 0)[j]? = some (sumW (row.take (j + 1))) := by simp [tabRow, List.getElem?_range (show j < t.length by omega), hval]
        rw [take_some e1, take_some e2, List.take_set_of_le (Nat.le_refl _), h5]
theorem corners_out (hv : IsTab v t) (hl : t.length ≤ 100000) (hs : isSquareB t = true) {k g : Nat} {rows : List AVal} {ks : List Nat} (hq : ∀ (H : Heap), OTab H0.length H k g rows ks (tabT t.length t.length (cornAt t)) → Fresh H0 H → Q (.own k g 1 0 t.length) H) :
    ∀ (n i : Nat) (T : List (List Int)) (H : Heap), i + n = t.length → T.length = t.length → isSquareB T = true → (∀ x, x < i → T[x]? = some (tabRow t.length (cornAt t) x)) → OTab H0.length H k g rows ks T → Fresh H0 H →
      spec_sgCorners.L3 Q v (.own k g 1 0 t.length) (I t.length) (I i) H := by
  intro n
  induction n with
  | zero =>
    intro i T H hi h1 h2 h3 ho hF
    apply spec_sgCorners.step3
    unfold spec_sgCorners.step3_vc
    repeat' (with_reducible first
 | refine rTT ?_
 | refine rRFL ?_
 | refine rLEN (by assumption) ?_
 | (refine rIXk (by assumption) (by assumption) ?_; intro p hp)
 | (refine rIX (by assumption) (by omega) (by omega) ?_; intro p a ha hp)
 | refine rLDi (by assumption) ?_
 | (refine rLD (by assumption) ?_; intro c hc)
 | refine rADD (by omega) ?_
 | refine rSUB (by omega) ?_
 | refine rLSS ?_
 | refine rLEQ ?_
 | refine rGTR ?_
 | refine rGEQ ?_
 | refine rEQL ?_
 | refine rNEQ ?_
 | refine rNOT ?_
 | (refine rBRK ?_ ?_ <;> intro hb)
 | (refine rBRKn ?_ ?_ <;> intro hb)
 | (refine rBRKnb ?_ ?_ <;> intro hb)
 | (refine rBRKb ?_ ?_ <;> intro hb)
 | (refine rSPL ?_ ?_ <;> intro hb)
 | (refine rSPLn ?_ ?_ <;> intro hb)
 | (refine rSPLnb ?_ ?_ <;> intro hb)
 | (refine rSPLb ?_ ?_ <;> intro hb)
 | (exfalso; omega))
    have : T = tabT t.length t.length (cornAt t) := by
      refine List.ext_getElem? fun x => ?_
      by_cases hx : x < t.length
      · rw [h3 x (by omega)]
        simp [tabT, List.getElem?_range hx]
      · rw [List.getElem?_eq_none (by omega), List.getElem?_eq_none (by simp [tabT]; omega)]
    subst this
    exact hq H ho hF
  | succ n ih =>
    intro i T H hi h1 h2 h3 ho hF
    obtain ⟨row, hrow⟩ := ex_get (l := t) (k := i) (by omega)
    obtain ⟨r, hr⟩ := ex_get (l := T) (k := i) (by omega)
    have hrl := sq_len hs (List.mem_of_getElem? hrow)
    apply spec_sgCorners.step3
    unfold spec_sgCorners.step3_vc
    repeat' (with_reducible first
 | refine rTT ?_
 | refine rRFL ?_
 | refine rLEN (by assumption) ?_
 | (refine rIXk (by assumption) (by assumption) ?_; intro p hp)
 | (refine rIX (by assumption) (by omega) (by omega) ?_; intro p a ha hp)
 | refine rLDi (by assumption) ?_
 | (refine rLD (by assumption) ?_; intro c hc)
 | refine rADD (by omega) ?_
 | refine rSUB (by omega) ?_
 | refine rLSS ?_
 | refine rLEQ ?_
 | refine rGTR ?_
 | refine rGEQ ?_
 | refine rEQL ?_
 | refine rNEQ ?_
 | refine rNOT ?_
 | (refine rBRK ?_ ?_ <;> intro hb)
 | (refine rBRKn ?_ ?_ <;> intro hb)
 | (refine rBRKnb ?_ ?_ <;> intro hb)
 | (refine rBRKb ?_ ?_ <;> intro hb)
 | (refine rSPL ?_ ?_ <;> intro hb)
 | (refine rSPLn ?_ ?_ <;> intro hb)
 | (refine rSPLnb ?_ ?_ <;> intro hb)
 | (refine rSPLb ?_ ?_ <;> intro hb)
 | (exfalso; omega))
    refine corners_in hv hl hs hrow (by assumption) (fun s T' H' q1 q2 q3 q4 q5 => ?_) t.length 0 T r H (by omega) h1 h2 h3 hr rfl ho hF
    apply spec_sgCorners.step7
    unfold spec_sgCorners.step7_vc
    repeat' (with_reducible first
 | refine rTT ?_
 | refine rRFL ?_
 | refine rLEN (by assumption) ?_
 | (refine rIXk (by assumption) (by assumption) ?_; intro p hp)
 | (refine rIX (by assumption) (by omega) (by omega) ?_; intro p a ha hp)
 | refine rLDi (by assumption) ?_
 | (refine rLD (by assumption) ?_; intro c hc)
 | refine rADD (by omega) ?_
 | refine rSUB (by omega) ?_
 | refine rLSS ?_
 | refine rLEQ ?_
 | refine rGTR ?_
 | refine rGEQ ?_
 | refine rEQL ?_
 | refine rNEQ ?_
 | refine rNOT ?_
 | (refine rBRK ?_ ?_ <;> intro hb)
 | (refine rBRKn ?_ ?_ <;> intro hb)
 | (refine rBRKnb ?_ ?_ <;> intro hb)
 | (refine rBRKb ?_ ?_ <;> intro hb)
 | (refine rSPL ?_ ?_ <;> intro hb)
 | (refine rSPLn ?_ ?_ <;> intro hb)
 | (refine rSPLnb ?_ ?_ <;> intro hb)
 | (refine rSPLb ?_ ?_ <;> intro hb)
 | (exfalso; omega))
    exact ih (i + 1) T' H' (by omega) q1 q2 q3 q4 q5
theorem corners_ok {H : Heap} (hv : IsTab v t) (hl : t.length ≤ 100000) (hs : isSquareB t = true) : ACalls Try.prog 114 [v] H fun r H' => IsTab r (tabT t.length t.length (cornAt t)) ∧ H' = H := by
  apply ACalls.pure
  apply spec_sgCorners.start
  unfold spec_sgCorners.start_vc
  repeat' (with_reducible first
 | refine rTT ?_
 | refine rRFL ?_
 | refine rLEN (by assumption) ?_
 | (refine rIXk (by assumption) (by assumption) ?_; intro p hp)
 | (refine rIX (by assumption) (by omega) (by omega) ?_; intro p a ha hp)
 | refine rLDi (by assumption) ?_
 | (refine rLD (by assumption) ?_; intro c hc)
 | refine rADD (by omega) ?_
 | refine rSUB (by omega) ?_
 | refine rLSS ?_
 | refine rLEQ ?_
 | refine rGTR ?_
 | refine rGEQ ?_
 | refine rEQL ?_
 | refine rNEQ ?_
 | refine rNOT ?_
 | (refine rBRK ?_ ?_ <;> intro hb)
 | (refine rBRKn ?_ ?_ <;> intro hb)
 | (refine rBRKnb ?_ ?_ <;> intro hb)
 | (refine rBRKb ?_ ?_ <;> intro hb)
 | (refine rSPL ?_ ?_ <;> intro hb)
 | (refine rSPLn ?_ ?_ <;> intro hb)
 | (refine rSPLnb ?_ ?_ <;> intro hb)
 | (refine rSPLb ?_ ?_ <;> intro hb)
 | (exfalso; omega))
  refine ACalls.mono (sgZero_ok (by omega)) ?_
  rintro r H1 ⟨h1, h2⟩
  repeat' (with_reducible first
 | refine rTT ?_
 | refine rRFL ?_
 | refine rLEN (by assumption) ?_
 | (refine rIXk (by assumption) (by assumption) ?_; intro p hp)
 | (refine rIX (by assumption) (by omega) (by omega) ?_; intro p a ha hp)
 | refine rLDi (by assumption) ?_
 | (refine rLD (by assumption) ?_; intro c hc)
 | refine rADD (by omega) ?_
 | refine rSUB (by omega) ?_
 | refine rLSS ?_
 | refine rLEQ ?_
 | refine rGTR ?_
 | refine rGEQ ?_
 | refine rEQL ?_
 | refine rNEQ ?_
 | refine rNOT ?_
 | (refine rBRK ?_ ?_ <;> intro hb)
 | (refine rBRKn ?_ ?_ <;> intro hb)
 | (refine rBRKnb ?_ ?_ <;> intro hb)
 | (refine rBRKb ?_ ?_ <;> intro hb)
 | (refine rSPL ?_ ?_ <;> intro hb)
 | (refine rSPLn ?_ ?_ <;> intro hb)
 | (refine rSPLnb ?_ ?_ <;> intro hb)
 | (refine rSPLb ?_ ?_ <;> intro hb)
 | (exfalso; omega))
  have fin : ∀ (r : AVal) (H' : Heap) (T : List (List Int)), IsOTab H.length H' r T → Fresh H H' → HSub H H' ∧ ∃ k r', Pur (nw H H') k r r' ∧ IsTab r' T ∧ H = H := by
    intro r H' T h3 h4
    obtain ⟨v', q1, q2⟩ := h3.pur (Hf := nw H H') fun i hi => nw_above H H' hi
    exact ⟨h4.sub, 2, v', q1, q2, rfl⟩
  have hz : (zeros t.length).length = t.length := by simp [zeros]
  rcases h1 with ⟨rfl, ht⟩ | ⟨k, g, rows, ks, rfl, ho⟩
  · rw [ht] at hz
    have hc0 : t = [] := List.eq_nil_of_length_eq_zero hz.symm
    subst hc0
    apply spec_sgCorners.step3
    unfold spec_sgCorners.step3_vc
    refine rLSS ?_
    exact rBRK (fun h => absurd h (by simp)) (fun _ => fin _ _ _ (.inl ⟨rfl, rfl⟩) h2)
  · rw [hz]
    refine corners_out hv hl hs (fun H' h3 h4 => fin _ _ _ (.inr ⟨k, g, rows, ks, by simp [tabT], h3⟩) h4) t.length 0 (zeros t.length) H1 (by omega) hz (zeros_sq _) (fun x hx => by omega) ho h2
end

end Go.Proofs.Ytccioplhchmilaa.AL

set_option linter.unusedVariables false
set_option maxRecDepth 100000
namespace Go.Proofs.Ytccioplhchmilaa.AL
open Go Go.Proofs

/-! spec.DrawHeightsOf (slots: 0 code, 1 code) -/
namespace spec_DrawHeightsOf
def lv : List (Nat × List Nat) := []
def start_vc (Q : AVal → Heap → Prop) (a0 : AVal) (H : Heap) : Prop :=
 ACalls Try.prog 75 [a0] H fun x1 H2 =>
 Q x1 H2
theorem start_eq (Q : AVal → Heap → Prop) (a0 : AVal) (H : Heap) : vs Try.prog lv 21 5 Try.f21.results.toList Q true 1000 [.sq (bodyOf Try.f21)] (entry [a0]) H = start_vc Q a0 H := by kernel_rfl
theorem start {Q : AVal → Heap → Prop} {a0 : AVal} {H : Heap} (h : start_vc Q a0 H) : ACalls Try.prog 21 [a0] H Q := acalls_vs (lv := lv) mixed Try.func21 rfl (by kernel_rfl) (by kernel_rfl) (start_eq Q a0 H ▸ h)
end spec_DrawHeightsOf


def heAt (c : List (List Int)) (i j : Nat) : Int := w64 ((i + j : Nat) - w64 (2 * atT c ((i : Int) - 1) ((j : Int) - 1)))
section
variable {t c : List (List Int)} {v vc : AVal} {H0 : Heap} {Q : AVal → Heap → Prop}
theorem heOf_in (hv : IsTab v t) (hc : IsTab vc c) (hl : t.length ≤ 100000) (hcl : c.length = t.length) (hs : isSquareB c = true) {i : Nat} (hi : i ≤ t.length) {vo : AVal}
    (hq : ∀ v6, IsInts v6 (tabRow (t.length + 1) (heAt c) i) → spec_heOf.L8 Q v vc vo (I i) v6 (I ((t.length + 1 : Nat) : Int)) H0) : ∀ (n j : Nat) (v6 : AVal) (H : Heap), j + n = t.length + 1 → Bld H0 v6 H (((tabRow (t.length + 1) (heAt c) i).take j).map I) →
    spec_heOf.L8 Q v vc vo (I i) v6 (I j) H := by
  have hrl : (tabRow (t.length + 1) (heAt c) i).length = t.length + 1 := by simp [tabRow]
  intro n
  induction n with
  | zero =>
    intro j v6 H hj hb0
    rw [List.take_of_length_le (by omega)] at hb0
    obtain ⟨v', h1, h2⟩ := hb0.pur (R := IsI) (xs := tabRow (t.length + 1) (heAt c) i) (by simp) (fun i c a hc ha => by rw [List.getElem?_map, ha] at hc; cases hc; rfl)
    have hj' : j = t.length + 1 := by omega
    subst hj'
    exact spec_heOf.L8_frz (nw_split hb0.sub) (k := 1) ⟨Pur.refl _ _ _, Pur.refl _ _ _, Pur.refl _ _ _, Pur.refl _ _ _, h1, Pur.refl _ _ _, trivial⟩ (hq v' h2)
  | succ n ih =>
    intro j v6 H hj hb0
    have hsq : ∀ r ∈ c, r.length = t.length := fun r hr => by rw [sq_len hs hr, hcl]
    apply spec_heOf.step8
    unfold spec_heOf.step8_vc
    repeat' (with_reducible first
 | refine rTT ?_
 | refine rRFL ?_
 | refine rLEN (by assumption) ?_
 | (refine rIXk (by assumption) (by assumption) ?_; intro p hp)
 | (refine rIX (by assumption) (by omega) (by omega) ?_; intro p a ha hp)
 | refine rLDi (by assumption) ?_
 | (refine rLD (by assumption) ?_; intro c hc)
 | refine rADD (by omega) ?_
 | refine rSUB (by omega) ?_
 | refine rLSS ?_
 | refine rLEQ ?_
 | refine rGTR ?_
 | refine rGEQ ?_
 | refine rEQL ?_
 | refine rNEQ ?_
 | refine rNOT ?_
 | (refine rBRK ?_ ?_ <;> intro hb)
 | (refine rBRKn ?_ ?_ <;> intro hb)
 | (refine rBRKnb ?_ ?_ <;> intro hb)
 | (refine rBRKb ?_ ?_ <;> intro hb)
 | (refine rSPL ?_ ?_ <;> intro hb)
 | (refine rSPLn ?_ ?_ <;> intro hb)
 | (refine rSPLnb ?_ ?_ <;> intro hb)
 | (refine rSPLb ?_ ?_ <;> intro hb)
 | (exfalso; omega))
    refine ACalls.mono (sgAt_ok hc (by omega) (fun r hr => by rw [hsq r hr]; omega)) ?_
    rintro r H1 ⟨rfl, rfl⟩
    refine rMULw ?_
    refine rSUBw ?_
    refine rTT (rTT (rTT (rLIT1 rfl (rTT (rTT ?_)))))
    refine rAPK1 hb0 (by simp; omega) fun v' H' hb1 => ?_
    repeat' (with_reducible first
 | refine rTT ?_
 | refine rRFL ?_
 | refine rLEN (by assumption) ?_
 | (refine rIXk (by assumption) (by assumption) ?_; intro p hp)
 | (refine rIX (by assumption) (by omega) (by omega) ?_; intro p a ha hp)
 | refine rLDi (by assumption) ?_
 | (refine rLD (by assumption) ?_; intro c hc)
 | refine rADD (by omega) ?_
 | refine rSUB (by omega) ?_
 | refine rLSS ?_
 | refine rLEQ ?_
 | refine rGTR ?_
 | refine rGEQ ?_
 | refine rEQL ?_
 | refine rNEQ ?_
 | refine rNOT ?_
 | (refine rBRK ?_ ?_ <;> intro hb)
 | (refine rBRKn ?_ ?_ <;> intro hb)
 | (refine rBRKnb ?_ ?_ <;> intro hb)
 | (refine rBRKb ?_ ?_ <;> intro hb)
 | (refine rSPL ?_ ?_ <;> intro hb)
 | (refine rSPLn ?_ ?_ <;> intro hb)
 | (refine rSPLnb ?_ ?_ <;> intro hb)
 | (refine rSPLb ?_ ?_ <;> intro hb)
 | (exfalso; omega))
    refine ih (j + 1) v' H' (by omega) ?_
    have e2 : (tabRow (t.length + 1) (heAt c) i)[j]? = some (heAt c i j) := by simp [tabRow, List.getElem?_range (show j < t.length + 1 by omega)]
    rw [take_some e2]
    simpa [heAt] using hb1
theorem heOf_out (hv : IsTab v t) (hc : IsTab vc c) (hl : t.length ≤ 100000) (hcl : c.length = t.length) (hs : isSquareB c = true)
    (hq : ∀ v' H' ls, Bld H0 v' H' ls → ls.length = t.length + 1 → (∀ (i : Nat) (x : AVal), ls[i]? = some x → IsInts x (tabRow (t.length + 1) (heAt c) i)) → Q v' H') : ∀ (n i : Nat) (vo : AVal) (H : Heap) (ls : List AVal), i + n = t.length + 1 → Bld H0 vo H ls → ls.length = i →
    (∀ (i : Nat) (x : AVal), ls[i]? = some x → IsInts x (tabRow (t.length + 1) (heAt c) i)) → spec_heOf.L4 Q v vc vo (I i) H := by
  intro n
  induction n with
  | zero =>
    intro i vo H ls hi hb0 hlen hls
    apply spec_heOf.step4
    unfold spec_heOf.step4_vc
    repeat' (with_reducible first
 | refine rTT ?_
 | refine rRFL ?_
 | refine rLEN (by assumption) ?_
 | (refine rIXk (by assumption) (by assumption) ?_; intro p hp)
 | (refine rIX (by assumption) (by omega) (by omega) ?_; intro p a ha hp)
 | refine rLDi (by assumption) ?_
 | (refine rLD (by assumption) ?_; intro c hc)
 | refine rADD (by omega) ?_
 | refine rSUB (by omega) ?_
 | refine rLSS ?_
 | refine rLEQ ?_
 | refine rGTR ?_
 | refine rGEQ ?_
 | refine rEQL ?_
 | refine rNEQ ?_
 | refine rNOT ?_
 | (refine rBRK ?_ ?_ <;> intro hb)
 | (refine rBRKn ?_ ?_ <;> intro hb)
 | (refine rBRKnb ?_ ?_ <;> intro hb)
 | (refine rBRKb ?_ ?_ <;> intro hb)
 | (refine rSPL ?_ ?_ <;> intro hb)
 | (refine rSPLn ?_ ?_ <;> intro hb)
 | (refine rSPLnb ?_ ?_ <;> intro hb)
 | (refine rSPLb ?_ ?_ <;> intro hb)
 | (exfalso; omega))
    exact hq _ _ ls hb0 (by omega) hls
  | succ n ih =>
    intro i vo H ls hi hb0 hlen hls
    apply spec_heOf.step4
    unfold spec_heOf.step4_vc
    repeat' (with_reducible first
 | refine rTT ?_
 | refine rRFL ?_
 | refine rLEN (by assumption) ?_
 | (refine rIXk (by assumption) (by assumption) ?_; intro p hp)
 | (refine rIX (by assumption) (by omega) (by omega) ?_; intro p a ha hp)
 | refine rLDi (by assumption) ?_
 | (refine rLD (by assumption) ?_; intro c hc)
 | refine rADD (by omega) ?_
 | refine rSUB (by omega) ?_
 | refine rLSS ?_
 | refine rLEQ ?_
 | refine rGTR ?_
 | refine rGEQ ?_
 | refine rEQL ?_
 | refine rNEQ ?_
 | refine rNOT ?_
 | (refine rBRK ?_ ?_ <;> intro hb)
 | (refine rBRKn ?_ ?_ <;> intro hb)
 | (refine rBRKnb ?_ ?_ <;> intro hb)
 | (refine rBRKb ?_ ?_ <;> intro hb)
 | (refine rSPL ?_ ?_ <;> intro hb)
 | (refine rSPLn ?_ ?_ <;> intro hb)
 | (refine rSPLnb ?_ ?_ <;> intro hb)
 | (refine rSPLb ?_ ?_ <;> intro hb)
 | (exfalso; omega))
    refine heOf_in hv hc hl hcl hs (i := i) (by omega) (fun v6 h6 => ?_) (t.length + 1) 0 _ _ (by omega) (bld_nil H)
    apply spec_heOf.step8
    unfold spec_heOf.step8_vc
    repeat' (with_reducible first
 | refine rTT ?_
 | refine rRFL ?_
 | refine rLEN (by assumption) ?_
 | (refine rIXk (by assumption) (by assumption) ?_; intro p hp)
 | (refine rIX (by assumption) (by omega) (by omega) ?_; intro p a ha hp)
 | refine rLDi (by assumption) ?_
 | (refine rLD (by assumption) ?_; intro c hc)
 | refine rADD (by omega) ?_
 | refine rSUB (by omega) ?_
 | refine rLSS ?_
 | refine rLEQ ?_
 | refine rGTR ?_
 | refine rGEQ ?_
 | refine rEQL ?_
 | refine rNEQ ?_
 | refine rNOT ?_
 | (refine rBRK ?_ ?_ <;> intro hb)
 | (refine rBRKn ?_ ?_ <;> intro hb)
 | (refine rBRKnb ?_ ?_ <;> intro hb)
 | (refine rBRKb ?_ ?_ <;> intro hb)
 | (refine rSPL ?_ ?_ <;> intro hb)
 | (refine rSPLn ?_ ?_ <;> intro hb)
 | (refine rSPLnb ?_ ?_ <;> intro hb)
 | (refine rSPLb ?_ ?_ <;> intro hb)
 | (exfalso; omega))
    refine rLIT1 h6.one ?_
    repeat' (with_reducible first
 | refine rTT ?_
 | refine rRFL ?_
 | refine rLEN (by assumption) ?_
 | (refine rIXk (by assumption) (by assumption) ?_; intro p hp)
 | (refine rIX (by assumption) (by omega) (by omega) ?_; intro p a ha hp)
 | refine rLDi (by assumption) ?_
 | (refine rLD (by assumption) ?_; intro c hc)
 | refine rADD (by omega) ?_
 | refine rSUB (by omega) ?_
 | refine rLSS ?_
 | refine rLEQ ?_
 | refine rGTR ?_
 | refine rGEQ ?_
 | refine rEQL ?_
 | refine rNEQ ?_
 | refine rNOT ?_
 | (refine rBRK ?_ ?_ <;> intro hb)
 | (refine rBRKn ?_ ?_ <;> intro hb)
 | (refine rBRKnb ?_ ?_ <;> intro hb)
 | (refine rBRKb ?_ ?_ <;> intro hb)
 | (refine rSPL ?_ ?_ <;> intro hb)
 | (refine rSPLn ?_ ?_ <;> intro hb)
 | (refine rSPLnb ?_ ?_ <;> intro hb)
 | (refine rSPLb ?_ ?_ <;> intro hb)
 | (exfalso; omega))
    refine rAPK1 hb0 (by omega) fun v' H' hb1 => ?_
    repeat' (with_reducible first
 | refine rTT ?_
 | refine rRFL ?_
 | refine rLEN (by assumption) ?_
 | (refine rIXk (by assumption) (by assumption) ?_; intro p hp)
 | (refine rIX (by assumption) (by omega) (by omega) ?_; intro p a ha hp)
 | refine rLDi (by assumption) ?_
 | (refine rLD (by assumption) ?_; intro c hc)
 | refine rADD (by omega) ?_
 | refine rSUB (by omega) ?_
 | refine rLSS ?_
 | refine rLEQ ?_
 | refine rGTR ?_
 | refine rGEQ ?_
 | refine rEQL ?_
 | refine rNEQ ?_
 | refine rNOT ?_
 | (refine rBRK ?_ ?_ <;> intro hb)
 | (refine rBRKn ?_ ?_ <;> intro hb)
 | (refine rBRKnb ?_ ?_ <;> intro hb)
 | (refine rBRKb ?_ ?_ <;> intro hb)
 | (refine rSPL ?_ ?_ <;> intro hb)
 | (refine rSPLn ?_ ?_ <;> intro hb)
 | (refine rSPLnb ?_ ?_ <;> intro hb)
 | (refine rSPLb ?_ ?_ <;> intro hb)
 | (exfalso; omega))
    refine ih (i + 1) v' H' (ls ++ [v6]) (by omega) hb1 (by simp [hlen]) ?_
    intro i' x hx
    rw [List.getElem?_append] at hx
    split at hx
    · exact hls i' x hx
    · have h0 : i' - ls.length = 0 := by
        have := (List.getElem?_eq_some_iff.1 hx).1
        simp at this; omega
      have hi' : i' = i := by omega
      subst hi'
      rw [h0] at hx
      cases hx; exact h6
theorem heOf_ok {H : Heap} (hv : IsTab v t) (hl : t.length ≤ 100000) (hs : isSquareB t = true) : ACalls Try.prog 61 [v] H fun r H' => IsTab r (tabT (t.length + 1) (t.length + 1) (heAt (tabT t.length t.length (cornAt t)))) ∧ H' = H := by
  apply ACalls.pure
  apply spec_heOf.start
  unfold spec_heOf.start_vc
  refine ACalls.mono (corners_ok hv hl hs) ?_
  rintro vc H1 ⟨h1, rfl⟩
  have hcl : (tabT t.length t.length (cornAt t)).length = t.length := by simp [tabT]
  have hcs : isSquareB (tabT t.length t.length (cornAt t)) = true := by
    simp only [isSquareB, List.all_eq_true, decide_eq_true_eq, hcl]
    intro r hr
    simp only [tabT, List.mem_map] at hr
    obtain ⟨i, _, rfl⟩ := hr
    simp [tabRow]
  refine heOf_out hv h1 hl hcl hcs (fun v' H' ls hb hlen hls => ?_) (t.length + 1) 0 _ _ [] (by omega) (bld_nil H1) rfl (by simp)
  refine hb.done (R := IsInts) (xs := tabT (t.length + 1) (t.length + 1) (heAt (tabT t.length t.length (cornAt t)))) (Q := fun r H' => IsTab r _ ∧ H' = H1) (by simp [tabT, hlen]) (fun i x a hx ha => ?_) (fun r hr => ⟨hr, rfl⟩)
  have hi := (List.getElem?_eq_some_iff.1 hx).1
  have : a = tabRow (t.length + 1) (heAt (tabT t.length t.length (cornAt t))) i := by
    simp only [tabT, List.getElem?_map] at ha
    rw [List.getElem?_range (by omega)] at ha
    cases ha; rfl
  rw [this]; exact hls i x hx
end

/-! ### Both tell the same heights -/
theorem w64_w64 (n : Int) : w64 (w64 n) = w64 n := w64_in (w64_range n)
theorem sumW_w64 (l : List Int) : w64 (sumW l) = sumW l := by
  rcases List.eq_nil_or_concat l with rfl | ⟨l, x, rfl⟩
  · rfl
  · rw [List.concat_eq_append, sumW_snoc, w64_w64]
theorem cornerF_succ {t : List (List Int)} {i j : Nat} (hi : i < t.length) : cornerF t (i + 1) j = w64 (cornerF t i j + sumW ((t.getD i []).take j)) := by
  obtain ⟨r, hr⟩ := ex_get hi
  have hg : t.getD i [] = r := by simp [List.getD, hr]
  rw [cornerF, cornerG, take_some hr, List.foldl_append, hg]; rfl
theorem cornerF_at {t : List (List Int)} {j : Nat} : ∀ {i : Nat}, i < t.length → cornerF t (i + 1) (j + 1) = cornAt t i j
  | 0, hi => by
    rw [cornerF_succ hi, cornAt]
    show w64 (0 + _) = _
    rw [Int.zero_add, sumW_w64]
  | i + 1, hi => by
    rw [cornerF_succ hi, cornerF_at (by omega), cornAt, Int.add_comm]
theorem cornerF_left {t : List (List Int)} : ∀ {i : Nat}, i ≤ t.length → cornerF t i 0 = 0
  | 0, _ => rfl
  | i + 1, hi => by
    rw [cornerF_succ (by omega), cornerF_left (by omega)]; rfl
theorem heights_eq {t : List (List Int)} (hl : t.length ≤ 100000) : tabT (t.length + 1) (t.length + 1) (heAt (tabT t.length t.length (cornAt t))) = heightsF t := by
  unfold heightsF tabT
  refine List.map_congr_left fun i hi => ?_
  unfold tabRow
  refine List.map_congr_left fun j hj => ?_
  rw [List.mem_range] at hi hj
  unfold heAt heightAt
  have e : cornerF t i j = atT (tabT t.length t.length (cornAt t)) ((i : Int) - 1) ((j : Int) - 1) := by
    unfold atT
    cases i with
    | zero => rw [if_pos (by omega)]; rfl
    | succ i =>
      cases j with
      | zero => rw [if_pos (by omega), cornerF_left (by omega)]
      | succ j =>
        rw [if_neg (by omega), cornerF_at (by omega)]
        have e1 : (((i + 1 : Nat) : Int) - 1).toNat = i := by omega
        have e2 : (((j + 1 : Nat) : Int) - 1).toNat = j := by omega
        rw [e1, e2]
        simp [List.getD, tabT, tabRow, List.getElem?_range (show i < t.length by omega), List.getElem?_range (show j < t.length by omega)]
  rw [e, w64_in (n := (i : Int) + j) (by omega)]
  congr 1

theorem specHeightsOf_ok {t : List (List Int)} {v : AVal} (hv : IsTab v t) (hl : t.length ≤ 100000) (hr : ∀ r ∈ t, r.length ≤ 1000000) {H : Heap} : ACalls Try.prog 23 [v] H fun r H' => (∃ h, r = .tup [h, .bool (goodB t)] ∧ IsTab h (bif goodB t then heightsF t else [])) ∧ H' = H := by
  apply spec_HeightsOf.start
  unfold spec_HeightsOf.start_vc
  refine ACalls.mono (sgGood_ok hv (by omega) hr) ?_
  rintro r H1 ⟨rfl, rfl⟩
  repeat' (with_reducible first
 | refine rTT ?_
 | refine rRFL ?_
 | refine rLEN (by assumption) ?_
 | (refine rIXk (by assumption) (by assumption) ?_; intro p hp)
 | (refine rIX (by assumption) (by omega) (by omega) ?_; intro p a ha hp)
 | refine rLDi (by assumption) ?_
 | (refine rLD (by assumption) ?_; intro c hc)
 | refine rADD (by omega) ?_
 | refine rSUB (by omega) ?_
 | refine rLSS ?_
 | refine rLEQ ?_
 | refine rGTR ?_
 | refine rGEQ ?_
 | refine rEQL ?_
 | refine rNEQ ?_
 | refine rNOT ?_
 | (refine rBRK ?_ ?_ <;> intro hb)
 | (refine rBRKn ?_ ?_ <;> intro hb)
 | (refine rBRKnb ?_ ?_ <;> intro hb)
 | (refine rBRKb ?_ ?_ <;> intro hb)
 | (refine rSPL ?_ ?_ <;> intro hb)
 | (refine rSPLn ?_ ?_ <;> intro hb)
 | (refine rSPLnb ?_ ?_ <;> intro hb)
 | (refine rSPLb ?_ ?_ <;> intro hb)
 | (exfalso; omega))
  · exact ⟨⟨_, by rw [hb], by rw [hb]; exact .inl ⟨rfl, rfl⟩⟩, rfl⟩
  · have hs : isSquareB t = true := by simp only [goodB, Bool.and_eq_true] at hb; exact hb.2.1
    refine ACalls.mono (heOf_ok hv hl hs) ?_
    rintro r H2 ⟨h1, rfl⟩
    rw [heights_eq hl] at h1
    exact ⟨⟨_, by rw [hb], by rw [hb]; exact h1⟩, rfl⟩

theorem cells_one {v : AVal} {K : List AVal → Prop} (hv : v.one = true) (k : K [v]) : cellsOfV v K := by
  unfold cellsOfV
  cases v <;> first | exact ⟨hv, k⟩ | cases hv
/-- A drawn table, as a value. -/
def TabR (r : AVal) : Prop := ∃ t, IsTab r t ∧ t.length ≤ 7 ∧ ∀ r ∈ t, r.length ≤ 7
theorem drawSign_ok {code : List Int} {v : AVal} (hv : IsSl IsB v code) (hl : code.length ≤ 1099511627776) {H : Heap} : ACalls Try.prog 75 [v] H fun r H' => TabR r ∧ H' = H := by
  apply ACalls.pure
  apply spec_DrawIsSignMatrix.start
  unfold spec_DrawIsSignMatrix.start_vc
  refine rTT ?_
  refine cells_one hv.one ⟨rfl, by decide, ?_⟩
  simp only [BLDK, List.take_zero, List.nil_append, List.drop_succ_cons, List.drop_zero, List.singleton_append, Nat.zero_add, BOXK, cellsOfV]
  intro g
  have hc : Cur 0 (hnew H g [v, I 0, .int .u64 0]) H.length g := ⟨v, code, 0, 0, hget_new _ _ _, hv, hl, by omega, by omega⟩
  refine ACalls.mono (signs_ok hc (by omega) (by omega) (by omega)) ?_
  rintro r H' ⟨t, h1, h2, h3, h4⟩
  have hsub : HSub H H' := by
    intro i g' cs hi
    have hlt := hlt_of_get hi
    rw [h4.old i (by rw [hlen_new]; omega) (by omega), hget_old _ _ hlt]; exact hi
  obtain ⟨v', q1, q2⟩ := h1.pur (Hf := nw H H') fun i hi => nw_above H H' (by rw [hlen_new] at hi; omega)
  exact ⟨hsub, 2, v', q1, ⟨t, q2, h2, h3⟩, trivial⟩
theorem drawHeights_ok {code : List Int} {v : AVal} (hv : IsSl IsB v code) (hl : code.length ≤ 1099511627776) {H : Heap} : ACalls Try.prog 21 [v] H fun r H' => TabR r ∧ H' = H := by
  apply spec_DrawHeightsOf.start
  unfold spec_DrawHeightsOf.start_vc
  exact drawSign_ok hv hl

end Go.Proofs.Ytccioplhchmilaa.AL

set_option linter.unusedVariables false
set_option maxRecDepth 100000
namespace Go.Proofs.Ytccioplhchmilaa.AL
open Go Go.Proofs

/-! cmp.isNaN[int] (slots: 0 x, 1 x) -/
namespace cmp_isNaN_int
def lv : List (Nat × List Nat) := []
def start_vc (Q : AVal → Heap → Prop) (a0 : AVal) (H : Heap) : Prop :=
 BINK .neq a0 a0 fun x1 =>
 Q x1 H
theorem start_eq (Q : AVal → Heap → Prop) (a0 : AVal) (H : Heap) : vs Try.prog lv 138 6 Try.f138.results.toList Q true 1000 [.sq (bodyOf Try.f138)] (entry [a0]) H = start_vc Q a0 H := by kernel_rfl
theorem start {Q : AVal → Heap → Prop} {a0 : AVal} {H : Heap} (h : start_vc Q a0 H) : ACalls Try.prog 138 [a0] H Q := acalls_vs (lv := lv) mixed Try.func138 rfl (by kernel_rfl) (by kernel_rfl) (start_eq Q a0 H ▸ h)
end cmp_isNaN_int

/-! cmp.Compare[int] (slots: 0 x, 1 y, 2 x, 3 y, 5 xNaN, 6 yNaN) -/
namespace cmp_Compare_int
def lv : List (Nat × List Nat) := []
def start_vc (Q : AVal → Heap → Prop) (a0 a1 : AVal) (H : Heap) : Prop :=
 ACalls Try.prog 138 [a0] H fun x1 H2 =>
 ACalls Try.prog 138 [a1] H2 fun x3 H4 =>
 BRK x1 (BRK x3 (Q (AVal.int .i64 0) H4) (Q (AVal.int .i64 (-1)) H4)) (BRK x3 (Q (AVal.int .i64 1) H4) (BINK .lss a0 a1 fun x5 =>
 BRK x5 (Q (AVal.int .i64 (-1)) H4) (BINK .gtr a0 a1 fun x6 =>
 BRK x6 (Q (AVal.int .i64 1) H4) (Q (AVal.int .i64 0) H4))))
theorem start_eq (Q : AVal → Heap → Prop) (a0 a1 : AVal) (H : Heap) : vs Try.prog lv 137 20 Try.f137.results.toList Q true 1000 [.sq (bodyOf Try.f137)] (entry [a0, a1]) H = start_vc Q a0 a1 H := by kernel_rfl
theorem start {Q : AVal → Heap → Prop} {a0 a1 : AVal} {H : Heap} (h : start_vc Q a0 a1 H) : ACalls Try.prog 137 [a0, a1] H Q := acalls_vs (lv := lv) mixed Try.func137 rfl (by kernel_rfl) (by kernel_rfl) (start_eq Q a0 a1 H ▸ h)
end cmp_Compare_int

/-! slices.Compare[[]int,int] (slots: 0 s1, 1 s2, 2 s1, 3 s2, 5 i, 6 v1, 7 v2, 8 c) -/
namespace slices_Compare_T1_int
def lv : List (Nat × List Nat) := [(2, [0, 1, 9, 10, 11])]
noncomputable def K2 : List KF := [.lp (cB (cB (cR (cL (cR (bodyOf Try.f128)))))), .bl 0, .sq (cR (cR (bodyOf Try.f128)))]
def L2 (Q : AVal → Heap → Prop) (v0 v1 v9 v10 v11 : AVal) (H : Heap) : Prop := At Try.prog 128 36 K2 Q (slotsOf [(0, v0), (1, v1), (9, v9), (10, v10), (11, v11)]) H
theorem L2_frz {Q : AVal → Heap → Prop} {v0 v1 v9 v10 v11 w0 w1 w9 w10 w11 : AVal} {H Hf Hk : Heap} {k : Nat} (hs : Split H Hf Hk) (hp : PurL Hf k [(0, v0, w0), (1, v1, w1), (9, v9, w9), (10, v10, w10), (11, v11, w11)]) (h : L2 Q w0 w1 w9 w10 w11 Hk) : L2 Q v0 v1 v9 v10 v11 H := at_frz (ks := K2) hs hp h
def start_vc (Q : AVal → Heap → Prop) (a0 a1 : AVal) (H : Heap) : Prop :=
 LENK a0 fun x1 =>
 slices_Compare_T1_int.L2 Q a0 a1 a0 x1 (AVal.int .i64 0) H
theorem start_eq (Q : AVal → Heap → Prop) (a0 a1 : AVal) (H : Heap) : vs Try.prog lv 128 36 Try.f128.results.toList Q true 1000 [.sq (bodyOf Try.f128)] (entry [a0, a1]) H = start_vc Q a0 a1 H := by kernel_rfl
theorem start {Q : AVal → Heap → Prop} {a0 a1 : AVal} {H : Heap} (h : start_vc Q a0 a1 H) : ACalls Try.prog 128 [a0, a1] H Q := acalls_vs (lv := lv) mixed Try.func128 rfl (by kernel_rfl) (by kernel_rfl) (start_eq Q a0 a1 H ▸ h)
def step2_vc (Q : AVal → Heap → Prop) (v0 v1 v9 v10 v11 : AVal) (H : Heap) : Prop :=
 BINK .lss v11 v10 fun x1 =>
 BRK x1 (TT ∧ IXK 1 v9 v11 fun x2 =>
 TT ∧ TT ∧ LDK false 1 H x2 fun x3 =>
 LENK v1 fun x4 =>
 BINK .geq v11 x4 fun x5 =>
 BRK x5 (Q (AVal.int .i64 1) H) (TT ∧ IXK 1 v1 v11 fun x6 =>
 TT ∧ TT ∧ LDK false 1 H x6 fun x7 =>
 ACalls Try.prog 137 [x3, x7] H fun x8 H9 =>
 BINK .neq x8 (AVal.int .i64 0) fun x10 =>
 BRK x10 (Q x8 H9) (BINK .add v11 (AVal.int .i64 1) fun x11 =>
 slices_Compare_T1_int.L2 Q v0 v1 v9 v10 x11 H9))) (LENK v0 fun x12 =>
 LENK v1 fun x13 =>
 BINK .lss x12 x13 fun x14 =>
 BRK x14 (Q (AVal.int .i64 (-1)) H) (Q (AVal.int .i64 0) H))
theorem step2_eq (Q : AVal → Heap → Prop) (v0 v1 v9 v10 v11 : AVal) (H : Heap) : vs Try.prog lv 128 36 Try.f128.results.toList Q true 1000 (.sq (cB (cB (cR (cL (cR (bodyOf Try.f128)))))) :: K2) (slotsOf [(0, v0), (1, v1), (9, v9), (10, v10), (11, v11)]) H = step2_vc Q v0 v1 v9 v10 v11 H := by kernel_rfl
theorem step2 {Q : AVal → Heap → Prop} {v0 v1 v9 v10 v11 : AVal} {H : Heap} (h : step2_vc Q v0 v1 v9 v10 v11 H) : L2 Q v0 v1 v9 v10 v11 H := at_lp_vs (lv := lv) (ks := K2.tail) mixed Try.func128 (step2_eq Q v0 v1 v9 v10 v11 H ▸ h)
end slices_Compare_T1_int

/-! slices.CompareFunc[[][]int,[][]int,[]int,[]int] (slots: 0 s1, 1 s2, 2 cmp, 3 s1, 4 s2, 5 cmp, 7 i, 8 v1, 9 v2, 10 c) -/
namespace slices_CompareFunc_T2_T2_T1_T1
def lv : List (Nat × List Nat) := [(2, [0, 1, 2, 11, 12, 13])]
noncomputable def K2 : List KF := [.lp (cB (cB (cR (cL (cR (bodyOf Try.f126)))))), .bl 0, .sq (cR (cR (bodyOf Try.f126)))]
def L2 (Q : AVal → Heap → Prop) (v0 v1 v2 v11 v12 v13 : AVal) (H : Heap) : Prop := At Try.prog 126 39 K2 Q (slotsOf [(0, v0), (1, v1), (2, v2), (11, v11), (12, v12), (13, v13)]) H
theorem L2_frz {Q : AVal → Heap → Prop} {v0 v1 v2 v11 v12 v13 w0 w1 w2 w11 w12 w13 : AVal} {H Hf Hk : Heap} {k : Nat} (hs : Split H Hf Hk) (hp : PurL Hf k [(0, v0, w0), (1, v1, w1), (2, v2, w2), (11, v11, w11), (12, v12, w12), (13, v13, w13)]) (h : L2 Q w0 w1 w2 w11 w12 w13 Hk) : L2 Q v0 v1 v2 v11 v12 v13 H := at_frz (ks := K2) hs hp h
def start_vc (Q : AVal → Heap → Prop) (a0 a1 a2 : AVal) (H : Heap) : Prop :=
 LENK a0 fun x1 =>
 slices_CompareFunc_T2_T2_T1_T1.L2 Q a0 a1 a2 a0 x1 (AVal.int .i64 0) H
theorem start_eq (Q : AVal → Heap → Prop) (a0 a1 a2 : AVal) (H : Heap) : vs Try.prog lv 126 39 Try.f126.results.toList Q true 1000 [.sq (bodyOf Try.f126)] (entry [a0, a1, a2]) H = start_vc Q a0 a1 a2 H := by kernel_rfl
theorem start {Q : AVal → Heap → Prop} {a0 a1 a2 : AVal} {H : Heap} (h : start_vc Q a0 a1 a2 H) : ACalls Try.prog 126 [a0, a1, a2] H Q := acalls_vs (lv := lv) mixed Try.func126 rfl (by kernel_rfl) (by kernel_rfl) (start_eq Q a0 a1 a2 H ▸ h)
def step2_vc (Q : AVal → Heap → Prop) (v0 v1 v2 v11 v12 v13 : AVal) (H : Heap) : Prop :=
 BINK .lss v13 v12 fun x1 =>
 BRK x1 (TT ∧ IXK 1 v11 v13 fun x2 =>
 TT ∧ TT ∧ LDK false 1 H x2 fun x3 =>
 LENK v1 fun x4 =>
 BINK .geq v13 x4 fun x5 =>
 BRK x5 (Q (AVal.int .i64 1) H) (TT ∧ IXK 1 v1 v13 fun x6 =>
 TT ∧ TT ∧ LDK false 1 H x6 fun x7 =>
 CALLK Try.prog v2 [x3, x7] H fun x8 H9 =>
 BINK .neq x8 (AVal.int .i64 0) fun x10 =>
 BRK x10 (Q x8 H9) (BINK .add v13 (AVal.int .i64 1) fun x11 =>
 slices_CompareFunc_T2_T2_T1_T1.L2 Q v0 v1 v2 v11 v12 x11 H9))) (LENK v0 fun x12 =>
 LENK v1 fun x13 =>
 BINK .lss x12 x13 fun x14 =>
 BRK x14 (Q (AVal.int .i64 (-1)) H) (Q (AVal.int .i64 0) H))
theorem step2_eq (Q : AVal → Heap → Prop) (v0 v1 v2 v11 v12 v13 : AVal) (H : Heap) : vs Try.prog lv 126 39 Try.f126.results.toList Q true 1000 (.sq (cB (cB (cR (cL (cR (bodyOf Try.f126)))))) :: K2) (slotsOf [(0, v0), (1, v1), (2, v2), (11, v11), (12, v12), (13, v13)]) H = step2_vc Q v0 v1 v2 v11 v12 v13 H := by kernel_rfl
theorem step2 {Q : AVal → Heap → Prop} {v0 v1 v2 v11 v12 v13 : AVal} {H : Heap} (h : step2_vc Q v0 v1 v2 v11 v12 v13 H) : L2 Q v0 v1 v2 v11 v12 v13 H := at_lp_vs (lv := lv) (ks := K2.tail) mixed Try.func126 (step2_eq Q v0 v1 v2 v11 v12 v13 H ▸ h)
end slices_CompareFunc_T2_T2_T1_T1

/-! impl.compareTables (slots: 0 a, 1 b, 2 a, 3 b) -/
namespace impl_compareTables
def lv : List (Nat × List Nat) := []
def start_vc (Q : AVal → Heap → Prop) (a0 a1 : AVal) (H : Heap) : Prop :=
 ACalls Try.prog 126 [a0, a1, (AVal.fn 127 [] [])] H fun x1 H2 =>
 Q x1 H2
theorem start_eq (Q : AVal → Heap → Prop) (a0 a1 : AVal) (H : Heap) : vs Try.prog lv 82 8 Try.f82.results.toList Q true 1000 [.sq (bodyOf Try.f82)] (entry [a0, a1]) H = start_vc Q a0 a1 H := by kernel_rfl
theorem start {Q : AVal → Heap → Prop} {a0 a1 : AVal} {H : Heap} (h : start_vc Q a0 a1 H) : ACalls Try.prog 82 [a0, a1] H Q := acalls_vs (lv := lv) mixed Try.func82 rfl (by kernel_rfl) (by kernel_rfl) (start_eq Q a0 a1 H ▸ h)
end impl_compareTables

/-! impl.compareTables$1 (slots: 0 x, 1 y, 2 x, 3 y) -/
namespace impl_compareTables_1
def lv : List (Nat × List Nat) := []
def start_vc (Q : AVal → Heap → Prop) (a0 a1 : AVal) (H : Heap) : Prop :=
 ACalls Try.prog 128 [a0, a1] H fun x1 H2 =>
 Q x1 H2
theorem start_eq (Q : AVal → Heap → Prop) (a0 a1 : AVal) (H : Heap) : vs Try.prog lv 127 8 Try.f127.results.toList Q true 1000 [.sq (bodyOf Try.f127)] (entry [a0, a1]) H = start_vc Q a0 a1 H := by kernel_rfl
theorem start {Q : AVal → Heap → Prop} {a0 a1 : AVal} {H : Heap} (h : start_vc Q a0 a1 H) : ACalls Try.prog 127 [a0, a1] H Q := acalls_vs (lv := lv) mixed Try.func127 rfl (by kernel_rfl) (by kernel_rfl) (start_eq Q a0 a1 H ▸ h)
end impl_compareTables_1


def cmpI (a b : Int) : Int := if a < b then -1 else if b < a then 1 else 0
def cmpBy {α : Type} (f : α → α → Int) : List α → List α → Int
  | [], [] => 0
  | [], _ :: _ => -1
  | _ :: _, [] => 1
  | a :: l, b :: m => if f a b = 0 then cmpBy f l m else f a b
def cmpL : List Int → List Int → Int := cmpBy cmpI
def cmpT : List (List Int) → List (List Int) → Int := cmpBy cmpL
theorem cmpI_eq {a b : Int} : cmpI a b = 0 ↔ a = b := by unfold cmpI; split <;> (try split) <;> omega
theorem cmpBy_eq {α : Type} {f : α → α → Int} (hf : ∀ a b, f a b = 0 ↔ a = b) : ∀ {l m : List α}, cmpBy f l m = 0 ↔ l = m
  | [], [] => by simp [cmpBy]
  | [], _ :: _ => by simp [cmpBy]
  | _ :: _, [] => by simp [cmpBy]
  | a :: l, b :: m => by
    simp only [cmpBy]
    split
    · rename_i h; rw [cmpBy_eq hf, (hf a b).1 h]; simp
    · rename_i h
      constructor
      · intro h'; exact absurd h' h
      · intro h'; cases h'; exact absurd ((hf a a).2 rfl) h
theorem cmpT_eq {l m : List (List Int)} : cmpT l m = 0 ↔ l = m := cmpBy_eq fun _ _ => cmpBy_eq fun _ _ => cmpI_eq

theorem isNaN_ok {a : Int} {H : Heap} : ACalls Try.prog 138 [I a] H fun r H' => r = .bool false ∧ H' = H := by
  apply cmp_isNaN_int.start
  unfold cmp_isNaN_int.start_vc
  repeat' (with_reducible first
 | refine rTT ?_
 | refine rRFL ?_
 | refine rLEN (by assumption) ?_
 | (refine rIXk (by assumption) (by assumption) ?_; intro p hp)
 | (refine rIX (by assumption) (by omega) (by omega) ?_; intro p a ha hp)
 | refine rLDi (by assumption) ?_
 | (refine rLD (by assumption) ?_; intro c hc)
 | refine rADD (by omega) ?_
 | refine rSUB (by omega) ?_
 | refine rLSS ?_
 | refine rLEQ ?_
 | refine rGTR ?_
 | refine rGEQ ?_
 | refine rEQL ?_
 | refine rNEQ ?_
 | refine rNOT ?_
 | (refine rBRK ?_ ?_ <;> intro hb)
 | (refine rBRKn ?_ ?_ <;> intro hb)
 | (refine rBRKnb ?_ ?_ <;> intro hb)
 | (refine rBRKb ?_ ?_ <;> intro hb)
 | (refine rSPL ?_ ?_ <;> intro hb)
 | (refine rSPLn ?_ ?_ <;> intro hb)
 | (refine rSPLnb ?_ ?_ <;> intro hb)
 | (refine rSPLb ?_ ?_ <;> intro hb)
 | (exfalso; omega))
  exact ⟨by simp, rfl⟩
theorem compare_ok {a b : Int} {H : Heap} : ACalls Try.prog 137 [I a, I b] H fun r H' => r = I (cmpI a b) ∧ H' = H := by
  apply cmp_Compare_int.start
  unfold cmp_Compare_int.start_vc
  refine ACalls.mono isNaN_ok ?_
  rintro r H1 ⟨rfl, rfl⟩
  refine ACalls.mono isNaN_ok ?_
  rintro r H1 ⟨rfl, rfl⟩
  refine rBRKb (fun h => by cases h) (fun _ => rBRKb (fun h => by cases h) (fun _ => ?_))
  repeat' (with_reducible first
 | refine rTT ?_
 | refine rRFL ?_
 | refine rLEN (by assumption) ?_
 | (refine rIXk (by assumption) (by assumption) ?_; intro p hp)
 | (refine rIX (by assumption) (by omega) (by omega) ?_; intro p a ha hp)
 | refine rLDi (by assumption) ?_
 | (refine rLD (by assumption) ?_; intro c hc)
 | refine rADD (by omega) ?_
 | refine rSUB (by omega) ?_
 | refine rLSS ?_
 | refine rLEQ ?_
 | refine rGTR ?_
 | refine rGEQ ?_
 | refine rEQL ?_
 | refine rNEQ ?_
 | refine rNOT ?_
 | (refine rBRK ?_ ?_ <;> intro hb)
 | (refine rBRKn ?_ ?_ <;> intro hb)
 | (refine rBRKnb ?_ ?_ <;> intro hb)
 | (refine rBRKb ?_ ?_ <;> intro hb)
 | (refine rSPL ?_ ?_ <;> intro hb)
 | (refine rSPLn ?_ ?_ <;> intro hb)
 | (refine rSPLnb ?_ ?_ <;> intro hb)
 | (refine rSPLb ?_ ?_ <;> intro hb)
 | (exfalso; omega))
  · exact ⟨by rw [cmpI, if_pos hb], rfl⟩
  · exact ⟨by rw [cmpI, if_neg (by omega), if_pos hb], rfl⟩
  · exact ⟨by rw [cmpI, if_neg (by omega), if_neg hb], rfl⟩

theorem cmpBy_nil {α : Type} {f : α → α → Int} {m : List α} : cmpBy f [] m = if 0 < m.length then -1 else 0 := by
  cases m <;> simp [cmpBy]
theorem compareL_loop {a b : List Int} {v u : AVal} (hv : IsInts v a) (hu : IsInts u b) (hl : a.length ≤ 1000000) {H : Heap} {Q : AVal → Heap → Prop} : ∀ (n k : Nat), k + n = a.length → k ≤ b.length → Q (I (cmpL (a.drop k) (b.drop k))) H →
    slices_Compare_T1_int.L2 Q v u v (I a.length) (I k) H := by
  intro n
  induction n with
  | zero =>
    intro k hk hkb hq
    rw [List.drop_eq_nil_of_le (by omega), cmpL, cmpBy_nil, List.length_drop] at hq
    apply slices_Compare_T1_int.step2
    unfold slices_Compare_T1_int.step2_vc
    repeat' (with_reducible first
 | refine rTT ?_
 | refine rRFL ?_
 | refine rLEN (by assumption) ?_
 | (refine rIXk (by assumption) (by assumption) ?_; intro p hp)
 | (refine rIX (by assumption) (by omega) (by omega) ?_; intro p a ha hp)
 | refine rLDi (by assumption) ?_
 | (refine rLD (by assumption) ?_; intro c hc)
 | refine rADD (by omega) ?_
 | refine rSUB (by omega) ?_
 | refine rLSS ?_
 | refine rLEQ ?_
 | refine rGTR ?_
 | refine rGEQ ?_
 | refine rEQL ?_
 | refine rNEQ ?_
 | refine rNOT ?_
 | (refine rBRK ?_ ?_ <;> intro hb)
 | (refine rBRKn ?_ ?_ <;> intro hb)
 | (refine rBRKnb ?_ ?_ <;> intro hb)
 | (refine rBRKb ?_ ?_ <;> intro hb)
 | (refine rSPL ?_ ?_ <;> intro hb)
 | (refine rSPLn ?_ ?_ <;> intro hb)
 | (refine rSPLnb ?_ ?_ <;> intro hb)
 | (refine rSPLb ?_ ?_ <;> intro hb)
 | (exfalso; omega))
    · rw [if_pos (by omega)] at hq; exact hq
    · rw [if_neg (by omega)] at hq; exact hq
  | succ n ih =>
    intro k hk hkb hq
    obtain ⟨x, hx⟩ := ex_get (l := a) (k := k) (by omega)
    apply slices_Compare_T1_int.step2
    unfold slices_Compare_T1_int.step2_vc
    repeat' (with_reducible first
 | refine rTT ?_
 | refine rRFL ?_
 | refine rLEN (by assumption) ?_
 | (refine rIXk (by assumption) (by assumption) ?_; intro p hp)
 | (refine rIX (by assumption) (by omega) (by omega) ?_; intro p a ha hp)
 | refine rLDi (by assumption) ?_
 | (refine rLD (by assumption) ?_; intro c hc)
 | refine rADD (by omega) ?_
 | refine rSUB (by omega) ?_
 | refine rLSS ?_
 | refine rLEQ ?_
 | refine rGTR ?_
 | refine rGEQ ?_
 | refine rEQL ?_
 | refine rNEQ ?_
 | refine rNOT ?_
 | (refine rBRK ?_ ?_ <;> intro hb)
 | (refine rBRKn ?_ ?_ <;> intro hb)
 | (refine rBRKnb ?_ ?_ <;> intro hb)
 | (refine rBRKb ?_ ?_ <;> intro hb)
 | (refine rSPL ?_ ?_ <;> intro hb)
 | (refine rSPLn ?_ ?_ <;> intro hb)
 | (refine rSPLnb ?_ ?_ <;> intro hb)
 | (refine rSPLb ?_ ?_ <;> intro hb)
 | (exfalso; omega))
    · have hbn : b.drop k = [] := List.drop_eq_nil_of_le (by omega)
      rw [drop_some hx, hbn] at hq
      exact hq
    · rw [drop_some hx, drop_someI ha] at hq
      simp only [cmpL, cmpBy] at hq
      refine ACalls.mono compare_ok ?_
      rintro r H1 ⟨rfl, rfl⟩
      repeat' (with_reducible first
 | refine rTT ?_
 | refine rRFL ?_
 | refine rLEN (by assumption) ?_
 | (refine rIXk (by assumption) (by assumption) ?_; intro p hp)
 | (refine rIX (by assumption) (by omega) (by omega) ?_; intro p a ha hp)
 | refine rLDi (by assumption) ?_
 | (refine rLD (by assumption) ?_; intro c hc)
 | refine rADD (by omega) ?_
 | refine rSUB (by omega) ?_
 | refine rLSS ?_
 | refine rLEQ ?_
 | refine rGTR ?_
 | refine rGEQ ?_
 | refine rEQL ?_
 | refine rNEQ ?_
 | refine rNOT ?_
 | (refine rBRK ?_ ?_ <;> intro hb)
 | (refine rBRKn ?_ ?_ <;> intro hb)
 | (refine rBRKnb ?_ ?_ <;> intro hb)
 | (refine rBRKb ?_ ?_ <;> intro hb)
 | (refine rSPL ?_ ?_ <;> intro hb)
 | (refine rSPLn ?_ ?_ <;> intro hb)
 | (refine rSPLnb ?_ ?_ <;> intro hb)
 | (refine rSPLb ?_ ?_ <;> intro hb)
 | (exfalso; omega))
      · rw [if_neg hb] at hq; exact hq
      · rw [if_pos (Decidable.not_not.1 hb)] at hq
        exact ih (k + 1) (by omega) (by omega) hq
theorem compareL_ok {a b : List Int} {v u : AVal} (hv : IsInts v a) (hu : IsInts u b) (hl : a.length ≤ 1000000) {H : Heap} : ACalls Try.prog 128 [v, u] H fun r H' => r = I (cmpL a b) ∧ H' = H := by
  apply slices_Compare_T1_int.start
  unfold slices_Compare_T1_int.start_vc
  repeat' (with_reducible first
 | refine rTT ?_
 | refine rRFL ?_
 | refine rLEN (by assumption) ?_
 | (refine rIXk (by assumption) (by assumption) ?_; intro p hp)
 | (refine rIX (by assumption) (by omega) (by omega) ?_; intro p a ha hp)
 | refine rLDi (by assumption) ?_
 | (refine rLD (by assumption) ?_; intro c hc)
 | refine rADD (by omega) ?_
 | refine rSUB (by omega) ?_
 | refine rLSS ?_
 | refine rLEQ ?_
 | refine rGTR ?_
 | refine rGEQ ?_
 | refine rEQL ?_
 | refine rNEQ ?_
 | refine rNOT ?_
 | (refine rBRK ?_ ?_ <;> intro hb)
 | (refine rBRKn ?_ ?_ <;> intro hb)
 | (refine rBRKnb ?_ ?_ <;> intro hb)
 | (refine rBRKb ?_ ?_ <;> intro hb)
 | (refine rSPL ?_ ?_ <;> intro hb)
 | (refine rSPLn ?_ ?_ <;> intro hb)
 | (refine rSPLnb ?_ ?_ <;> intro hb)
 | (refine rSPLb ?_ ?_ <;> intro hb)
 | (exfalso; omega))
  exact compareL_loop hv hu hl a.length 0 (by omega) (by omega) ⟨rfl, rfl⟩

theorem compareT_loop {a b : List (List Int)} {v u f : AVal} (hv : IsTab v a) (hu : IsTab u b) (hl : a.length ≤ 1000000) {H : Heap} (hf : ∀ x ∈ a, ∀ (y : List Int) (c d : AVal), IsInts c x → IsInts d y → CALLK Try.prog f [c, d] H fun r H' => r = I (cmpL x y) ∧ H' = H) {Q : AVal → Heap → Prop} : ∀ (n k : Nat), k + n = a.length → k ≤ b.length → Q (I (cmpT (a.drop k) (b.drop k))) H →
    slices_CompareFunc_T2_T2_T1_T1.L2 Q v u f v (I a.length) (I k) H := by
  intro n
  induction n with
  | zero =>
    intro k hk hkb hq
    rw [List.drop_eq_nil_of_le (by omega), cmpT, cmpBy_nil, List.length_drop] at hq
    apply slices_CompareFunc_T2_T2_T1_T1.step2
    unfold slices_CompareFunc_T2_T2_T1_T1.step2_vc
    repeat' (with_reducible first
 | refine rTT ?_
 | refine rRFL ?_
 | refine rLEN (by assumption) ?_
 | (refine rIXk (by assumption) (by assumption) ?_; intro p hp)
 | (refine rIX (by assumption) (by omega) (by omega) ?_; intro p a ha hp)
 | refine rLDi (by assumption) ?_
 | (refine rLD (by assumption) ?_; intro c hc)
 | refine rADD (by omega) ?_
 | refine rSUB (by omega) ?_
 | refine rLSS ?_
 | refine rLEQ ?_
 | refine rGTR ?_
 | refine rGEQ ?_
 | refine rEQL ?_
 | refine rNEQ ?_
 | refine rNOT ?_
 | (refine rBRK ?_ ?_ <;> intro hb)
 | (refine rBRKn ?_ ?_ <;> intro hb)
 | (refine rBRKnb ?_ ?_ <;> intro hb)
 | (refine rBRKb ?_ ?_ <;> intro hb)
 | (refine rSPL ?_ ?_ <;> intro hb)
 | (refine rSPLn ?_ ?_ <;> intro hb)
 | (refine rSPLnb ?_ ?_ <;> intro hb)
 | (refine rSPLb ?_ ?_ <;> intro hb)
 | (exfalso; omega))
    · rw [if_pos (by omega)] at hq; exact hq
    · rw [if_neg (by omega)] at hq; exact hq
  | succ n ih =>
    intro k hk hkb hq
    obtain ⟨x, hx⟩ := ex_get (l := a) (k := k) (by omega)
    apply slices_CompareFunc_T2_T2_T1_T1.step2
    unfold slices_CompareFunc_T2_T2_T1_T1.step2_vc
    repeat' (with_reducible first
 | refine rTT ?_
 | refine rRFL ?_
 | refine rLEN (by assumption) ?_
 | (refine rIXk (by assumption) (by assumption) ?_; intro p hp)
 | (refine rIX (by assumption) (by omega) (by omega) ?_; intro p a ha hp)
 | refine rLDi (by assumption) ?_
 | (refine rLD (by assumption) ?_; intro c hc)
 | refine rADD (by omega) ?_
 | refine rSUB (by omega) ?_
 | refine rLSS ?_
 | refine rLEQ ?_
 | refine rGTR ?_
 | refine rGEQ ?_
 | refine rEQL ?_
 | refine rNEQ ?_
 | refine rNOT ?_
 | (refine rBRK ?_ ?_ <;> intro hb)
 | (refine rBRKn ?_ ?_ <;> intro hb)
 | (refine rBRKnb ?_ ?_ <;> intro hb)
 | (refine rBRKb ?_ ?_ <;> intro hb)
 | (refine rSPL ?_ ?_ <;> intro hb)
 | (refine rSPLn ?_ ?_ <;> intro hb)
 | (refine rSPLnb ?_ ?_ <;> intro hb)
 | (refine rSPLb ?_ ?_ <;> intro hb)
 | (exfalso; omega))
    · have hbn : b.drop k = [] := List.drop_eq_nil_of_le (by omega)
      rw [drop_some hx, hbn] at hq
      exact hq
    · rw [drop_some hx, drop_someI ha] at hq
      simp only [cmpT, cmpBy] at hq
      refine CALLK_mono ?_ (hf x (List.mem_of_getElem? hx) _ _ _ (by assumption) (by assumption))
      rintro r H1 ⟨rfl, rfl⟩
      repeat' (with_reducible first
 | refine rTT ?_
 | refine rRFL ?_
 | refine rLEN (by assumption) ?_
 | (refine rIXk (by assumption) (by assumption) ?_; intro p hp)
 | (refine rIX (by assumption) (by omega) (by omega) ?_; intro p a ha hp)
 | refine rLDi (by assumption) ?_
 | (refine rLD (by assumption) ?_; intro c hc)
 | refine rADD (by omega) ?_
 | refine rSUB (by omega) ?_
 | refine rLSS ?_
 | refine rLEQ ?_
 | refine rGTR ?_
 | refine rGEQ ?_
 | refine rEQL ?_
 | refine rNEQ ?_
 | refine rNOT ?_
 | (refine rBRK ?_ ?_ <;> intro hb)
 | (refine rBRKn ?_ ?_ <;> intro hb)
 | (refine rBRKnb ?_ ?_ <;> intro hb)
 | (refine rBRKb ?_ ?_ <;> intro hb)
 | (refine rSPL ?_ ?_ <;> intro hb)
 | (refine rSPLn ?_ ?_ <;> intro hb)
 | (refine rSPLnb ?_ ?_ <;> intro hb)
 | (refine rSPLb ?_ ?_ <;> intro hb)
 | (exfalso; omega))
      · rw [if_neg hb] at hq; exact hq
      · rw [if_pos (Decidable.not_not.1 hb)] at hq
        exact ih (k + 1) (by omega) (by omega) hq
theorem compareTables_ok {a b : List (List Int)} {v u : AVal} (hv : IsTab v a) (hu : IsTab u b) (hl : a.length ≤ 1000000) (hr : ∀ x ∈ a, x.length ≤ 1000000) {H : Heap} : ACalls Try.prog 82 [v, u] H fun r H' => r = I (cmpT a b) ∧ H' = H := by
  apply impl_compareTables.start
  unfold impl_compareTables.start_vc
  apply slices_CompareFunc_T2_T2_T1_T1.start
  unfold slices_CompareFunc_T2_T2_T1_T1.start_vc
  repeat' (with_reducible first
 | refine rTT ?_
 | refine rRFL ?_
 | refine rLEN (by assumption) ?_
 | (refine rIXk (by assumption) (by assumption) ?_; intro p hp)
 | (refine rIX (by assumption) (by omega) (by omega) ?_; intro p a ha hp)
 | refine rLDi (by assumption) ?_
 | (refine rLD (by assumption) ?_; intro c hc)
 | refine rADD (by omega) ?_
 | refine rSUB (by omega) ?_
 | refine rLSS ?_
 | refine rLEQ ?_
 | refine rGTR ?_
 | refine rGEQ ?_
 | refine rEQL ?_
 | refine rNEQ ?_
 | refine rNOT ?_
 | (refine rBRK ?_ ?_ <;> intro hb)
 | (refine rBRKn ?_ ?_ <;> intro hb)
 | (refine rBRKnb ?_ ?_ <;> intro hb)
 | (refine rBRKb ?_ ?_ <;> intro hb)
 | (refine rSPL ?_ ?_ <;> intro hb)
 | (refine rSPLn ?_ ?_ <;> intro hb)
 | (refine rSPLnb ?_ ?_ <;> intro hb)
 | (refine rSPLb ?_ ?_ <;> intro hb)
 | (exfalso; omega))
  refine compareT_loop hv hu hl (fun x hx y c d hc hd => rCALL ?_) a.length 0 (by omega) (by omega) ⟨rfl, rfl⟩
  show ACalls Try.prog 127 [c, d] _ _
  apply impl_compareTables_1.start
  unfold impl_compareTables_1.start_vc
  exact compareL_ok hc hd (hr x hx)

end Go.Proofs.Ytccioplhchmilaa.AL

set_option linter.unusedVariables false
set_option maxRecDepth 100000
namespace Go.Proofs.Ytccioplhchmilaa.AL
open Go Go.Proofs

/-! impl.fromHeights (slots: 0 h, 1 h, 3 corner) -/
namespace impl_fromHeights
def lv : List (Nat × List Nat) := []
def start_vc (Q : AVal → Heap → Prop) (a0 : AVal) (H : Heap) : Prop :=
 BOXK a0 H fun x1 H2 =>
 TT ∧ BOXK AVal.nilF H2 fun x3 H4 =>
 TT ∧ STK 1 H4 x3 (AVal.fn 120 [] [x1]) fun H5 =>
 TT ∧ TT ∧ LDK false 1 H5 x1 fun x6 =>
 LENK x6 fun x7 =>
 BINK .sub x7 (AVal.int .i64 1) fun x8 =>
 TT ∧ TT ∧ LDK false 1 H5 x1 fun x9 =>
 LENK x9 fun x10 =>
 BINK .sub x10 (AVal.int .i64 1) fun x11 =>
 ACalls Try.prog 107 [x8, x11, (AVal.fn 121 [] [x3])] H5 fun x12 H13 =>
 Q x12 H13
theorem start_eq (Q : AVal → Heap → Prop) (a0 : AVal) (H : Heap) : vs Try.prog lv 67 13 Try.f67.results.toList Q true 1000 [.sq (bodyOf Try.f67)] (entry [a0]) H = start_vc Q a0 H := by kernel_rfl
theorem start {Q : AVal → Heap → Prop} {a0 : AVal} {H : Heap} (h : start_vc Q a0 H) : ACalls Try.prog 67 [a0] H Q := acalls_vs (lv := lv) mixed Try.func67 rfl (by kernel_rfl) (by kernel_rfl) (start_eq Q a0 H ▸ h)
end impl_fromHeights

/-! impl.fromHeights$1 (slots: 0 i, 1 j, 3 i, 4 j) -/
namespace impl_fromHeights_1
def lv : List (Nat × List Nat) := []
def start_vc (Q : AVal → Heap → Prop) (a0 a1 a2 : AVal) (H : Heap) : Prop :=
 BINK .add a0 a1 fun x1 =>
 TT ∧ TT ∧ LDK false 1 H a2 fun x2 =>
 TT ∧ IXK 1 x2 a0 fun x3 =>
 TT ∧ TT ∧ LDK false 1 H x3 fun x4 =>
 TT ∧ IXK 1 x4 a1 fun x5 =>
 TT ∧ TT ∧ LDK false 1 H x5 fun x6 =>
 BINK .sub x1 x6 fun x7 =>
 BINK .quo x7 (AVal.int .i64 2) fun x8 =>
 Q x8 H
theorem start_eq (Q : AVal → Heap → Prop) (a0 a1 a2 : AVal) (H : Heap) : vs Try.prog lv 120 18 Try.f120.results.toList Q true 1000 [.sq (bodyOf Try.f120)] (entry [a0, a1, a2]) H = start_vc Q a0 a1 a2 H := by kernel_rfl
theorem start {Q : AVal → Heap → Prop} {a0 a1 a2 : AVal} {H : Heap} (h : start_vc Q a0 a1 a2 H) : ACalls Try.prog 120 [a0, a1, a2] H Q := acalls_vs (lv := lv) mixed Try.func120 rfl (by kernel_rfl) (by kernel_rfl) (start_eq Q a0 a1 a2 H ▸ h)
end impl_fromHeights_1

/-! impl.fromHeights$2 (slots: 0 i, 1 j, 3 i, 4 j) -/
namespace impl_fromHeights_2
def lv : List (Nat × List Nat) := []
def start_vc (Q : AVal → Heap → Prop) (a0 a1 a2 : AVal) (H : Heap) : Prop :=
 TT ∧ TT ∧ TT ∧ LDK false 1 H a2 fun x1 =>
 BINK .add a0 (AVal.int .i64 1) fun x2 =>
 BINK .add a1 (AVal.int .i64 1) fun x3 =>
 TT ∧ TT ∧ LDK false 1 H a2 fun x4 =>
 BINK .add a1 (AVal.int .i64 1) fun x5 =>
 TT ∧ TT ∧ LDK false 1 H a2 fun x6 =>
 BINK .add a0 (AVal.int .i64 1) fun x7 =>
 TT ∧ TT ∧ LDK false 1 H a2 fun x8 =>
 CALLK Try.prog x1 [x2, x3] H fun x9 H10 =>
 (TT ∧ TT ∧ LDK false 1 H10 a2 fun x11 =>
 x11 = x8) ∧
 (TT ∧ TT ∧ LDK false 1 H10 a2 fun x12 =>
 x12 = x6) ∧
 (TT ∧ TT ∧ LDK false 1 H10 a2 fun x13 =>
 x13 = x4) ∧
 CALLK Try.prog x4 [a0, x5] H10 fun x14 H15 =>
 (TT ∧ TT ∧ LDK false 1 H15 a2 fun x16 =>
 x16 = x8) ∧
 (TT ∧ TT ∧ LDK false 1 H15 a2 fun x17 =>
 x17 = x6) ∧
 BINK .sub x9 x14 fun x18 =>
 CALLK Try.prog x6 [x7, a1] H15 fun x19 H20 =>
 (TT ∧ TT ∧ LDK false 1 H20 a2 fun x21 =>
 x21 = x8) ∧
 BINK .sub x18 x19 fun x22 =>
 CALLK Try.prog x8 [a0, a1] H20 fun x23 H24 =>
 BINK .add x22 x23 fun x25 =>
 Q x25 H24
theorem start_eq (Q : AVal → Heap → Prop) (a0 a1 a2 : AVal) (H : Heap) : vs Try.prog lv 121 29 Try.f121.results.toList Q true 1000 [.sq (bodyOf Try.f121)] (entry [a0, a1, a2]) H = start_vc Q a0 a1 a2 H := by kernel_rfl
theorem start {Q : AVal → Heap → Prop} {a0 a1 a2 : AVal} {H : Heap} (h : start_vc Q a0 a1 a2 H) : ACalls Try.prog 121 [a0, a1, a2] H Q := acalls_vs (lv := lv) mixed Try.func121 rfl (by kernel_rfl) (by kernel_rfl) (start_eq Q a0 a1 a2 H ▸ h)
end impl_fromHeights_2


def hcAt (t : List (List Int)) (i j : Nat) : Int := (w64 ((i + j : Nat) - (t.getD i []).getD j 0)).tdiv 2
theorem half_in {n : Int} (h : R64 n) : R64 (n.tdiv 2) := by
  obtain ⟨h1, h2⟩ := h
  rcases Int.le_total 0 n with h0 | h0
  · rw [Int.tdiv_eq_ediv_of_nonneg h0]; omega
  · have : n = -(-n) := by omega
    rw [this, Int.neg_tdiv, Int.tdiv_eq_ediv_of_nonneg (by omega)]; omega
theorem hc_ok {t : List (List Int)} {v : AVal} {i j k g : Nat} (hv : IsTab v t) (hl : t.length ≤ 100000) (hs : isSquareB t = true) (hi : i < t.length) (hj : j < t.length) {H : Heap} (hg : hget H k = some (g, [v])) {a b : Int} (ha : a = i) (hb : b = j) : ACalls Try.prog 120 [I a, I b, .ptr k g 0] H fun r H' => r = I (hcAt t i j) ∧ H' = H := by
  subst ha; subst hb
  obtain ⟨r, hr⟩ := ex_get (l := t) (k := i) hi
  have hrl := sq_len hs (List.mem_of_getElem? hr)
  obtain ⟨x, hx⟩ := ex_get (l := r) (k := j) (by omega)
  apply impl_fromHeights_1.start
  unfold impl_fromHeights_1.start_vc
  repeat' (with_reducible first
 | refine rTT ?_
 | refine rRFL ?_
 | refine rLEN (by assumption) ?_
 | (refine rIXk (by assumption) (by assumption) ?_; intro p hp)
 | (refine rIX (by assumption) (by omega) (by omega) ?_; intro p a ha hp)
 | refine rLDi (by assumption) ?_
 | (refine rLD (by assumption) ?_; intro c hc)
 | refine rADD (by omega) ?_
 | refine rSUB (by omega) ?_
 | refine rLSS ?_
 | refine rLEQ ?_
 | refine rGTR ?_
 | refine rGEQ ?_
 | refine rEQL ?_
 | refine rNEQ ?_
 | refine rNOT ?_
 | (refine rBRK ?_ ?_ <;> intro hb)
 | (refine rBRKn ?_ ?_ <;> intro hb)
 | (refine rBRKnb ?_ ?_ <;> intro hb)
 | (refine rBRKb ?_ ?_ <;> intro hb)
 | (refine rSPL ?_ ?_ <;> intro hb)
 | (refine rSPLn ?_ ?_ <;> intro hb)
 | (refine rSPLnb ?_ ?_ <;> intro hb)
 | (refine rSPLb ?_ ?_ <;> intro hb)
 | (exfalso; omega))
  refine rLDp hg ?_
  repeat' (with_reducible first
 | refine rTT ?_
 | refine rRFL ?_
 | refine rLEN (by assumption) ?_
 | (refine rIXk (by assumption) (by assumption) ?_; intro p hp)
 | (refine rIX (by assumption) (by omega) (by omega) ?_; intro p a ha hp)
 | refine rLDi (by assumption) ?_
 | (refine rLD (by assumption) ?_; intro c hc)
 | refine rADD (by omega) ?_
 | refine rSUB (by omega) ?_
 | refine rLSS ?_
 | refine rLEQ ?_
 | refine rGTR ?_
 | refine rGEQ ?_
 | refine rEQL ?_
 | refine rNEQ ?_
 | refine rNOT ?_
 | (refine rBRK ?_ ?_ <;> intro hb)
 | (refine rBRKn ?_ ?_ <;> intro hb)
 | (refine rBRKnb ?_ ?_ <;> intro hb)
 | (refine rBRKb ?_ ?_ <;> intro hb)
 | (refine rSPL ?_ ?_ <;> intro hb)
 | (refine rSPLn ?_ ?_ <;> intro hb)
 | (refine rSPLnb ?_ ?_ <;> intro hb)
 | (refine rSPLb ?_ ?_ <;> intro hb)
 | (exfalso; omega))
  refine rSUBw ?_
  refine rQUO (by decide) (half_in (w64_range _)) ?_
  refine ⟨?_, rfl⟩
  simp [hcAt, List.getD, hr, hx]

def fromH (t : List (List Int)) (i j : Nat) : Int := w64 (w64 (w64 (hcAt t (i + 1) (j + 1) - hcAt t i (j + 1)) - hcAt t (i + 1) j) + hcAt t i j)
def fromHeightsF (t : List (List Int)) : List (List Int) := tabT (t.length - 1) (t.length - 1) (fromH t)
theorem fromHeights_ok {t : List (List Int)} {v : AVal} (hv : IsTab v t) (hl : t.length ≤ 100000) (h1 : 1 ≤ t.length) (hs : isSquareB t = true) {H : Heap} : ACalls Try.prog 67 [v] H fun r H' => IsTab r (fromHeightsF t) ∧ H' = H := by
  apply ACalls.freeze
  apply impl_fromHeights.start
  unfold impl_fromHeights.start_vc
  refine rBOX hv.one fun g => ?_
  refine rTT (rBOX rfl fun g' => ?_)
  refine rTT (rSTp (hget_new _ _ _) (by simp) rfl ?_)
  rw [hset_new]
  have hb1 : ∀ (H1 : Heap), Fresh (hnew (hnew H g [v]) g' [.fn 120 [] [.ptr H.length g 0]]) H1 → hget H1 H.length = some (g, [v]) := fun H1 hF => by
    rw [hF.old _ (by rw [hlen_new, hlen_new]; omega), hget_old _ _ (by rw [hlen_new]; omega), hget_new]
  have hb2 : ∀ (H1 : Heap), Fresh (hnew (hnew H g [v]) g' [.fn 120 [] [.ptr H.length g 0]]) H1 → hget H1 (hnew H g [v]).length = some (g', [.fn 120 [] [.ptr H.length g 0]]) := fun H1 hF => by
    rw [hF.old _ (by rw [hlen_new (hnew H g [v])]; omega), hget_new]
  refine rTT (rTT (rLDp (hb1 _ (Fresh.refl _)) ?_))
  repeat' (with_reducible first
 | refine rTT ?_
 | refine rRFL ?_
 | refine rLEN (by assumption) ?_
 | (refine rIXk (by assumption) (by assumption) ?_; intro p hp)
 | (refine rIX (by assumption) (by omega) (by omega) ?_; intro p a ha hp)
 | refine rLDi (by assumption) ?_
 | (refine rLD (by assumption) ?_; intro c hc)
 | refine rADD (by omega) ?_
 | refine rSUB (by omega) ?_
 | refine rLSS ?_
 | refine rLEQ ?_
 | refine rGTR ?_
 | refine rGEQ ?_
 | refine rEQL ?_
 | refine rNEQ ?_
 | refine rNOT ?_
 | (refine rBRK ?_ ?_ <;> intro hb)
 | (refine rBRKn ?_ ?_ <;> intro hb)
 | (refine rBRKnb ?_ ?_ <;> intro hb)
 | (refine rBRKb ?_ ?_ <;> intro hb)
 | (refine rSPL ?_ ?_ <;> intro hb)
 | (refine rSPLn ?_ ?_ <;> intro hb)
 | (refine rSPLnb ?_ ?_ <;> intro hb)
 | (refine rSPLb ?_ ?_ <;> intro hb)
 | (exfalso; omega))
  refine rLDp (hb1 _ (Fresh.refl _)) ?_
  repeat' (with_reducible first
 | refine rTT ?_
 | refine rRFL ?_
 | refine rLEN (by assumption) ?_
 | (refine rIXk (by assumption) (by assumption) ?_; intro p hp)
 | (refine rIX (by assumption) (by omega) (by omega) ?_; intro p a ha hp)
 | refine rLDi (by assumption) ?_
 | (refine rLD (by assumption) ?_; intro c hc)
 | refine rADD (by omega) ?_
 | refine rSUB (by omega) ?_
 | refine rLSS ?_
 | refine rLEQ ?_
 | refine rGTR ?_
 | refine rGEQ ?_
 | refine rEQL ?_
 | refine rNEQ ?_
 | refine rNOT ?_
 | (refine rBRK ?_ ?_ <;> intro hb)
 | (refine rBRKn ?_ ?_ <;> intro hb)
 | (refine rBRKnb ?_ ?_ <;> intro hb)
 | (refine rBRKb ?_ ?_ <;> intro hb)
 | (refine rSPL ?_ ?_ <;> intro hb)
 | (refine rSPLn ?_ ?_ <;> intro hb)
 | (refine rSPLnb ?_ ?_ <;> intro hb)
 | (refine rSPLb ?_ ?_ <;> intro hb)
 | (exfalso; omega))
  have e : ((t.length : Int) - 1) = ((t.length - 1 : Nat) : Int) := by omega
  rw [e]
  refine ACalls.mono (table_ok (F := fromH t) (by omega) (by omega) ?_) ?_
  · intro i j hi hj H1 hF
    refine rCALL ?_
    show ACalls Try.prog 121 [I i, I j, .ptr (hnew H g [v]).length g' 0] _ _
    have hp := hb2 H1 hF
    have pend : (TT ∧ TT ∧ LDK false 1 H1 (.ptr (hnew H g [v]).length g' 0) fun x => x = .fn 120 [] [.ptr H.length g 0]) := ⟨rfl, rfl, rLDp hp rfl⟩
    apply impl_fromHeights_2.start
    unfold impl_fromHeights_2.start_vc
    repeat' (first | with_reducible refine rTT ?_ | refine rLDp hp ?_ | with_reducible refine rADD (by omega) ?_)
    refine CALLK_mono ?_ (rCALL (hc_ok (i := i + 1) (j := j + 1) hv hl hs (by omega) (by omega) (hb1 H1 hF) (by omega) (by omega)))
    rintro r H2 ⟨rfl, rfl⟩
    refine ⟨pend, pend, pend, ?_⟩
    refine CALLK_mono ?_ (rCALL (hc_ok (i := i) (j := j + 1) hv hl hs (by omega) (by omega) (hb1 H2 hF) (by omega) (by omega)))
    rintro r H3 ⟨rfl, rfl⟩
    refine ⟨pend, pend, ?_⟩
    refine rSUBw ?_
    refine CALLK_mono ?_ (rCALL (hc_ok (i := i + 1) (j := j) hv hl hs (by omega) (by omega) (hb1 H3 hF) (by omega) (by omega)))
    rintro r H4 ⟨rfl, rfl⟩
    refine ⟨pend, ?_⟩
    refine rSUBw ?_
    refine CALLK_mono ?_ (rCALL (hc_ok (i := i) (j := j) hv hl hs (by omega) (by omega) (hb1 H4 hF) (by omega) (by omega)))
    rintro r H5 ⟨rfl, rfl⟩
    refine rADDw ?_
    exact ⟨rfl, rfl⟩
  · rintro r H1 ⟨h2, h3⟩
    have hsub : HSub H H1 := ((hsub_new _ _ _).trans (hsub_new _ _ _)).trans h3.sub
    obtain ⟨v', q1, q2⟩ := h2.pur (Hf := nw H H1) fun i hi => nw_above H H1 (by rw [hlen_new, hlen_new] at hi; omega)
    exact ⟨nw H H1, H, 2, v', nw_split hsub, q1, q2, rfl⟩

end Go.Proofs.Ytccioplhchmilaa.AL

set_option linter.unusedVariables false
set_option maxRecDepth 100000
namespace Go.Proofs.Ytccioplhchmilaa.AL
open Go Go.Proofs

/-! impl.FromHeights (slots: 0 h, 1 h, 4 out) -/
namespace impl_FromHeights
def lv : List (Nat × List Nat) := []
def start_vc (Q : AVal → Heap → Prop) (a0 : AVal) (H : Heap) : Prop :=
 LENK a0 fun x1 =>
 BINK .sub x1 (AVal.int .i64 1) fun x2 =>
 ACalls Try.prog 80 [x2] H fun x3 H4 =>
 NOTK x3 fun x5 =>
 SPL x5 (Q (AVal.tup [AVal.nilS, (AVal.bool false)]) H4) (ACalls Try.prog 81 [a0] H4 fun x6 H7 =>
 NOTK x6 fun x8 =>
 BRK x8 (Q (AVal.tup [AVal.nilS, (AVal.bool false)]) H7) (ACalls Try.prog 67 [a0] H7 fun x9 H10 =>
 ACalls Try.prog 40 [x9] H10 fun x11 H12 =>
 NOTK x11 fun x13 =>
 SPL x13 (Q (AVal.tup [AVal.nilS, (AVal.bool false)]) H12) (ACalls Try.prog 56 [x9] H12 fun x14 H15 =>
 ACalls Try.prog 82 [x14, a0] H15 fun x16 H17 =>
 BINK .neq x16 (AVal.int .i64 0) fun x18 =>
 BRK x18 (Q (AVal.tup [AVal.nilS, (AVal.bool false)]) H17) (Q (AVal.tup [x9, (AVal.bool true)]) H17))))
theorem start_eq (Q : AVal → Heap → Prop) (a0 : AVal) (H : Heap) : vs Try.prog lv 24 28 Try.f24.results.toList Q true 1000 [.sq (bodyOf Try.f24)] (entry [a0]) H = start_vc Q a0 H := by kernel_rfl
theorem start {Q : AVal → Heap → Prop} {a0 : AVal} {H : Heap} (h : start_vc Q a0 H) : ACalls Try.prog 24 [a0] H Q := acalls_vs (lv := lv) mixed Try.func24 rfl (by kernel_rfl) (by kernel_rfl) (start_eq Q a0 H ▸ h)
end impl_FromHeights

/-! impl.AreHeights (slots: 0 h, 1 h, 3 _, 4 ok) -/
namespace impl_AreHeights
def lv : List (Nat × List Nat) := []
def start_vc (Q : AVal → Heap → Prop) (a0 : AVal) (H : Heap) : Prop :=
 ACalls Try.prog 24 [a0] H fun x1 H2 =>
 EXTK x1 0 fun x3 =>
 EXTK x1 1 fun x4 =>
 Q x4 H2
theorem start_eq (Q : AVal → Heap → Prop) (a0 : AVal) (H : Heap) : vs Try.prog lv 25 11 Try.f25.results.toList Q true 1000 [.sq (bodyOf Try.f25)] (entry [a0]) H = start_vc Q a0 H := by kernel_rfl
theorem start {Q : AVal → Heap → Prop} {a0 : AVal} {H : Heap} (h : start_vc Q a0 H) : ACalls Try.prog 25 [a0] H Q := acalls_vs (lv := lv) mixed Try.func25 rfl (by kernel_rfl) (by kernel_rfl) (start_eq Q a0 H ▸ h)
end impl_AreHeights


def heightsB (t : List (List Int)) : Bool := decide (2 ≤ t.length ∧ t.length ≤ 7) && (isSquareB t && (goodB (fromHeightsF t) && decide (heightsF (fromHeightsF t) = t)))
/-- A table and whether it is there. -/
def TabOk (b : Bool) (t : List (List Int)) (r : AVal) : Prop := ∃ h, r = .tup [h, .bool b] ∧ IsTab h (bif b then t else [])
theorem tabOk_no {t : List (List Int)} : TabOk false t (.tup [.nilS, .bool false]) := ⟨_, rfl, .inl ⟨rfl, rfl⟩⟩
theorem fromHeightsOf_ok {t : List (List Int)} {v : AVal} (hv : IsTab v t) (hl : t.length ≤ 100000) {H : Heap} : ACalls Try.prog 24 [v] H fun r H' => TabOk (heightsB t) (fromHeightsF t) r ∧ H' = H := by
  apply impl_FromHeights.start
  unfold impl_FromHeights.start_vc
  repeat' (with_reducible first
 | refine rTT ?_
 | (refine ACalls.mono (isSquare_ok hv (by omega)) ?_; rintro r H' ⟨rfl, rfl⟩)
 | (refine ACalls.mono (isSide_ok) ?_; rintro r H' ⟨rfl, rfl⟩)
 | refine rRFL ?_
 | refine rLEN (by assumption) ?_
 | (refine rIXk (by assumption) (by assumption) ?_; intro p hp)
 | (refine rIX (by assumption) (by omega) (by omega) ?_; intro p a ha hp)
 | refine rLDi (by assumption) ?_
 | (refine rLD (by assumption) ?_; intro c hc)
 | refine rADD (by omega) ?_
 | refine rSUB (by omega) ?_
 | refine rLSS ?_
 | refine rLEQ ?_
 | refine rGTR ?_
 | refine rGEQ ?_
 | refine rEQL ?_
 | refine rNEQ ?_
 | refine rNOT ?_
 | (refine rBRK ?_ ?_ <;> intro hb)
 | (refine rBRKn ?_ ?_ <;> intro hb)
 | (refine rBRKnb ?_ ?_ <;> intro hb)
 | (refine rBRKb ?_ ?_ <;> intro hb)
 | (refine rSPL ?_ ?_ <;> intro hb)
 | (refine rSPLn ?_ ?_ <;> intro hb)
 | (refine rSPLnb ?_ ?_ <;> intro hb)
 | (refine rSPLb ?_ ?_ <;> intro hb)
 | (exfalso; omega))
  · have : heightsB t = false := by unfold heightsB; rw [decide_eq_false (by omega)]; rfl
    rw [this]; exact ⟨tabOk_no, rfl⟩
  · have : heightsB t = false := by simp [heightsB, hb]
    rw [this]; exact ⟨tabOk_no, rfl⟩
  · have hs := hb
    refine ACalls.mono (fromHeights_ok hv hl (by omega) hs) ?_
    rintro x9 H1 ⟨h9, rfl⟩
    have hl9 : (fromHeightsF t).length = t.length - 1 := by simp [fromHeightsF, tabT]
    refine ACalls.mono (isSign_ok h9 (by omega)) ?_
    rintro r H2 ⟨rfl, rfl⟩
    repeat' (with_reducible first
 | refine rTT ?_
 | refine rRFL ?_
 | refine rLEN (by assumption) ?_
 | (refine rIXk (by assumption) (by assumption) ?_; intro p hp)
 | (refine rIX (by assumption) (by omega) (by omega) ?_; intro p a ha hp)
 | refine rLDi (by assumption) ?_
 | (refine rLD (by assumption) ?_; intro c hc)
 | refine rADD (by omega) ?_
 | refine rSUB (by omega) ?_
 | refine rLSS ?_
 | refine rLEQ ?_
 | refine rGTR ?_
 | refine rGEQ ?_
 | refine rEQL ?_
 | refine rNEQ ?_
 | refine rNOT ?_
 | (refine rBRK ?_ ?_ <;> intro hb)
 | (refine rBRKn ?_ ?_ <;> intro hb)
 | (refine rBRKnb ?_ ?_ <;> intro hb)
 | (refine rBRKb ?_ ?_ <;> intro hb)
 | (refine rSPL ?_ ?_ <;> intro hb)
 | (refine rSPLn ?_ ?_ <;> intro hb)
 | (refine rSPLnb ?_ ?_ <;> intro hb)
 | (refine rSPLb ?_ ?_ <;> intro hb)
 | (exfalso; omega))
    · have : heightsB t = false := by simp [heightsB, hb]
      rw [this]; exact ⟨tabOk_no, rfl⟩
    · have hgood := hb
      have hs9 : isSquareB (fromHeightsF t) = true := by simp only [goodB, Bool.and_eq_true] at hgood; exact hgood.2.1
      refine ACalls.mono (heights_ok h9 (by omega) hs9) ?_
      rintro x14 H3 ⟨h14, rfl⟩
      have hl14 : (heightsF (fromHeightsF t)).length = (fromHeightsF t).length + 1 := by simp [heightsF, tabT]
      refine ACalls.mono (compareTables_ok h14 hv (by omega) ?_) ?_
      · intro x hx
        simp only [heightsF, tabT, List.mem_map] at hx
        obtain ⟨i, _, rfl⟩ := hx
        simp [tabRow]; omega
      · rintro r H4 ⟨rfl, rfl⟩
        repeat' (with_reducible first
 | refine rTT ?_
 | refine rRFL ?_
 | refine rLEN (by assumption) ?_
 | (refine rIXk (by assumption) (by assumption) ?_; intro p hp)
 | (refine rIX (by assumption) (by omega) (by omega) ?_; intro p a ha hp)
 | refine rLDi (by assumption) ?_
 | (refine rLD (by assumption) ?_; intro c hc)
 | refine rADD (by omega) ?_
 | refine rSUB (by omega) ?_
 | refine rLSS ?_
 | refine rLEQ ?_
 | refine rGTR ?_
 | refine rGEQ ?_
 | refine rEQL ?_
 | refine rNEQ ?_
 | refine rNOT ?_
 | (refine rBRK ?_ ?_ <;> intro hb)
 | (refine rBRKn ?_ ?_ <;> intro hb)
 | (refine rBRKnb ?_ ?_ <;> intro hb)
 | (refine rBRKb ?_ ?_ <;> intro hb)
 | (refine rSPL ?_ ?_ <;> intro hb)
 | (refine rSPLn ?_ ?_ <;> intro hb)
 | (refine rSPLnb ?_ ?_ <;> intro hb)
 | (refine rSPLb ?_ ?_ <;> intro hb)
 | (exfalso; omega))
        · have : heightsB t = false := by
            have hne : ¬ heightsF (fromHeightsF t) = t := fun e => hb (cmpT_eq.2 e)
            simp [heightsB, hne]
          rw [this]; exact ⟨tabOk_no, rfl⟩
        · have : heightsB t = true := by
            have he := cmpT_eq.1 (Decidable.not_not.1 hb)
            simp only [heightsB, hs, hgood, he, Bool.and_eq_true, decide_eq_true_eq, and_true]
            omega
          rw [this]; exact ⟨⟨_, rfl, h9⟩, rfl⟩
theorem areHeights_ok {t : List (List Int)} {v : AVal} (hv : IsTab v t) (hl : t.length ≤ 100000) {H : Heap} : ACalls Try.prog 25 [v] H fun r H' => r = .bool (heightsB t) ∧ H' = H := by
  apply impl_AreHeights.start
  unfold impl_AreHeights.start_vc
  refine ACalls.mono (fromHeightsOf_ok hv hl) ?_
  rintro r H1 ⟨⟨h, rfl, _⟩, rfl⟩
  exact ⟨_, rfl, _, rfl, rfl, rfl⟩

end Go.Proofs.Ytccioplhchmilaa.AL

set_option linter.unusedVariables false
set_option maxRecDepth 100000
namespace Go.Proofs.Ytccioplhchmilaa.AL
open Go Go.Proofs

/-! spec.heFrom (slots: 0 h, 1 h, 3 n, 4 corners, 5 i, 6 j) -/
namespace spec_heFrom
def lv : List (Nat × List Nat) := [(4, [0, 4, 13, 14]), (7, [0, 4, 5, 13, 14, 18, 19])]
noncomputable def K4 : List KF := [.lp (cB (cB (cR (cL (cR (cR (cR (bodyOf Try.f74)))))))), .bl 0, .sq (cR (cR (cR (cR (bodyOf Try.f74)))))]
def L4 (Q : AVal → Heap → Prop) (v0 v4 v13 v14 : AVal) (H : Heap) : Prop := At Try.prog 74 47 K4 Q (slotsOf [(0, v0), (4, v4), (13, v13), (14, v14)]) H
theorem L4_frz {Q : AVal → Heap → Prop} {v0 v4 v13 v14 w0 w4 w13 w14 : AVal} {H Hf Hk : Heap} {k : Nat} (hs : Split H Hf Hk) (hp : PurL Hf k [(0, v0, w0), (4, v4, w4), (13, v13, w13), (14, v14, w14)]) (h : L4 Q w0 w4 w13 w14 Hk) : L4 Q v0 v4 v13 v14 H := at_frz (ks := K4) hs hp h
noncomputable def K7 : List KF := [.lp (cB (cB (cR (cR (cB (cL (cR (cR (cB (cB (cR (cL (cR (cR (cR (bodyOf Try.f74)))))))))))))))), .bl 2, .bl 1, .sq (cR (cR (cR (cB (cB (cR (cL (cR (cR (cR (bodyOf Try.f74))))))))))), .lp (cB (cB (cR (cL (cR (cR (cR (bodyOf Try.f74)))))))), .bl 0, .sq (cR (cR (cR (cR (bodyOf Try.f74)))))]
def L7 (Q : AVal → Heap → Prop) (v0 v4 v5 v13 v14 v18 v19 : AVal) (H : Heap) : Prop := At Try.prog 74 47 K7 Q (slotsOf [(0, v0), (4, v4), (5, v5), (13, v13), (14, v14), (18, v18), (19, v19)]) H
theorem L7_frz {Q : AVal → Heap → Prop} {v0 v4 v5 v13 v14 v18 v19 w0 w4 w5 w13 w14 w18 w19 : AVal} {H Hf Hk : Heap} {k : Nat} (hs : Split H Hf Hk) (hp : PurL Hf k [(0, v0, w0), (4, v4, w4), (5, v5, w5), (13, v13, w13), (14, v14, w14), (18, v18, w18), (19, v19, w19)]) (h : L7 Q w0 w4 w5 w13 w14 w18 w19 Hk) : L7 Q v0 v4 v5 v13 v14 v18 v19 H := at_frz (ks := K7) hs hp h
def start_vc (Q : AVal → Heap → Prop) (a0 : AVal) (H : Heap) : Prop :=
 LENK a0 fun x1 =>
 BINK .sub x1 (AVal.int .i64 1) fun x2 =>
 ACalls Try.prog 123 [x2] H fun x3 H4 =>
 LENK x3 fun x5 =>
 spec_heFrom.L4 Q a0 x3 x5 (AVal.int .i64 0) H4
theorem start_eq (Q : AVal → Heap → Prop) (a0 : AVal) (H : Heap) : vs Try.prog lv 74 47 Try.f74.results.toList Q true 1000 [.sq (bodyOf Try.f74)] (entry [a0]) H = start_vc Q a0 H := by kernel_rfl
theorem start {Q : AVal → Heap → Prop} {a0 : AVal} {H : Heap} (h : start_vc Q a0 H) : ACalls Try.prog 74 [a0] H Q := acalls_vs (lv := lv) mixed Try.func74 rfl (by kernel_rfl) (by kernel_rfl) (start_eq Q a0 H ▸ h)
def step4_vc (Q : AVal → Heap → Prop) (v0 v4 v13 v14 : AVal) (H : Heap) : Prop :=
 BINK .lss v14 v13 fun x1 =>
 BRK x1 (LENK v4 fun x2 =>
 spec_heFrom.L7 Q v0 v4 v14 v13 v14 x2 (AVal.int .i64 0) H) (ACalls Try.prog 124 [v4] H fun x3 H4 =>
 Q x3 H4)
theorem step4_eq (Q : AVal → Heap → Prop) (v0 v4 v13 v14 : AVal) (H : Heap) : vs Try.prog lv 74 47 Try.f74.results.toList Q true 1000 (.sq (cB (cB (cR (cL (cR (cR (cR (bodyOf Try.f74)))))))) :: K4) (slotsOf [(0, v0), (4, v4), (13, v13), (14, v14)]) H = step4_vc Q v0 v4 v13 v14 H := by kernel_rfl
theorem step4 {Q : AVal → Heap → Prop} {v0 v4 v13 v14 : AVal} {H : Heap} (h : step4_vc Q v0 v4 v13 v14 H) : L4 Q v0 v4 v13 v14 H := at_lp_vs (lv := lv) (ks := K4.tail) mixed Try.func74 (step4_eq Q v0 v4 v13 v14 H ▸ h)
def step7_vc (Q : AVal → Heap → Prop) (v0 v4 v5 v13 v14 v18 v19 : AVal) (H : Heap) : Prop :=
 BINK .lss v19 v18 fun x1 =>
 BRK x1 (TT ∧ TT ∧ IXK 1 v4 v5 fun x2 =>
 TT ∧ TT ∧ LDK false 1 H x2 fun x3 =>
 BINK .add v5 v19 fun x4 =>
 BINK .add x4 (AVal.int .i64 2) fun x5 =>
 BINK .add v5 (AVal.int .i64 1) fun x6 =>
 TT ∧ IXK 1 v0 x6 fun x7 =>
 TT ∧ TT ∧ LDK false 1 H x7 fun x8 =>
 BINK .add v19 (AVal.int .i64 1) fun x9 =>
 TT ∧ IXK 1 x8 x9 fun x10 =>
 TT ∧ TT ∧ LDK false 1 H x10 fun x11 =>
 BINK .sub x5 x11 fun x12 =>
 BINK .quo x12 (AVal.int .i64 2) fun x13 =>
 TT ∧ IXK 1 x3 v19 fun x14 =>
 TT ∧ STK 1 H x14 x13 fun H15 =>
 BINK .add v19 (AVal.int .i64 1) fun x16 =>
 spec_heFrom.L7 Q v0 v4 v5 v13 v14 v18 x16 H15) (BINK .add v14 (AVal.int .i64 1) fun x17 =>
 spec_heFrom.L4 Q v0 v4 v13 x17 H)
theorem step7_eq (Q : AVal → Heap → Prop) (v0 v4 v5 v13 v14 v18 v19 : AVal) (H : Heap) : vs Try.prog lv 74 47 Try.f74.results.toList Q true 1000 (.sq (cB (cB (cR (cR (cB (cL (cR (cR (cB (cB (cR (cL (cR (cR (cR (bodyOf Try.f74)))))))))))))))) :: K7) (slotsOf [(0, v0), (4, v4), (5, v5), (13, v13), (14, v14), (18, v18), (19, v19)]) H = step7_vc Q v0 v4 v5 v13 v14 v18 v19 H := by kernel_rfl
theorem step7 {Q : AVal → Heap → Prop} {v0 v4 v5 v13 v14 v18 v19 : AVal} {H : Heap} (h : step7_vc Q v0 v4 v5 v13 v14 v18 v19 H) : L7 Q v0 v4 v5 v13 v14 v18 v19 H := at_lp_vs (lv := lv) (ks := K7.tail) mixed Try.func74 (step7_eq Q v0 v4 v5 v13 v14 v18 v19 H ▸ h)
end spec_heFrom


def heCorn (t : List (List Int)) (i j : Nat) : Int := hcAt t (i + 1) (j + 1)
section
variable {t : List (List Int)} {v : AVal} {H0 : Heap} {Q : AVal → Heap → Prop} {n : Nat}
theorem heFrom_in (hv : IsTab v t) (hl : t.length ≤ 100000) (hs : isSquareB t = true) (hn : t.length = n + 1) {i : Nat} (hi : i < n) {w13 w14 : AVal} {k g : Nat} {rows : List AVal} {ks : List Nat}
    (hq : ∀ (T : List (List Int)) (H : Heap), T.length = n → isSquareB T = true → (∀ x, x < i + 1 → T[x]? = some (tabRow n (heCorn t) x)) → OTab H0.length H k g rows ks T → Fresh H0 H →
      spec_heFrom.L7 Q v (.own k g 1 0 n) (I i) w13 w14 (I n) (I n) H) :
    ∀ (m j : Nat) (T : List (List Int)) (r : List Int) (H : Heap), j + m = n → T.length = n → isSquareB T = true → (∀ x, x < i → T[x]? = some (tabRow n (heCorn t) x)) → T[i]? = some r → r.take j = (tabRow n (heCorn t) i).take j →
      OTab H0.length H k g rows ks T → Fresh H0 H → spec_heFrom.L7 Q v (.own k g 1 0 n) (I i) w13 w14 (I n) (I j) H := by
  intro m
  induction m with
  | zero =>
    intro j T r H hj h1 h2 h3 h4 h5 ho hF
    have : j = n := by omega
    subst this
    have hr1 := sq_len h2 (List.mem_of_getElem? h4)
    rw [List.take_of_length_le (by omega), List.take_of_length_le (by simp [tabRow])] at h5
    exact hq T H h1 h2 (fun x hx => by
      by_cases hxi : x = i
      · subst hxi; rw [h4, h5]
      · exact h3 x (by omega)) ho hF
  | succ m ih =>
    intro j T r H hj h1 h2 h3 h4 h5 ho hF
    have hr1 := sq_len h2 (List.mem_of_getElem? h4)
    obtain ⟨kj, gj, g1, g2, g3, g4, g5⟩ := ho.get h4
    have hset1 : ∀ (r : List Int) w, (r.map I).set j (I w) = (r.set j w).map I := fun r w => by rw [List.map_set]
    have hT : i < T.length := by omega
    obtain ⟨hr, hhr⟩ := ex_get (l := t) (k := i + 1) (by omega)
    have hhl := sq_len hs (List.mem_of_getElem? hhr)
    obtain ⟨x, hx⟩ := ex_get (l := hr) (k := j + 1) (by omega)
    apply spec_heFrom.step7
    unfold spec_heFrom.step7_vc
    refine rLSS (rBRK (fun hb => ?_) (fun hb => absurd hb (by omega)))
    refine rTT (rTT (rIXo hi (rTT (rTT (rLDf ho.top g2 ?_)))))
    refine rADD (by omega) (rADD (by omega) (rADD (by omega) ?_))
    have ei : ((i : Int) + 1) = ((i + 1 : Nat) : Int) := by omega
    have ej : ((j : Int) + 1) = ((j + 1 : Nat) : Int) := by omega
    rw [ei]
    refine rTT (rIXk hv hhr fun p hp => rTT (rTT (rLD hp fun c hc => ?_)))
    refine rADD (by omega) ?_
    rw [ej]
    refine rTT (rIXk hc hx fun p2 hp2 => rTT (rTT (rLDi hp2 ?_)))
    refine rSUBw (rQUO (by decide) (half_in (w64_range _)) ?_)
    refine rTT (rIXo (by omega) (rTT (rSTp g3 (by simp; omega) rfl ?_)))
    refine rADD (by omega) ?_
    rw [hset1]
    have hval : (w64 ((i : Int) + j + 2 - x)).tdiv 2 = heCorn t i j := by
      have e : (((i + 1 + (j + 1) : Nat) : Int)) = (i : Int) + j + 2 := by omega
      simp only [heCorn, hcAt, e]
      simp [List.getD, hhr, hx]
    rw [hval]
    refine ih (j + 1) (T.set i (r.set j (heCorn t i j))) (r.set j (heCorn t i j)) _ (by omega) (by simpa using h1) (sq_set h2 h4 (by simp)) (fun y hy => by rw [List.getElem?_set_ne (by omega)]; exact h3 y hy) (List.getElem?_set_self hT) ?_ (ho.put h4 g1 g3 (by simp)) (hF.set g4 gj (ifrees_map _))
    have e1 : (r.set j (heCorn t i j))[j]? = some (heCorn t i j) := List.getElem?_set_self (by omega)
    have e2 : (tabRow n (heCorn t) i)[j]? = some (heCorn t i j) := by simp [tabRow, List.getElem?_range (show j < n by omega)]
    rw [take_some e1, take_some e2, List.take_set_of_le (Nat.le_refl _), h5]
theorem heFrom_out (hv : IsTab v t) (hl : t.length ≤ 100000) (hs : isSquareB t = true) (hn : t.length = n + 1) {k g : Nat} {rows : List AVal} {ks : List Nat} (hq : ∀ (H : Heap), OTab H0.length H k g rows ks (tabT n n (heCorn t)) → Fresh H0 H → ACalls Try.prog 124 [.own k g 1 0 n] H Q) :
    ∀ (m i : Nat) (T : List (List Int)) (H : Heap), i + m = n → T.length = n → isSquareB T = true → (∀ x, x < i → T[x]? = some (tabRow n (heCorn t) x)) → OTab H0.length H k g rows ks T → Fresh H0 H →
      spec_heFrom.L4 Q v (.own k g 1 0 n) (I n) (I i) H := by
  intro m
  induction m with
  | zero =>
    intro i T H hi h1 h2 h3 ho hF
    apply spec_heFrom.step4
    unfold spec_heFrom.step4_vc
    repeat' (with_reducible first
 | refine rTT ?_
 | refine rRFL ?_
 | refine rLEN (by assumption) ?_
 | (refine rIXk (by assumption) (by assumption) ?_; intro p hp)
 | (refine rIX (by assumption) (by omega) (by omega) ?_; intro p a ha hp)
 | refine rLDi (by assumption) ?_
 | (refine rLD (by assumption) ?_; intro c hc)
 | refine rADD (by omega) ?_
 | refine rSUB (by omega) ?_
 | refine rLSS ?_
 | refine rLEQ ?_
 | refine rGTR ?_
 | refine rGEQ ?_
 | refine rEQL ?_
 | refine rNEQ ?_
 | refine rNOT ?_
 | (refine rBRK ?_ ?_ <;> intro hb)
 | (refine rBRKn ?_ ?_ <;> intro hb)
 | (refine rBRKnb ?_ ?_ <;> intro hb)
 | (refine rBRKb ?_ ?_ <;> intro hb)
 | (refine rSPL ?_ ?_ <;> intro hb)
 | (refine rSPLn ?_ ?_ <;> intro hb)
 | (refine rSPLnb ?_ ?_ <;> intro hb)
 | (refine rSPLb ?_ ?_ <;> intro hb)
 | (exfalso; omega))
    have : T = tabT n n (heCorn t) := by
      refine List.ext_getElem? fun x => ?_
      by_cases hx : x < n
      · rw [h3 x (by omega)]
        simp [tabT, List.getElem?_range hx]
      · rw [List.getElem?_eq_none (by omega), List.getElem?_eq_none (by simp [tabT]; omega)]
    subst this
    exact hq H ho hF
  | succ m ih =>
    intro i T H hi h1 h2 h3 ho hF
    obtain ⟨r, hr⟩ := ex_get (l := T) (k := i) (by omega)
    apply spec_heFrom.step4
    unfold spec_heFrom.step4_vc
    repeat' (with_reducible first
 | refine rTT ?_
 | refine rRFL ?_
 | refine rLEN (by assumption) ?_
 | (refine rIXk (by assumption) (by assumption) ?_; intro p hp)
 | (refine rIX (by assumption) (by omega) (by omega) ?_; intro p a ha hp)
 | refine rLDi (by assumption) ?_
 | (refine rLD (by assumption) ?_; intro c hc)
 | refine rADD (by omega) ?_
 | refine rSUB (by omega) ?_
 | refine rLSS ?_
 | refine rLEQ ?_
 | refine rGTR ?_
 | refine rGEQ ?_
 | refine rEQL ?_
 | refine rNEQ ?_
 | refine rNOT ?_
 | (refine rBRK ?_ ?_ <;> intro hb)
 | (refine rBRKn ?_ ?_ <;> intro hb)
 | (refine rBRKnb ?_ ?_ <;> intro hb)
 | (refine rBRKb ?_ ?_ <;> intro hb)
 | (refine rSPL ?_ ?_ <;> intro hb)
 | (refine rSPLn ?_ ?_ <;> intro hb)
 | (refine rSPLnb ?_ ?_ <;> intro hb)
 | (refine rSPLb ?_ ?_ <;> intro hb)
 | (exfalso; omega))
    show spec_heFrom.L7 Q _ _ _ _ _ (I n) _ _
    refine heFrom_in hv hl hs hn (by omega) (fun T' H' q1 q2 q3 q4 q5 => ?_) n 0 T r H (by omega) h1 h2 h3 hr rfl ho hF
    apply spec_heFrom.step7
    unfold spec_heFrom.step7_vc
    repeat' (with_reducible first
 | refine rTT ?_
 | refine rRFL ?_
 | refine rLEN (by assumption) ?_
 | (refine rIXk (by assumption) (by assumption) ?_; intro p hp)
 | (refine rIX (by assumption) (by omega) (by omega) ?_; intro p a ha hp)
 | refine rLDi (by assumption) ?_
 | (refine rLD (by assumption) ?_; intro c hc)
 | refine rADD (by omega) ?_
 | refine rSUB (by omega) ?_
 | refine rLSS ?_
 | refine rLEQ ?_
 | refine rGTR ?_
 | refine rGEQ ?_
 | refine rEQL ?_
 | refine rNEQ ?_
 | refine rNOT ?_
 | (refine rBRK ?_ ?_ <;> intro hb)
 | (refine rBRKn ?_ ?_ <;> intro hb)
 | (refine rBRKnb ?_ ?_ <;> intro hb)
 | (refine rBRKb ?_ ?_ <;> intro hb)
 | (refine rSPL ?_ ?_ <;> intro hb)
 | (refine rSPLn ?_ ?_ <;> intro hb)
 | (refine rSPLnb ?_ ?_ <;> intro hb)
 | (refine rSPLb ?_ ?_ <;> intro hb)
 | (exfalso; omega))
    exact ih (i + 1) T' H' (by omega) q1 q2 q3 q4 q5
theorem heFrom_ok {H : Heap} (hv : IsTab v t) (hl : t.length ≤ 100000) (hs : isSquareB t = true) (hn : t.length = n + 1) (hn1 : 1 ≤ n) : ACalls Try.prog 74 [v] H fun r H' => IsTab r (fromT (tabT n n (heCorn t))) ∧ H' = H := by
  apply ACalls.pure
  apply spec_heFrom.start
  unfold spec_heFrom.start_vc
  repeat' (with_reducible first
 | refine rTT ?_
 | refine rRFL ?_
 | refine rLEN (by assumption) ?_
 | (refine rIXk (by assumption) (by assumption) ?_; intro p hp)
 | (refine rIX (by assumption) (by omega) (by omega) ?_; intro p a ha hp)
 | refine rLDi (by assumption) ?_
 | (refine rLD (by assumption) ?_; intro c hc)
 | refine rADD (by omega) ?_
 | refine rSUB (by omega) ?_
 | refine rLSS ?_
 | refine rLEQ ?_
 | refine rGTR ?_
 | refine rGEQ ?_
 | refine rEQL ?_
 | refine rNEQ ?_
 | refine rNOT ?_
 | (refine rBRK ?_ ?_ <;> intro hb)
 | (refine rBRKn ?_ ?_ <;> intro hb)
 | (refine rBRKnb ?_ ?_ <;> intro hb)
 | (refine rBRKb ?_ ?_ <;> intro hb)
 | (refine rSPL ?_ ?_ <;> intro hb)
 | (refine rSPLn ?_ ?_ <;> intro hb)
 | (refine rSPLnb ?_ ?_ <;> intro hb)
 | (refine rSPLb ?_ ?_ <;> intro hb)
 | (exfalso; omega))
  have e : ((t.length : Int) - 1) = (n : Int) := by omega
  rw [e]
  refine ACalls.mono (sgZero_ok (by omega)) ?_
  rintro r H1 ⟨h1, h2⟩
  have hz : (zeros n).length = n := by simp [zeros]
  rcases h1 with ⟨rfl, ht⟩ | ⟨k, g, rows, ks, rfl, ho⟩
  · rw [ht] at hz; simp at hz; omega
  · rw [hz]
    show spec_heFrom.L4 _ _ _ (I n) _ _
    refine heFrom_out hv hl hs hn (fun H' h3 h4 => ?_) n 0 (zeros n) H1 (by omega) hz (zeros_sq _) (fun x hx => by omega) ho h2
    have hlt : (tabT n n (heCorn t)).length = n := by simp [tabT]
    have hst : isSquareB (tabT n n (heCorn t)) = true := by
      simp only [isSquareB, List.all_eq_true, decide_eq_true_eq, hlt]
      intro r hr
      simp only [tabT, List.mem_map] at hr
      obtain ⟨i, _, rfl⟩ := hr
      simp [tabRow]
    refine ACalls.mono (sgFrom_own (h3.is hlt) (by omega) hst) ?_
    rintro r H2 ⟨h5, h6⟩
    have h7 := h4.trans h6
    obtain ⟨v', q1, q2⟩ := (h5.lo h4.len).pur (Hf := nw H H2) fun i hi => nw_above H H2 hi
    exact ⟨h7.sub, 2, v', q1, q2, rfl⟩
end

end Go.Proofs.Ytccioplhchmilaa.AL

set_option linter.unusedVariables false
set_option maxRecDepth 100000
namespace Go.Proofs.Ytccioplhchmilaa.AL
open Go Go.Proofs

/-! spec.heSame (slots: 0 a, 1 b, 2 a, 3 b, 5 i, 6 row) -/
namespace spec_heSame
def lv : List (Nat × List Nat) := [(4, [1, 12, 13, 14])]
noncomputable def K4 : List KF := [.lp (cB (cB (cR (cL (cR (cR (bodyOf Try.f97))))))), .bl 0, .sq (cR (cR (cR (bodyOf Try.f97))))]
def L4 (Q : AVal → Heap → Prop) (v1 v12 v13 v14 : AVal) (H : Heap) : Prop := At Try.prog 97 27 K4 Q (slotsOf [(1, v1), (12, v12), (13, v13), (14, v14)]) H
theorem L4_frz {Q : AVal → Heap → Prop} {v1 v12 v13 v14 w1 w12 w13 w14 : AVal} {H Hf Hk : Heap} {k : Nat} (hs : Split H Hf Hk) (hp : PurL Hf k [(1, v1, w1), (12, v12, w12), (13, v13, w13), (14, v14, w14)]) (h : L4 Q w1 w12 w13 w14 Hk) : L4 Q v1 v12 v13 v14 H := at_frz (ks := K4) hs hp h
def start_vc (Q : AVal → Heap → Prop) (a0 a1 : AVal) (H : Heap) : Prop :=
 LENK a0 fun x1 =>
 LENK a1 fun x2 =>
 BINK .neq x1 x2 fun x3 =>
 BRK x3 (Q (AVal.bool false) H) (LENK a0 fun x4 =>
 spec_heSame.L4 Q a1 a0 x4 (AVal.int .i64 0) H)
theorem start_eq (Q : AVal → Heap → Prop) (a0 a1 : AVal) (H : Heap) : vs Try.prog lv 97 27 Try.f97.results.toList Q true 1000 [.sq (bodyOf Try.f97)] (entry [a0, a1]) H = start_vc Q a0 a1 H := by kernel_rfl
theorem start {Q : AVal → Heap → Prop} {a0 a1 : AVal} {H : Heap} (h : start_vc Q a0 a1 H) : ACalls Try.prog 97 [a0, a1] H Q := acalls_vs (lv := lv) mixed Try.func97 rfl (by kernel_rfl) (by kernel_rfl) (start_eq Q a0 a1 H ▸ h)
def step4_vc (Q : AVal → Heap → Prop) (v1 v12 v13 v14 : AVal) (H : Heap) : Prop :=
 BINK .lss v14 v13 fun x1 =>
 BRK x1 (TT ∧ IXK 1 v12 v14 fun x2 =>
 TT ∧ TT ∧ LDK false 1 H x2 fun x3 =>
 TT ∧ IXK 1 v1 v14 fun x4 =>
 TT ∧ TT ∧ LDK false 1 H x4 fun x5 =>
 ACalls Try.prog 133 [x3, x5] H fun x6 H7 =>
 NOTK x6 fun x8 =>
 BRK x8 (Q (AVal.bool false) H7) (BINK .add v14 (AVal.int .i64 1) fun x9 =>
 spec_heSame.L4 Q v1 v12 v13 x9 H7)) (Q (AVal.bool true) H)
theorem step4_eq (Q : AVal → Heap → Prop) (v1 v12 v13 v14 : AVal) (H : Heap) : vs Try.prog lv 97 27 Try.f97.results.toList Q true 1000 (.sq (cB (cB (cR (cL (cR (cR (bodyOf Try.f97))))))) :: K4) (slotsOf [(1, v1), (12, v12), (13, v13), (14, v14)]) H = step4_vc Q v1 v12 v13 v14 H := by kernel_rfl
theorem step4 {Q : AVal → Heap → Prop} {v1 v12 v13 v14 : AVal} {H : Heap} (h : step4_vc Q v1 v12 v13 v14 H) : L4 Q v1 v12 v13 v14 H := at_lp_vs (lv := lv) (ks := K4.tail) mixed Try.func97 (step4_eq Q v1 v12 v13 v14 H ▸ h)
end spec_heSame

/-! spec.heGood (slots: 0 h, 1 h, 3 _, 4 row, 5 m) -/
namespace spec_heGood
def lv : List (Nat × List Nat) := [(4, [0, 10, 11, 12])]
noncomputable def K4 : List KF := [.lp (cB (cB (cR (cL (cR (cR (bodyOf Try.f84))))))), .bl 0, .sq (cR (cR (cR (bodyOf Try.f84))))]
def L4 (Q : AVal → Heap → Prop) (v0 v10 v11 v12 : AVal) (H : Heap) : Prop := At Try.prog 84 37 K4 Q (slotsOf [(0, v0), (10, v10), (11, v11), (12, v12)]) H
theorem L4_frz {Q : AVal → Heap → Prop} {v0 v10 v11 v12 w0 w10 w11 w12 : AVal} {H Hf Hk : Heap} {k : Nat} (hs : Split H Hf Hk) (hp : PurL Hf k [(0, v0, w0), (10, v10, w10), (11, v11, w11), (12, v12, w12)]) (h : L4 Q w0 w10 w11 w12 Hk) : L4 Q v0 v10 v11 v12 H := at_frz (ks := K4) hs hp h
def start_vc (Q : AVal → Heap → Prop) (a0 : AVal) (H : Heap) : Prop :=
 LENK a0 fun x1 =>
 ACalls Try.prog 54 [x1, (AVal.int .i64 2), (AVal.int .i64 7)] H fun x2 H3 =>
 NOTK x2 fun x4 =>
 BRK x4 (Q (AVal.bool false) H3) (LENK a0 fun x5 =>
 spec_heGood.L4 Q a0 a0 x5 (AVal.int .i64 0) H3)
theorem start_eq (Q : AVal → Heap → Prop) (a0 : AVal) (H : Heap) : vs Try.prog lv 84 37 Try.f84.results.toList Q true 1000 [.sq (bodyOf Try.f84)] (entry [a0]) H = start_vc Q a0 H := by kernel_rfl
theorem start {Q : AVal → Heap → Prop} {a0 : AVal} {H : Heap} (h : start_vc Q a0 H) : ACalls Try.prog 84 [a0] H Q := acalls_vs (lv := lv) mixed Try.func84 rfl (by kernel_rfl) (by kernel_rfl) (start_eq Q a0 H ▸ h)
def step4_vc (Q : AVal → Heap → Prop) (v0 v10 v11 v12 : AVal) (H : Heap) : Prop :=
 BINK .lss v12 v11 fun x1 =>
 BRK x1 (TT ∧ IXK 1 v10 v12 fun x2 =>
 TT ∧ TT ∧ LDK false 1 H x2 fun x3 =>
 LENK x3 fun x4 =>
 LENK v0 fun x5 =>
 BINK .neq x4 x5 fun x6 =>
 SPL x6 (Q (AVal.bool false) H) (ACalls Try.prog 116 [x3, (AVal.int .i64 0), (AVal.int .i64 6)] H fun x7 H8 =>
 NOTK x7 fun x9 =>
 BRK x9 (Q (AVal.bool false) H8) (BINK .add v12 (AVal.int .i64 1) fun x10 =>
 spec_heGood.L4 Q v0 v10 v11 x10 H8))) (ACalls Try.prog 74 [v0] H fun x11 H12 =>
 ACalls Try.prog 53 [x11] H12 fun x13 H14 =>
 SPL x13 (ACalls Try.prog 61 [x11] H14 fun x15 H16 =>
 ACalls Try.prog 97 [x15, v0] H16 fun x17 H18 =>
 Q x17 H18) (Q (AVal.bool false) H14))
theorem step4_eq (Q : AVal → Heap → Prop) (v0 v10 v11 v12 : AVal) (H : Heap) : vs Try.prog lv 84 37 Try.f84.results.toList Q true 1000 (.sq (cB (cB (cR (cL (cR (cR (bodyOf Try.f84))))))) :: K4) (slotsOf [(0, v0), (10, v10), (11, v11), (12, v12)]) H = step4_vc Q v0 v10 v11 v12 H := by kernel_rfl
theorem step4 {Q : AVal → Heap → Prop} {v0 v10 v11 v12 : AVal} {H : Heap} (h : step4_vc Q v0 v10 v11 v12 H) : L4 Q v0 v10 v11 v12 H := at_lp_vs (lv := lv) (ks := K4.tail) mixed Try.func84 (step4_eq Q v0 v10 v11 v12 H ▸ h)
end spec_heGood

/-! spec.FromHeights (slots: 0 h, 1 h) -/
namespace spec_FromHeights
def lv : List (Nat × List Nat) := []
def start_vc (Q : AVal → Heap → Prop) (a0 : AVal) (H : Heap) : Prop :=
 ACalls Try.prog 84 [a0] H fun x1 H2 =>
 NOTK x1 fun x3 =>
 BRK x3 (Q (AVal.tup [AVal.nilS, (AVal.bool false)]) H2) (ACalls Try.prog 74 [a0] H2 fun x4 H5 =>
 Q (AVal.tup [x4, (AVal.bool true)]) H5)
theorem start_eq (Q : AVal → Heap → Prop) (a0 : AVal) (H : Heap) : vs Try.prog lv 27 9 Try.f27.results.toList Q true 1000 [.sq (bodyOf Try.f27)] (entry [a0]) H = start_vc Q a0 H := by kernel_rfl
theorem start {Q : AVal → Heap → Prop} {a0 : AVal} {H : Heap} (h : start_vc Q a0 H) : ACalls Try.prog 27 [a0] H Q := acalls_vs (lv := lv) mixed Try.func27 rfl (by kernel_rfl) (by kernel_rfl) (start_eq Q a0 H ▸ h)
end spec_FromHeights

/-! spec.AreHeights (slots: 0 h, 1 h) -/
namespace spec_AreHeights
def lv : List (Nat × List Nat) := []
def start_vc (Q : AVal → Heap → Prop) (a0 : AVal) (H : Heap) : Prop :=
 ACalls Try.prog 84 [a0] H fun x1 H2 =>
 Q x1 H2
theorem start_eq (Q : AVal → Heap → Prop) (a0 : AVal) (H : Heap) : vs Try.prog lv 28 5 Try.f28.results.toList Q true 1000 [.sq (bodyOf Try.f28)] (entry [a0]) H = start_vc Q a0 H := by kernel_rfl
theorem start {Q : AVal → Heap → Prop} {a0 : AVal} {H : Heap} (h : start_vc Q a0 H) : ACalls Try.prog 28 [a0] H Q := acalls_vs (lv := lv) mixed Try.func28 rfl (by kernel_rfl) (by kernel_rfl) (start_eq Q a0 H ▸ h)
end spec_AreHeights


theorem heSame_loop {a b : List (List Int)} {v u : AVal} (hv : IsTab v a) (hu : IsTab u b) (hl : a.length ≤ 1000000) (hr : ∀ r ∈ a, r.length ≤ 1000000) (he : a.length = b.length) {H : Heap} {Q : AVal → Heap → Prop} : ∀ (n k : Nat), k + n = a.length → Q (.bool (decide (a.drop k = b.drop k))) H →
    spec_heSame.L4 Q u v (I a.length) (I k) H := by
  intro n
  induction n with
  | zero =>
    intro k hk hq
    apply spec_heSame.step4
    unfold spec_heSame.step4_vc
    repeat' (with_reducible first
 | refine rTT ?_
 | refine rRFL ?_
 | refine rLEN (by assumption) ?_
 | (refine rIXk (by assumption) (by assumption) ?_; intro p hp)
 | (refine rIX (by assumption) (by omega) (by omega) ?_; intro p a ha hp)
 | refine rLDi (by assumption) ?_
 | (refine rLD (by assumption) ?_; intro c hc)
 | refine rADD (by omega) ?_
 | refine rSUB (by omega) ?_
 | refine rLSS ?_
 | refine rLEQ ?_
 | refine rGTR ?_
 | refine rGEQ ?_
 | refine rEQL ?_
 | refine rNEQ ?_
 | refine rNOT ?_
 | (refine rBRK ?_ ?_ <;> intro hb)
 | (refine rBRKn ?_ ?_ <;> intro hb)
 | (refine rBRKnb ?_ ?_ <;> intro hb)
 | (refine rBRKb ?_ ?_ <;> intro hb)
 | (refine rSPL ?_ ?_ <;> intro hb)
 | (refine rSPLn ?_ ?_ <;> intro hb)
 | (refine rSPLnb ?_ ?_ <;> intro hb)
 | (refine rSPLb ?_ ?_ <;> intro hb)
 | (exfalso; omega))
    rw [List.drop_eq_nil_of_le (by omega), List.drop_eq_nil_of_le (by omega)] at hq
    exact hq
  | succ n ih =>
    intro k hk hq
    obtain ⟨a1, ha1⟩ := ex_get (l := a) (k := k) (by omega)
    obtain ⟨b1, hb1⟩ := ex_get (l := b) (k := k) (by omega)
    apply spec_heSame.step4
    unfold spec_heSame.step4_vc
    repeat' (with_reducible first
 | refine rTT ?_
 | refine rRFL ?_
 | refine rLEN (by assumption) ?_
 | (refine rIXk (by assumption) (by assumption) ?_; intro p hp)
 | (refine rIX (by assumption) (by omega) (by omega) ?_; intro p a ha hp)
 | refine rLDi (by assumption) ?_
 | (refine rLD (by assumption) ?_; intro c hc)
 | refine rADD (by omega) ?_
 | refine rSUB (by omega) ?_
 | refine rLSS ?_
 | refine rLEQ ?_
 | refine rGTR ?_
 | refine rGEQ ?_
 | refine rEQL ?_
 | refine rNEQ ?_
 | refine rNOT ?_
 | (refine rBRK ?_ ?_ <;> intro hb)
 | (refine rBRKn ?_ ?_ <;> intro hb)
 | (refine rBRKnb ?_ ?_ <;> intro hb)
 | (refine rBRKb ?_ ?_ <;> intro hb)
 | (refine rSPL ?_ ?_ <;> intro hb)
 | (refine rSPLn ?_ ?_ <;> intro hb)
 | (refine rSPLnb ?_ ?_ <;> intro hb)
 | (refine rSPLb ?_ ?_ <;> intro hb)
 | (exfalso; omega))
    rw [drop_some ha1, drop_some hb1] at hq
    refine ACalls.mono (l1Same_ok (by assumption) (by assumption) (hr _ (List.mem_of_getElem? ha1))) ?_
    rintro r H' ⟨rfl, rfl⟩
    repeat' (with_reducible first
 | refine rTT ?_
 | refine rRFL ?_
 | refine rLEN (by assumption) ?_
 | (refine rIXk (by assumption) (by assumption) ?_; intro p hp)
 | (refine rIX (by assumption) (by omega) (by omega) ?_; intro p a ha hp)
 | refine rLDi (by assumption) ?_
 | (refine rLD (by assumption) ?_; intro c hc)
 | refine rADD (by omega) ?_
 | refine rSUB (by omega) ?_
 | refine rLSS ?_
 | refine rLEQ ?_
 | refine rGTR ?_
 | refine rGEQ ?_
 | refine rEQL ?_
 | refine rNEQ ?_
 | refine rNOT ?_
 | (refine rBRK ?_ ?_ <;> intro hb)
 | (refine rBRKn ?_ ?_ <;> intro hb)
 | (refine rBRKnb ?_ ?_ <;> intro hb)
 | (refine rBRKb ?_ ?_ <;> intro hb)
 | (refine rSPL ?_ ?_ <;> intro hb)
 | (refine rSPLn ?_ ?_ <;> intro hb)
 | (refine rSPLnb ?_ ?_ <;> intro hb)
 | (refine rSPLb ?_ ?_ <;> intro hb)
 | (exfalso; omega))
    · rw [decide_eq_false (by simp; intro h; exact absurd h hb)] at hq
      exact hq
    · refine ih (k + 1) (by omega) ?_
      simpa [hb] using hq
theorem heSame_ok {a b : List (List Int)} {v u : AVal} (hv : IsTab v a) (hu : IsTab u b) (hl : a.length ≤ 1000000) (hr : ∀ r ∈ a, r.length ≤ 1000000) {H : Heap} : ACalls Try.prog 97 [v, u] H fun r H' => r = .bool (decide (a = b)) ∧ H' = H := by
  apply spec_heSame.start
  unfold spec_heSame.start_vc
  repeat' (with_reducible first
 | refine rTT ?_
 | refine rRFL ?_
 | refine rLEN (by assumption) ?_
 | (refine rIXk (by assumption) (by assumption) ?_; intro p hp)
 | (refine rIX (by assumption) (by omega) (by omega) ?_; intro p a ha hp)
 | refine rLDi (by assumption) ?_
 | (refine rLD (by assumption) ?_; intro c hc)
 | refine rADD (by omega) ?_
 | refine rSUB (by omega) ?_
 | refine rLSS ?_
 | refine rLEQ ?_
 | refine rGTR ?_
 | refine rGEQ ?_
 | refine rEQL ?_
 | refine rNEQ ?_
 | refine rNOT ?_
 | (refine rBRK ?_ ?_ <;> intro hb)
 | (refine rBRKn ?_ ?_ <;> intro hb)
 | (refine rBRKnb ?_ ?_ <;> intro hb)
 | (refine rBRKb ?_ ?_ <;> intro hb)
 | (refine rSPL ?_ ?_ <;> intro hb)
 | (refine rSPLn ?_ ?_ <;> intro hb)
 | (refine rSPLnb ?_ ?_ <;> intro hb)
 | (refine rSPLb ?_ ?_ <;> intro hb)
 | (exfalso; omega))
  · exact ⟨by rw [decide_eq_false (fun h => by rw [h] at hb; exact hb rfl)], rfl⟩
  · exact heSame_loop hv hu hl hr (by omega) a.length 0 (by omega) ⟨rfl, rfl⟩

/-- The matrix of heights, by the reference. -/
def heFromF (t : List (List Int)) : List (List Int) := fromT (tabT (t.length - 1) (t.length - 1) (heCorn t))
def heRest (t : List (List Int)) : Bool := goodB (heFromF t) && decide (heightsF (heFromF t) = t)
def heRowB (n : Nat) (r : List Int) : Bool := decide (r.length = n) && r.all fun x => decide (0 ≤ x ∧ x ≤ 6)
def heGoodB (t : List (List Int)) : Bool := decide (2 ≤ t.length ∧ t.length ≤ 7) && (t.all (heRowB t.length) && heRest t)
theorem heRest_ok {t : List (List Int)} {v : AVal} (hv : IsTab v t) (h2 : 2 ≤ t.length) (h7 : t.length ≤ 7) (hs : isSquareB t = true) {H : Heap} {Q : AVal → Heap → Prop} (hq : Q (.bool (heRest t)) H) :
    ACalls Try.prog 74 [v] H fun x11 H12 => ACalls Try.prog 53 [x11] H12 fun x13 H14 =>
      SPL x13 (ACalls Try.prog 61 [x11] H14 fun x15 H16 => ACalls Try.prog 97 [x15, v] H16 fun x17 H18 => Q x17 H18) (Q (AVal.bool false) H14) := by
  refine ACalls.mono (heFrom_ok (n := t.length - 1) hv (by omega) hs (by omega) (by omega)) ?_
  rintro x11 H1 ⟨h11, rfl⟩
  have hlen : (heFromF t).length = t.length - 1 := by simp [heFromF, fromT_len, tabT]
  have hsq : isSquareB (heFromF t) = true := fromT_sq _
  have h11 : IsTab x11 (heFromF t) := h11
  refine ACalls.mono (sgGood_ok h11 (by omega) (fun r hr => by rw [sq_len hsq hr]; omega)) ?_
  rintro r H2 ⟨rfl, rfl⟩
  unfold heRest at hq
  refine rSPLb (fun hb => ?_) (fun hb => ?_)
  · refine ACalls.mono (heOf_ok h11 (by omega) hsq) ?_
    rintro x15 H3 ⟨h15, rfl⟩
    rw [heights_eq (by omega)] at h15
    have hl15 : (heightsF (heFromF t)).length = (heFromF t).length + 1 := by simp [heightsF, tabT]
    refine ACalls.mono (heSame_ok h15 hv (by omega) ?_) ?_
    · intro x hx
      simp only [heightsF, tabT, List.mem_map] at hx
      obtain ⟨i, _, rfl⟩ := hx
      simp [tabRow]; omega
    · rintro r H4 ⟨rfl, rfl⟩
      rw [hb] at hq; exact hq
  · rw [hb] at hq; exact hq

end Go.Proofs.Ytccioplhchmilaa.AL

set_option linter.unusedVariables false
set_option maxRecDepth 100000
namespace Go.Proofs.Ytccioplhchmilaa.AL
open Go Go.Proofs

theorem rowB_sq {t : List (List Int)} (h : t.all (heRowB t.length) = true) : isSquareB t = true := by
  simp only [isSquareB, List.all_eq_true, decide_eq_true_eq, heRowB, Bool.and_eq_true] at h ⊢
  exact fun r hr => (h r hr).1
theorem heGood_loop {t : List (List Int)} {v : AVal} (hv : IsTab v t) (h2 : 2 ≤ t.length) (h7 : t.length ≤ 7) (hr : ∀ r ∈ t, r.length ≤ 1000000) {H : Heap} {Q : AVal → Heap → Prop} (hq : Q (.bool (t.all (heRowB t.length) && heRest t)) H) : ∀ (n k : Nat), k + n = t.length → t.all (heRowB t.length) = (t.drop k).all (heRowB t.length) →
    spec_heGood.L4 Q v v (I t.length) (I k) H := by
  intro n
  induction n with
  | zero =>
    intro k hk he
    apply spec_heGood.step4
    unfold spec_heGood.step4_vc
    repeat' (with_reducible first
 | refine rTT ?_
 | refine rRFL ?_
 | refine rLEN (by assumption) ?_
 | (refine rIXk (by assumption) (by assumption) ?_; intro p hp)
 | (refine rIX (by assumption) (by omega) (by omega) ?_; intro p a ha hp)
 | refine rLDi (by assumption) ?_
 | (refine rLD (by assumption) ?_; intro c hc)
 | refine rADD (by omega) ?_
 | refine rSUB (by omega) ?_
 | refine rLSS ?_
 | refine rLEQ ?_
 | refine rGTR ?_
 | refine rGEQ ?_
 | refine rEQL ?_
 | refine rNEQ ?_
 | refine rNOT ?_
 | (refine rBRK ?_ ?_ <;> intro hb)
 | (refine rBRKn ?_ ?_ <;> intro hb)
 | (refine rBRKnb ?_ ?_ <;> intro hb)
 | (refine rBRKb ?_ ?_ <;> intro hb)
 | (refine rSPL ?_ ?_ <;> intro hb)
 | (refine rSPLn ?_ ?_ <;> intro hb)
 | (refine rSPLnb ?_ ?_ <;> intro hb)
 | (refine rSPLb ?_ ?_ <;> intro hb)
 | (exfalso; omega))
    rw [List.drop_eq_nil_of_le (by omega)] at he
    have he' : t.all (heRowB t.length) = true := he
    rw [he', Bool.true_and] at hq
    exact heRest_ok hv h2 h7 (rowB_sq he') hq
  | succ n ih =>
    intro k hk he
    obtain ⟨a, ha⟩ := ex_get (l := t) (k := k) (by omega)
    rw [drop_some ha, List.all_cons] at he
    apply spec_heGood.step4
    unfold spec_heGood.step4_vc
    repeat' (with_reducible first
 | refine rTT ?_
 | refine rRFL ?_
 | refine rLEN (by assumption) ?_
 | (refine rIXk (by assumption) (by assumption) ?_; intro p hp)
 | (refine rIX (by assumption) (by omega) (by omega) ?_; intro p a ha hp)
 | refine rLDi (by assumption) ?_
 | (refine rLD (by assumption) ?_; intro c hc)
 | refine rADD (by omega) ?_
 | refine rSUB (by omega) ?_
 | refine rLSS ?_
 | refine rLEQ ?_
 | refine rGTR ?_
 | refine rGEQ ?_
 | refine rEQL ?_
 | refine rNEQ ?_
 | refine rNOT ?_
 | (refine rBRK ?_ ?_ <;> intro hb)
 | (refine rBRKn ?_ ?_ <;> intro hb)
 | (refine rBRKnb ?_ ?_ <;> intro hb)
 | (refine rBRKb ?_ ?_ <;> intro hb)
 | (refine rSPL ?_ ?_ <;> intro hb)
 | (refine rSPLn ?_ ?_ <;> intro hb)
 | (refine rSPLnb ?_ ?_ <;> intro hb)
 | (refine rSPLb ?_ ?_ <;> intro hb)
 | (exfalso; omega))
    · have : heRowB t.length a = false := by unfold heRowB; rw [decide_eq_false (by omega)]; rfl
      rw [he, this] at hq; exact hq
    · refine ACalls.mono (l1All_ok (by assumption) (hr a (List.mem_of_getElem? ha))) ?_
      rintro r H1 ⟨rfl, rfl⟩
      have hlen : decide (a.length = t.length) = true := decide_eq_true (by omega)
      repeat' (with_reducible first
 | refine rTT ?_
 | refine rRFL ?_
 | refine rLEN (by assumption) ?_
 | (refine rIXk (by assumption) (by assumption) ?_; intro p hp)
 | (refine rIX (by assumption) (by omega) (by omega) ?_; intro p a ha hp)
 | refine rLDi (by assumption) ?_
 | (refine rLD (by assumption) ?_; intro c hc)
 | refine rADD (by omega) ?_
 | refine rSUB (by omega) ?_
 | refine rLSS ?_
 | refine rLEQ ?_
 | refine rGTR ?_
 | refine rGEQ ?_
 | refine rEQL ?_
 | refine rNEQ ?_
 | refine rNOT ?_
 | (refine rBRK ?_ ?_ <;> intro hb)
 | (refine rBRKn ?_ ?_ <;> intro hb)
 | (refine rBRKnb ?_ ?_ <;> intro hb)
 | (refine rBRKb ?_ ?_ <;> intro hb)
 | (refine rSPL ?_ ?_ <;> intro hb)
 | (refine rSPLn ?_ ?_ <;> intro hb)
 | (refine rSPLnb ?_ ?_ <;> intro hb)
 | (refine rSPLb ?_ ?_ <;> intro hb)
 | (exfalso; omega))
      · have : heRowB t.length a = false := by unfold heRowB; rw [hlen, hb]; rfl
        rw [he, this] at hq; exact hq
      · have : heRowB t.length a = true := by unfold heRowB; rw [hlen, hb]; rfl
        rw [this, Bool.true_and] at he
        exact ih (k + 1) (by omega) he
theorem heGood_ok {t : List (List Int)} {v : AVal} (hv : IsTab v t) (hl : t.length ≤ 100000) (hr : ∀ r ∈ t, r.length ≤ 1000000) {H : Heap} : ACalls Try.prog 84 [v] H fun r H' => r = .bool (heGoodB t) ∧ H' = H := by
  apply spec_heGood.start
  unfold spec_heGood.start_vc
  repeat' (with_reducible first
 | refine rTT ?_
 | (refine ACalls.mono (l1In_ok) ?_; rintro r H' ⟨rfl, rfl⟩)
 | refine rRFL ?_
 | refine rLEN (by assumption) ?_
 | (refine rIXk (by assumption) (by assumption) ?_; intro p hp)
 | (refine rIX (by assumption) (by omega) (by omega) ?_; intro p a ha hp)
 | refine rLDi (by assumption) ?_
 | (refine rLD (by assumption) ?_; intro c hc)
 | refine rADD (by omega) ?_
 | refine rSUB (by omega) ?_
 | refine rLSS ?_
 | refine rLEQ ?_
 | refine rGTR ?_
 | refine rGEQ ?_
 | refine rEQL ?_
 | refine rNEQ ?_
 | refine rNOT ?_
 | (refine rBRK ?_ ?_ <;> intro hb)
 | (refine rBRKn ?_ ?_ <;> intro hb)
 | (refine rBRKnb ?_ ?_ <;> intro hb)
 | (refine rBRKb ?_ ?_ <;> intro hb)
 | (refine rSPL ?_ ?_ <;> intro hb)
 | (refine rSPLn ?_ ?_ <;> intro hb)
 | (refine rSPLnb ?_ ?_ <;> intro hb)
 | (refine rSPLb ?_ ?_ <;> intro hb)
 | (exfalso; omega))
  · exact ⟨by unfold heGoodB; rw [decide_eq_false (by omega)]; rfl, rfl⟩
  · exact heGood_loop hv (by omega) (by omega) hr ⟨by unfold heGoodB; rw [decide_eq_true (by omega)]; rfl, rfl⟩ t.length 0 (by omega) rfl
theorem specAreHeights_ok {t : List (List Int)} {v : AVal} (hv : IsTab v t) (hl : t.length ≤ 100000) (hr : ∀ r ∈ t, r.length ≤ 1000000) {H : Heap} : ACalls Try.prog 28 [v] H fun r H' => r = .bool (heGoodB t) ∧ H' = H := by
  apply spec_AreHeights.start
  unfold spec_AreHeights.start_vc
  exact heGood_ok hv hl hr
theorem specFromHeights_ok {t : List (List Int)} {v : AVal} (hv : IsTab v t) (hl : t.length ≤ 100000) (hr : ∀ r ∈ t, r.length ≤ 1000000) {H : Heap} : ACalls Try.prog 27 [v] H fun r H' => TabOk (heGoodB t) (heFromF t) r ∧ H' = H := by
  apply spec_FromHeights.start
  unfold spec_FromHeights.start_vc
  refine ACalls.mono (heGood_ok hv hl hr) ?_
  rintro r H1 ⟨rfl, rfl⟩
  repeat' (with_reducible first
 | refine rTT ?_
 | refine rRFL ?_
 | refine rLEN (by assumption) ?_
 | (refine rIXk (by assumption) (by assumption) ?_; intro p hp)
 | (refine rIX (by assumption) (by omega) (by omega) ?_; intro p a ha hp)
 | refine rLDi (by assumption) ?_
 | (refine rLD (by assumption) ?_; intro c hc)
 | refine rADD (by omega) ?_
 | refine rSUB (by omega) ?_
 | refine rLSS ?_
 | refine rLEQ ?_
 | refine rGTR ?_
 | refine rGEQ ?_
 | refine rEQL ?_
 | refine rNEQ ?_
 | refine rNOT ?_
 | (refine rBRK ?_ ?_ <;> intro hb)
 | (refine rBRKn ?_ ?_ <;> intro hb)
 | (refine rBRKnb ?_ ?_ <;> intro hb)
 | (refine rBRKb ?_ ?_ <;> intro hb)
 | (refine rSPL ?_ ?_ <;> intro hb)
 | (refine rSPLn ?_ ?_ <;> intro hb)
 | (refine rSPLnb ?_ ?_ <;> intro hb)
 | (refine rSPLb ?_ ?_ <;> intro hb)
 | (exfalso; omega))
  · rw [hb]; exact ⟨tabOk_no, rfl⟩
  · have h := hb
    simp only [heGoodB, Bool.and_eq_true, decide_eq_true_eq] at h
    refine ACalls.mono (heFrom_ok (n := t.length - 1) hv hl (rowB_sq h.2.1) (by omega) (by omega)) ?_
    rintro r H2 ⟨h1, rfl⟩
    rw [hb]
    exact ⟨⟨_, rfl, h1⟩, rfl⟩

end Go.Proofs.Ytccioplhchmilaa.AL

set_option linter.unusedVariables false
set_option maxRecDepth 100000
namespace Go.Proofs.Ytccioplhchmilaa.AL
open Go Go.Proofs

/-! impl.arePair (slots: 0 m, 1 k, 2 m, 3 k) -/
namespace impl_arePair
def lv : List (Nat × List Nat) := []
def start_vc (Q : AVal → Heap → Prop) (a0 a1 : AVal) (H : Heap) : Prop :=
 ACalls Try.prog 40 [a0] H fun x1 H2 =>
 SPL x1 (ACalls Try.prog 40 [a1] H2 fun x3 H4 =>
 SPL x3 (LENK a0 fun x5 =>
 LENK a1 fun x6 =>
 BINK .eql x5 x6 fun x7 =>
 Q x7 H4) (Q (AVal.bool false) H4)) (Q (AVal.bool false) H2)
theorem start_eq (Q : AVal → Heap → Prop) (a0 a1 : AVal) (H : Heap) : vs Try.prog lv 64 18 Try.f64.results.toList Q true 1000 [.sq (bodyOf Try.f64)] (entry [a0, a1]) H = start_vc Q a0 a1 H := by kernel_rfl
theorem start {Q : AVal → Heap → Prop} {a0 a1 : AVal} {H : Heap} (h : start_vc Q a0 a1 H) : ACalls Try.prog 64 [a0, a1] H Q := acalls_vs (lv := lv) mixed Try.func64 rfl (by kernel_rfl) (by kernel_rfl) (start_eq Q a0 a1 H ▸ h)
end impl_arePair

/-! impl.isBelow (slots: 0 m, 1 k, 2 m, 3 k, 5 a, 6 b, 7 i, 8 row, 9 j, 10 n) -/
namespace impl_isBelow
def lv : List (Nat × List Nat) := [(3, [6, 15, 16, 17]), (6, [6, 7, 15, 16, 17, 22, 23, 24])]
noncomputable def K3 : List KF := [.lp (cB (cB (cR (cL (cR (cR (bodyOf Try.f86))))))), .bl 0, .sq (cR (cR (cR (bodyOf Try.f86))))]
def L3 (Q : AVal → Heap → Prop) (v6 v15 v16 v17 : AVal) (H : Heap) : Prop := At Try.prog 86 40 K3 Q (slotsOf [(6, v6), (15, v15), (16, v16), (17, v17)]) H
theorem L3_frz {Q : AVal → Heap → Prop} {v6 v15 v16 v17 w6 w15 w16 w17 : AVal} {H Hf Hk : Heap} {k : Nat} (hs : Split H Hf Hk) (hp : PurL Hf k [(6, v6, w6), (15, v15, w15), (16, v16, w16), (17, v17, w17)]) (h : L3 Q w6 w15 w16 w17 Hk) : L3 Q v6 v15 v16 v17 H := at_frz (ks := K3) hs hp h
noncomputable def K6 : List KF := [.lp (cB (cB (cR (cR (cB (cL (cR (cR (cB (cB (cR (cL (cR (cR (bodyOf Try.f86))))))))))))))), .bl 2, .bl 1, .sq (cR (cR (cR (cB (cB (cR (cL (cR (cR (bodyOf Try.f86)))))))))), .lp (cB (cB (cR (cL (cR (cR (bodyOf Try.f86))))))), .bl 0, .sq (cR (cR (cR (bodyOf Try.f86))))]
def L6 (Q : AVal → Heap → Prop) (v6 v7 v15 v16 v17 v22 v23 v24 : AVal) (H : Heap) : Prop := At Try.prog 86 40 K6 Q (slotsOf [(6, v6), (7, v7), (15, v15), (16, v16), (17, v17), (22, v22), (23, v23), (24, v24)]) H
theorem L6_frz {Q : AVal → Heap → Prop} {v6 v7 v15 v16 v17 v22 v23 v24 w6 w7 w15 w16 w17 w22 w23 w24 : AVal} {H Hf Hk : Heap} {k : Nat} (hs : Split H Hf Hk) (hp : PurL Hf k [(6, v6, w6), (7, v7, w7), (15, v15, w15), (16, v16, w16), (17, v17, w17), (22, v22, w22), (23, v23, w23), (24, v24, w24)]) (h : L6 Q w6 w7 w15 w16 w17 w22 w23 w24 Hk) : L6 Q v6 v7 v15 v16 v17 v22 v23 v24 H := at_frz (ks := K6) hs hp h
def start_vc (Q : AVal → Heap → Prop) (a0 a1 : AVal) (H : Heap) : Prop :=
 ACalls Try.prog 56 [a0] H fun x1 H2 =>
 ACalls Try.prog 56 [a1] H2 fun x3 H4 =>
 LENK x1 fun x5 =>
 impl_isBelow.L3 Q x3 x1 x5 (AVal.int .i64 0) H4
theorem start_eq (Q : AVal → Heap → Prop) (a0 a1 : AVal) (H : Heap) : vs Try.prog lv 86 40 Try.f86.results.toList Q true 1000 [.sq (bodyOf Try.f86)] (entry [a0, a1]) H = start_vc Q a0 a1 H := by kernel_rfl
theorem start {Q : AVal → Heap → Prop} {a0 a1 : AVal} {H : Heap} (h : start_vc Q a0 a1 H) : ACalls Try.prog 86 [a0, a1] H Q := acalls_vs (lv := lv) mixed Try.func86 rfl (by kernel_rfl) (by kernel_rfl) (start_eq Q a0 a1 H ▸ h)
def step3_vc (Q : AVal → Heap → Prop) (v6 v15 v16 v17 : AVal) (H : Heap) : Prop :=
 BINK .lss v17 v16 fun x1 =>
 BRK x1 (TT ∧ IXK 1 v15 v17 fun x2 =>
 TT ∧ TT ∧ LDK false 1 H x2 fun x3 =>
 LENK x3 fun x4 =>
 impl_isBelow.L6 Q v6 v17 v15 v16 v17 x3 x4 (AVal.int .i64 0) H) (Q (AVal.bool true) H)
theorem step3_eq (Q : AVal → Heap → Prop) (v6 v15 v16 v17 : AVal) (H : Heap) : vs Try.prog lv 86 40 Try.f86.results.toList Q true 1000 (.sq (cB (cB (cR (cL (cR (cR (bodyOf Try.f86))))))) :: K3) (slotsOf [(6, v6), (15, v15), (16, v16), (17, v17)]) H = step3_vc Q v6 v15 v16 v17 H := by kernel_rfl
theorem step3 {Q : AVal → Heap → Prop} {v6 v15 v16 v17 : AVal} {H : Heap} (h : step3_vc Q v6 v15 v16 v17 H) : L3 Q v6 v15 v16 v17 H := at_lp_vs (lv := lv) (ks := K3.tail) mixed Try.func86 (step3_eq Q v6 v15 v16 v17 H ▸ h)
def step6_vc (Q : AVal → Heap → Prop) (v6 v7 v15 v16 v17 v22 v23 v24 : AVal) (H : Heap) : Prop :=
 BINK .lss v24 v23 fun x1 =>
 BRK x1 (TT ∧ IXK 1 v22 v24 fun x2 =>
 TT ∧ TT ∧ LDK false 1 H x2 fun x3 =>
 TT ∧ IXK 1 v6 v7 fun x4 =>
 TT ∧ TT ∧ LDK false 1 H x4 fun x5 =>
 TT ∧ IXK 1 x5 v24 fun x6 =>
 TT ∧ TT ∧ LDK false 1 H x6 fun x7 =>
 BINK .gtr x3 x7 fun x8 =>
 BRK x8 (Q (AVal.bool false) H) (BINK .add v24 (AVal.int .i64 1) fun x9 =>
 impl_isBelow.L6 Q v6 v7 v15 v16 v17 v22 v23 x9 H)) (BINK .add v17 (AVal.int .i64 1) fun x10 =>
 impl_isBelow.L3 Q v6 v15 v16 x10 H)
theorem step6_eq (Q : AVal → Heap → Prop) (v6 v7 v15 v16 v17 v22 v23 v24 : AVal) (H : Heap) : vs Try.prog lv 86 40 Try.f86.results.toList Q true 1000 (.sq (cB (cB (cR (cR (cB (cL (cR (cR (cB (cB (cR (cL (cR (cR (bodyOf Try.f86))))))))))))))) :: K6) (slotsOf [(6, v6), (7, v7), (15, v15), (16, v16), (17, v17), (22, v22), (23, v23), (24, v24)]) H = step6_vc Q v6 v7 v15 v16 v17 v22 v23 v24 H := by kernel_rfl
theorem step6 {Q : AVal → Heap → Prop} {v6 v7 v15 v16 v17 v22 v23 v24 : AVal} {H : Heap} (h : step6_vc Q v6 v7 v15 v16 v17 v22 v23 v24 H) : L6 Q v6 v7 v15 v16 v17 v22 v23 v24 H := at_lp_vs (lv := lv) (ks := K6.tail) mixed Try.func86 (step6_eq Q v6 v7 v15 v16 v17 v22 v23 v24 H ▸ h)
end impl_isBelow

/-! impl.IsBelow (slots: 0 m, 1 k, 2 m, 3 k) -/
namespace impl_IsBelow
def lv : List (Nat × List Nat) := []
def start_vc (Q : AVal → Heap → Prop) (a0 a1 : AVal) (H : Heap) : Prop :=
 ACalls Try.prog 64 [a0, a1] H fun x1 H2 =>
 NOTK x1 fun x3 =>
 BRK x3 (Q (AVal.tup [(AVal.bool false), (AVal.bool false)]) H2) (ACalls Try.prog 86 [a0, a1] H2 fun x4 H5 =>
 Q (AVal.tup [x4, (AVal.bool true)]) H5)
theorem start_eq (Q : AVal → Heap → Prop) (a0 a1 : AVal) (H : Heap) : vs Try.prog lv 30 13 Try.f30.results.toList Q true 1000 [.sq (bodyOf Try.f30)] (entry [a0, a1]) H = start_vc Q a0 a1 H := by kernel_rfl
theorem start {Q : AVal → Heap → Prop} {a0 a1 : AVal} {H : Heap} (h : start_vc Q a0 a1 H) : ACalls Try.prog 30 [a0, a1] H Q := acalls_vs (lv := lv) mixed Try.func30 rfl (by kernel_rfl) (by kernel_rfl) (start_eq Q a0 a1 H ▸ h)
end impl_IsBelow

/-! spec.hePair (slots: 0 m, 1 k, 2 m, 3 k) -/
namespace spec_hePair
def lv : List (Nat × List Nat) := []
def start_vc (Q : AVal → Heap → Prop) (a0 a1 : AVal) (H : Heap) : Prop :=
 ACalls Try.prog 53 [a0] H fun x1 H2 =>
 SPL x1 (ACalls Try.prog 53 [a1] H2 fun x3 H4 =>
 SPL x3 (LENK a0 fun x5 =>
 LENK a1 fun x6 =>
 BINK .eql x5 x6 fun x7 =>
 Q x7 H4) (Q (AVal.bool false) H4)) (Q (AVal.bool false) H2)
theorem start_eq (Q : AVal → Heap → Prop) (a0 a1 : AVal) (H : Heap) : vs Try.prog lv 87 18 Try.f87.results.toList Q true 1000 [.sq (bodyOf Try.f87)] (entry [a0, a1]) H = start_vc Q a0 a1 H := by kernel_rfl
theorem start {Q : AVal → Heap → Prop} {a0 a1 : AVal} {H : Heap} (h : start_vc Q a0 a1 H) : ACalls Try.prog 87 [a0, a1] H Q := acalls_vs (lv := lv) mixed Try.func87 rfl (by kernel_rfl) (by kernel_rfl) (start_eq Q a0 a1 H ▸ h)
end spec_hePair

/-! spec.heBelow (slots: 0 a, 1 b, 2 a, 3 b, 5 i, 6 row, 7 j, 8 x) -/
namespace spec_heBelow
def lv : List (Nat × List Nat) := [(2, [1, 9, 10, 11]), (5, [1, 5, 9, 10, 11, 16, 17, 18])]
noncomputable def K2 : List KF := [.lp (cB (cB (cR (cL (cR (bodyOf Try.f88)))))), .bl 0, .sq (cR (cR (bodyOf Try.f88)))]
def L2 (Q : AVal → Heap → Prop) (v1 v9 v10 v11 : AVal) (H : Heap) : Prop := At Try.prog 88 34 K2 Q (slotsOf [(1, v1), (9, v9), (10, v10), (11, v11)]) H
theorem L2_frz {Q : AVal → Heap → Prop} {v1 v9 v10 v11 w1 w9 w10 w11 : AVal} {H Hf Hk : Heap} {k : Nat} (hs : Split H Hf Hk) (hp : PurL Hf k [(1, v1, w1), (9, v9, w9), (10, v10, w10), (11, v11, w11)]) (h : L2 Q w1 w9 w10 w11 Hk) : L2 Q v1 v9 v10 v11 H := at_frz (ks := K2) hs hp h
noncomputable def K5 : List KF := [.lp (cB (cB (cR (cR (cB (cL (cR (cR (cB (cB (cR (cL (cR (bodyOf Try.f88)))))))))))))), .bl 2, .bl 1, .sq (cR (cR (cR (cB (cB (cR (cL (cR (bodyOf Try.f88))))))))), .lp (cB (cB (cR (cL (cR (bodyOf Try.f88)))))), .bl 0, .sq (cR (cR (bodyOf Try.f88)))]
def L5 (Q : AVal → Heap → Prop) (v1 v5 v9 v10 v11 v16 v17 v18 : AVal) (H : Heap) : Prop := At Try.prog 88 34 K5 Q (slotsOf [(1, v1), (5, v5), (9, v9), (10, v10), (11, v11), (16, v16), (17, v17), (18, v18)]) H
theorem L5_frz {Q : AVal → Heap → Prop} {v1 v5 v9 v10 v11 v16 v17 v18 w1 w5 w9 w10 w11 w16 w17 w18 : AVal} {H Hf Hk : Heap} {k : Nat} (hs : Split H Hf Hk) (hp : PurL Hf k [(1, v1, w1), (5, v5, w5), (9, v9, w9), (10, v10, w10), (11, v11, w11), (16, v16, w16), (17, v17, w17), (18, v18, w18)]) (h : L5 Q w1 w5 w9 w10 w11 w16 w17 w18 Hk) : L5 Q v1 v5 v9 v10 v11 v16 v17 v18 H := at_frz (ks := K5) hs hp h
def start_vc (Q : AVal → Heap → Prop) (a0 a1 : AVal) (H : Heap) : Prop :=
 LENK a0 fun x1 =>
 spec_heBelow.L2 Q a1 a0 x1 (AVal.int .i64 0) H
theorem start_eq (Q : AVal → Heap → Prop) (a0 a1 : AVal) (H : Heap) : vs Try.prog lv 88 34 Try.f88.results.toList Q true 1000 [.sq (bodyOf Try.f88)] (entry [a0, a1]) H = start_vc Q a0 a1 H := by kernel_rfl
theorem start {Q : AVal → Heap → Prop} {a0 a1 : AVal} {H : Heap} (h : start_vc Q a0 a1 H) : ACalls Try.prog 88 [a0, a1] H Q := acalls_vs (lv := lv) mixed Try.func88 rfl (by kernel_rfl) (by kernel_rfl) (start_eq Q a0 a1 H ▸ h)
def step2_vc (Q : AVal → Heap → Prop) (v1 v9 v10 v11 : AVal) (H : Heap) : Prop :=
 BINK .lss v11 v10 fun x1 =>
 BRK x1 (TT ∧ IXK 1 v9 v11 fun x2 =>
 TT ∧ TT ∧ LDK false 1 H x2 fun x3 =>
 LENK x3 fun x4 =>
 spec_heBelow.L5 Q v1 v11 v9 v10 v11 x3 x4 (AVal.int .i64 0) H) (Q (AVal.bool true) H)
theorem step2_eq (Q : AVal → Heap → Prop) (v1 v9 v10 v11 : AVal) (H : Heap) : vs Try.prog lv 88 34 Try.f88.results.toList Q true 1000 (.sq (cB (cB (cR (cL (cR (bodyOf Try.f88)))))) :: K2) (slotsOf [(1, v1), (9, v9), (10, v10), (11, v11)]) H = step2_vc Q v1 v9 v10 v11 H := by kernel_rfl
theorem step2 {Q : AVal → Heap → Prop} {v1 v9 v10 v11 : AVal} {H : Heap} (h : step2_vc Q v1 v9 v10 v11 H) : L2 Q v1 v9 v10 v11 H := at_lp_vs (lv := lv) (ks := K2.tail) mixed Try.func88 (step2_eq Q v1 v9 v10 v11 H ▸ h)
def step5_vc (Q : AVal → Heap → Prop) (v1 v5 v9 v10 v11 v16 v17 v18 : AVal) (H : Heap) : Prop :=
 BINK .lss v18 v17 fun x1 =>
 BRK x1 (TT ∧ IXK 1 v16 v18 fun x2 =>
 TT ∧ TT ∧ LDK false 1 H x2 fun x3 =>
 TT ∧ IXK 1 v1 v5 fun x4 =>
 TT ∧ TT ∧ LDK false 1 H x4 fun x5 =>
 TT ∧ IXK 1 x5 v18 fun x6 =>
 TT ∧ TT ∧ LDK false 1 H x6 fun x7 =>
 BINK .gtr x3 x7 fun x8 =>
 BRK x8 (Q (AVal.bool false) H) (BINK .add v18 (AVal.int .i64 1) fun x9 =>
 spec_heBelow.L5 Q v1 v5 v9 v10 v11 v16 v17 x9 H)) (BINK .add v11 (AVal.int .i64 1) fun x10 =>
 spec_heBelow.L2 Q v1 v9 v10 x10 H)
theorem step5_eq (Q : AVal → Heap → Prop) (v1 v5 v9 v10 v11 v16 v17 v18 : AVal) (H : Heap) : vs Try.prog lv 88 34 Try.f88.results.toList Q true 1000 (.sq (cB (cB (cR (cR (cB (cL (cR (cR (cB (cB (cR (cL (cR (bodyOf Try.f88)))))))))))))) :: K5) (slotsOf [(1, v1), (5, v5), (9, v9), (10, v10), (11, v11), (16, v16), (17, v17), (18, v18)]) H = step5_vc Q v1 v5 v9 v10 v11 v16 v17 v18 H := by kernel_rfl
theorem step5 {Q : AVal → Heap → Prop} {v1 v5 v9 v10 v11 v16 v17 v18 : AVal} {H : Heap} (h : step5_vc Q v1 v5 v9 v10 v11 v16 v17 v18 H) : L5 Q v1 v5 v9 v10 v11 v16 v17 v18 H := at_lp_vs (lv := lv) (ks := K5.tail) mixed Try.func88 (step5_eq Q v1 v5 v9 v10 v11 v16 v17 v18 H ▸ h)
end spec_heBelow

/-! spec.IsBelow (slots: 0 m, 1 k, 2 m, 3 k) -/
namespace spec_IsBelow
def lv : List (Nat × List Nat) := []
def start_vc (Q : AVal → Heap → Prop) (a0 a1 : AVal) (H : Heap) : Prop :=
 ACalls Try.prog 87 [a0, a1] H fun x1 H2 =>
 NOTK x1 fun x3 =>
 BRK x3 (Q (AVal.tup [(AVal.bool false), (AVal.bool false)]) H2) (ACalls Try.prog 61 [a0] H2 fun x4 H5 =>
 ACalls Try.prog 61 [a1] H5 fun x6 H7 =>
 ACalls Try.prog 88 [x4, x6] H7 fun x8 H9 =>
 Q (AVal.tup [x8, (AVal.bool true)]) H9)
theorem start_eq (Q : AVal → Heap → Prop) (a0 a1 : AVal) (H : Heap) : vs Try.prog lv 31 15 Try.f31.results.toList Q true 1000 [.sq (bodyOf Try.f31)] (entry [a0, a1]) H = start_vc Q a0 a1 H := by kernel_rfl
theorem start {Q : AVal → Heap → Prop} {a0 a1 : AVal} {H : Heap} (h : start_vc Q a0 a1 H) : ACalls Try.prog 31 [a0, a1] H Q := acalls_vs (lv := lv) mixed Try.func31 rfl (by kernel_rfl) (by kernel_rfl) (start_eq Q a0 a1 H ▸ h)
end spec_IsBelow


def rowBelow : List Int → List Int → Bool
  | x :: r, y :: s => decide (x ≤ y) && rowBelow r s
  | _, _ => true
def belowB : List (List Int) → List (List Int) → Bool
  | r :: a, s :: b => rowBelow r s && belowB a b
  | _, _ => true

theorem isBelow_in {a b : List (List Int)} {v u vr : AVal} {r s : List Int} {i : Nat} (hv : IsTab v a) (hu : IsTab u b) (hvr : IsInts vr r) (hs : b[i]? = some s) (hrs : r.length = s.length) (hl : r.length ≤ 1000000) (hal : a.length ≤ 1000000) (hi : i < a.length) {H : Heap} {Q : AVal → Heap → Prop}
    (hno : rowBelow r s = false → Q (.bool false) H) (hyes : rowBelow r s = true → impl_isBelow.L3 Q u v (I a.length) (I (i + 1 : Nat)) H) : ∀ (n k : Nat), k + n = r.length → rowBelow r s = rowBelow (r.drop k) (s.drop k) →
    impl_isBelow.L6 Q u (I i) v (I a.length) (I i) vr (I r.length) (I k) H := by
  intro n
  induction n with
  | zero =>
    intro k hk he
    apply impl_isBelow.step6
    unfold impl_isBelow.step6_vc
    repeat' (with_reducible first
 | refine rTT ?_
 | refine rRFL ?_
 | refine rLEN (by assumption) ?_
 | (refine rIXk (by assumption) (by assumption) ?_; intro p hp)
 | (refine rIX (by assumption) (by omega) (by omega) ?_; intro p a ha hp)
 | refine rLDi (by assumption) ?_
 | (refine rLD (by assumption) ?_; intro c hc)
 | refine rADD (by omega) ?_
 | refine rSUB (by omega) ?_
 | refine rLSS ?_
 | refine rLEQ ?_
 | refine rGTR ?_
 | refine rGEQ ?_
 | refine rEQL ?_
 | refine rNEQ ?_
 | refine rNOT ?_
 | (refine rBRK ?_ ?_ <;> intro hb)
 | (refine rBRKn ?_ ?_ <;> intro hb)
 | (refine rBRKnb ?_ ?_ <;> intro hb)
 | (refine rBRKb ?_ ?_ <;> intro hb)
 | (refine rSPL ?_ ?_ <;> intro hb)
 | (refine rSPLn ?_ ?_ <;> intro hb)
 | (refine rSPLnb ?_ ?_ <;> intro hb)
 | (refine rSPLb ?_ ?_ <;> intro hb)
 | (exfalso; omega))
    rw [List.drop_eq_nil_of_le (by omega)] at he
    exact hyes he
  | succ n ih =>
    intro k hk he
    obtain ⟨x, hx⟩ := ex_get (l := r) (k := k) (by omega)
    obtain ⟨y, hy⟩ := ex_get (l := s) (k := k) (by omega)
    rw [drop_some hx, drop_some hy, rowBelow] at he
    apply impl_isBelow.step6
    unfold impl_isBelow.step6_vc
    repeat' (with_reducible first
 | refine rTT ?_
 | refine rRFL ?_
 | refine rLEN (by assumption) ?_
 | (refine rIXk (by assumption) (by assumption) ?_; intro p hp)
 | (refine rIX (by assumption) (by omega) (by omega) ?_; intro p a ha hp)
 | refine rLDi (by assumption) ?_
 | (refine rLD (by assumption) ?_; intro c hc)
 | refine rADD (by omega) ?_
 | refine rSUB (by omega) ?_
 | refine rLSS ?_
 | refine rLEQ ?_
 | refine rGTR ?_
 | refine rGEQ ?_
 | refine rEQL ?_
 | refine rNEQ ?_
 | refine rNOT ?_
 | (refine rBRK ?_ ?_ <;> intro hb)
 | (refine rBRKn ?_ ?_ <;> intro hb)
 | (refine rBRKnb ?_ ?_ <;> intro hb)
 | (refine rBRKb ?_ ?_ <;> intro hb)
 | (refine rSPL ?_ ?_ <;> intro hb)
 | (refine rSPLn ?_ ?_ <;> intro hb)
 | (refine rSPLnb ?_ ?_ <;> intro hb)
 | (refine rSPLb ?_ ?_ <;> intro hb)
 | (exfalso; omega))
    · rw [decide_eq_false (by omega), Bool.false_and] at he
      exact hno he
    · rw [decide_eq_true (by omega), Bool.true_and] at he
      exact ih (k + 1) (by omega) he
theorem isBelow_out {a b : List (List Int)} {v u : AVal} (hv : IsTab v a) (hu : IsTab u b) (hal : a.length ≤ 1000000) (hab : a.length = b.length) (hrs : ∀ (i : Nat) (r s : List Int), a[i]? = some r → b[i]? = some s → r.length = s.length ∧ r.length ≤ 1000000) {H : Heap} {Q : AVal → Heap → Prop} : ∀ (n k : Nat), k + n = a.length → Q (.bool (belowB (a.drop k) (b.drop k))) H →
    impl_isBelow.L3 Q u v (I a.length) (I k) H := by
  intro n
  induction n with
  | zero =>
    intro k hk hq
    rw [List.drop_eq_nil_of_le (by omega)] at hq
    apply impl_isBelow.step3
    unfold impl_isBelow.step3_vc
    repeat' (with_reducible first
 | refine rTT ?_
 | refine rRFL ?_
 | refine rLEN (by assumption) ?_
 | (refine rIXk (by assumption) (by assumption) ?_; intro p hp)
 | (refine rIX (by assumption) (by omega) (by omega) ?_; intro p a ha hp)
 | refine rLDi (by assumption) ?_
 | (refine rLD (by assumption) ?_; intro c hc)
 | refine rADD (by omega) ?_
 | refine rSUB (by omega) ?_
 | refine rLSS ?_
 | refine rLEQ ?_
 | refine rGTR ?_
 | refine rGEQ ?_
 | refine rEQL ?_
 | refine rNEQ ?_
 | refine rNOT ?_
 | (refine rBRK ?_ ?_ <;> intro hb)
 | (refine rBRKn ?_ ?_ <;> intro hb)
 | (refine rBRKnb ?_ ?_ <;> intro hb)
 | (refine rBRKb ?_ ?_ <;> intro hb)
 | (refine rSPL ?_ ?_ <;> intro hb)
 | (refine rSPLn ?_ ?_ <;> intro hb)
 | (refine rSPLnb ?_ ?_ <;> intro hb)
 | (refine rSPLb ?_ ?_ <;> intro hb)
 | (exfalso; omega))
    exact hq
  | succ n ih =>
    intro k hk hq
    obtain ⟨r, hr⟩ := ex_get (l := a) (k := k) (by omega)
    obtain ⟨s, hs⟩ := ex_get (l := b) (k := k) (by omega)
    rw [drop_some hr, drop_some hs, belowB] at hq
    obtain ⟨e1, e2⟩ := hrs k r s hr hs
    apply impl_isBelow.step3
    unfold impl_isBelow.step3_vc
    repeat' (with_reducible first
 | refine rTT ?_
 | refine rRFL ?_
 | refine rLEN (by assumption) ?_
 | (refine rIXk (by assumption) (by assumption) ?_; intro p hp)
 | (refine rIX (by assumption) (by omega) (by omega) ?_; intro p a ha hp)
 | refine rLDi (by assumption) ?_
 | (refine rLD (by assumption) ?_; intro c hc)
 | refine rADD (by omega) ?_
 | refine rSUB (by omega) ?_
 | refine rLSS ?_
 | refine rLEQ ?_
 | refine rGTR ?_
 | refine rGEQ ?_
 | refine rEQL ?_
 | refine rNEQ ?_
 | refine rNOT ?_
 | (refine rBRK ?_ ?_ <;> intro hb)
 | (refine rBRKn ?_ ?_ <;> intro hb)
 | (refine rBRKnb ?_ ?_ <;> intro hb)
 | (refine rBRKb ?_ ?_ <;> intro hb)
 | (refine rSPL ?_ ?_ <;> intro hb)
 | (refine rSPLn ?_ ?_ <;> intro hb)
 | (refine rSPLnb ?_ ?_ <;> intro hb)
 | (refine rSPLb ?_ ?_ <;> intro hb)
 | (exfalso; omega))
    refine isBelow_in hv hu (by assumption) hs e1 e2 hal (by omega) (fun h => ?_) (fun h => ?_) r.length 0 (by omega) rfl
    · rw [h] at hq; exact hq
    · rw [h] at hq; exact ih (k + 1) (by omega) hq

theorem heBelow_in {a b : List (List Int)} {v u vr : AVal} {r s : List Int} {i : Nat} (hv : IsTab v a) (hu : IsTab u b) (hvr : IsInts vr r) (hs : b[i]? = some s) (hrs : r.length = s.length) (hl : r.length ≤ 1000000) (hal : a.length ≤ 1000000) (hi : i < a.length) {H : Heap} {Q : AVal → Heap → Prop}
    (hno : rowBelow r s = false → Q (.bool false) H) (hyes : rowBelow r s = true → spec_heBelow.L2 Q u v (I a.length) (I (i + 1 : Nat)) H) : ∀ (n k : Nat), k + n = r.length → rowBelow r s = rowBelow (r.drop k) (s.drop k) →
    spec_heBelow.L5 Q u (I i) v (I a.length) (I i) vr (I r.length) (I k) H := by
  intro n
  induction n with
  | zero =>
    intro k hk he
    apply spec_heBelow.step5
    unfold spec_heBelow.step5_vc
    repeat' (with_reducible first
 | refine rTT ?_
 | refine rRFL ?_
 | refine rLEN (by assumption) ?_
 | (refine rIXk (by assumption) (by assumption) ?_; intro p hp)
 | (refine rIX (by assumption) (by omega) (by omega) ?_; intro p a ha hp)
 | refine rLDi (by assumption) ?_
 | (refine rLD (by assumption) ?_; intro c hc)
 | refine rADD (by omega) ?_
 | refine rSUB (by omega) ?_
 | refine rLSS ?_
 | refine rLEQ ?_
 | refine rGTR ?_
 | refine rGEQ ?_
 | refine rEQL ?_
 | refine rNEQ ?_
 | refine rNOT ?_
 | (refine rBRK ?_ ?_ <;> intro hb)
 | (refine rBRKn ?_ ?_ <;> intro hb)
 | (refine rBRKnb ?_ ?_ <;> intro hb)
 | (refine rBRKb ?_ ?_ <;> intro hb)
 | (refine rSPL ?_ ?_ <;> intro hb)
 | (refine rSPLn ?_ ?_ <;> intro hb)
 | (refine rSPLnb ?_ ?_ <;> intro hb)
 | (refine rSPLb ?_ ?_ <;> intro hb)
 | (exfalso; omega))
    rw [List.drop_eq_nil_of_le (by omega)] at he
    exact hyes he
  | succ n ih =>
    intro k hk he
    obtain ⟨x, hx⟩ := ex_get (l := r) (k := k) (by omega)
    obtain ⟨y, hy⟩ := ex_get (l := s) (k := k) (by omega)
    rw [drop_some hx, drop_some hy, rowBelow] at he
    apply spec_heBelow.step5
    unfold spec_heBelow.step5_vc
    repeat' (with_reducible first
 | refine rTT ?_
 | refine rRFL ?_
 | refine rLEN (by assumption) ?_
 | (refine rIXk (by assumption) (by assumption) ?_; intro p hp)
 | (refine rIX (by assumption) (by omega) (by omega) ?_; intro p a ha hp)
 | refine rLDi (by assumption) ?_
 | (refine rLD (by assumption) ?_; intro c hc)
 | refine rADD (by omega) ?_
 | refine rSUB (by omega) ?_
 | refine rLSS ?_
 | refine rLEQ ?_
 | refine rGTR ?_
 | refine rGEQ ?_
 | refine rEQL ?_
 | refine rNEQ ?_
 | refine rNOT ?_
 | (refine rBRK ?_ ?_ <;> intro hb)
 | (refine rBRKn ?_ ?_ <;> intro hb)
 | (refine rBRKnb ?_ ?_ <;> intro hb)
 | (refine rBRKb ?_ ?_ <;> intro hb)
 | (refine rSPL ?_ ?_ <;> intro hb)
 | (refine rSPLn ?_ ?_ <;> intro hb)
 | (refine rSPLnb ?_ ?_ <;> intro hb)
 | (refine rSPLb ?_ ?_ <;> intro hb)
 | (exfalso; omega))
    · rw [decide_eq_false (by omega), Bool.false_and] at he
      exact hno he
    · rw [decide_eq_true (by omega), Bool.true_and] at he
      exact ih (k + 1) (by omega) he
theorem heBelow_out {a b : List (List Int)} {v u : AVal} (hv : IsTab v a) (hu : IsTab u b) (hal : a.length ≤ 1000000) (hab : a.length = b.length) (hrs : ∀ (i : Nat) (r s : List Int), a[i]? = some r → b[i]? = some s → r.length = s.length ∧ r.length ≤ 1000000) {H : Heap} {Q : AVal → Heap → Prop} : ∀ (n k : Nat), k + n = a.length → Q (.bool (belowB (a.drop k) (b.drop k))) H →
    spec_heBelow.L2 Q u v (I a.length) (I k) H := by
  intro n
  induction n with
  | zero =>
    intro k hk hq
    rw [List.drop_eq_nil_of_le (by omega)] at hq
    apply spec_heBelow.step2
    unfold spec_heBelow.step2_vc
    repeat' (with_reducible first
 | refine rTT ?_
 | refine rRFL ?_
 | refine rLEN (by assumption) ?_
 | (refine rIXk (by assumption) (by assumption) ?_; intro p hp)
 | (refine rIX (by assumption) (by omega) (by omega) ?_; intro p a ha hp)
 | refine rLDi (by assumption) ?_
 | (refine rLD (by assumption) ?_; intro c hc)
 | refine rADD (by omega) ?_
 | refine rSUB (by omega) ?_
 | refine rLSS ?_
 | refine rLEQ ?_
 | refine rGTR ?_
 | refine rGEQ ?_
 | refine rEQL ?_
 | refine rNEQ ?_
 | refine rNOT ?_
 | (refine rBRK ?_ ?_ <;> intro hb)
 | (refine rBRKn ?_ ?_ <;> intro hb)
 | (refine rBRKnb ?_ ?_ <;> intro hb)
 | (refine rBRKb ?_ ?_ <;> intro hb)
 | (refine rSPL ?_ ?_ <;> intro hb)
 | (refine rSPLn ?_ ?_ <;> intro hb)
 | (refine rSPLnb ?_ ?_ <;> intro hb)
 | (refine rSPLb ?_ ?_ <;> intro hb)
 | (exfalso; omega))
    exact hq
  | succ n ih =>
    intro k hk hq
    obtain ⟨r, hr⟩ := ex_get (l := a) (k := k) (by omega)
    obtain ⟨s, hs⟩ := ex_get (l := b) (k := k) (by omega)
    rw [drop_some hr, drop_some hs, belowB] at hq
    obtain ⟨e1, e2⟩ := hrs k r s hr hs
    apply spec_heBelow.step2
    unfold spec_heBelow.step2_vc
    repeat' (with_reducible first
 | refine rTT ?_
 | refine rRFL ?_
 | refine rLEN (by assumption) ?_
 | (refine rIXk (by assumption) (by assumption) ?_; intro p hp)
 | (refine rIX (by assumption) (by omega) (by omega) ?_; intro p a ha hp)
 | refine rLDi (by assumption) ?_
 | (refine rLD (by assumption) ?_; intro c hc)
 | refine rADD (by omega) ?_
 | refine rSUB (by omega) ?_
 | refine rLSS ?_
 | refine rLEQ ?_
 | refine rGTR ?_
 | refine rGEQ ?_
 | refine rEQL ?_
 | refine rNEQ ?_
 | refine rNOT ?_
 | (refine rBRK ?_ ?_ <;> intro hb)
 | (refine rBRKn ?_ ?_ <;> intro hb)
 | (refine rBRKnb ?_ ?_ <;> intro hb)
 | (refine rBRKb ?_ ?_ <;> intro hb)
 | (refine rSPL ?_ ?_ <;> intro hb)
 | (refine rSPLn ?_ ?_ <;> intro hb)
 | (refine rSPLnb ?_ ?_ <;> intro hb)
 | (refine rSPLb ?_ ?_ <;> intro hb)
 | (exfalso; omega))
    refine heBelow_in hv hu (by assumption) hs e1 e2 hal (by omega) (fun h => ?_) (fun h => ?_) r.length 0 (by omega) rfl
    · rw [h] at hq; exact hq
    · rw [h] at hq; exact ih (k + 1) (by omega) hq

end Go.Proofs.Ytccioplhchmilaa.AL

set_option linter.unusedVariables false
set_option maxRecDepth 100000
namespace Go.Proofs.Ytccioplhchmilaa.AL
open Go Go.Proofs

def pairB (a b : List (List Int)) : Bool := goodB a && (goodB b && decide (a.length = b.length))
def isBelowB (a b : List (List Int)) : Bool := belowB (heightsF a) (heightsF b)
section
variable {a b : List (List Int)} {v u : AVal} {H : Heap}
theorem arePair_ok (hv : IsTab v a) (hu : IsTab u b) (ha : a.length ≤ 100000) (hb' : b.length ≤ 100000) : ACalls Try.prog 64 [v, u] H fun r H' => r = .bool (pairB a b) ∧ H' = H := by
  apply impl_arePair.start
  unfold impl_arePair.start_vc
  refine ACalls.mono (isSign_ok hv (by omega)) ?_
  rintro r H1 ⟨rfl, rfl⟩
  refine rSPLb (fun h1 => ?_) (fun h1 => ⟨by rw [pairB, h1]; rfl, rfl⟩)
  refine ACalls.mono (isSign_ok hu (by omega)) ?_
  rintro r H2 ⟨rfl, rfl⟩
  refine rSPLb (fun h2 => ?_) (fun h2 => ⟨by rw [pairB, h1, h2]; rfl, rfl⟩)
  repeat' (with_reducible first
 | refine rTT ?_
 | refine rRFL ?_
 | refine rLEN (by assumption) ?_
 | (refine rIXk (by assumption) (by assumption) ?_; intro p hp)
 | (refine rIX (by assumption) (by omega) (by omega) ?_; intro p a ha hp)
 | refine rLDi (by assumption) ?_
 | (refine rLD (by assumption) ?_; intro c hc)
 | refine rADD (by omega) ?_
 | refine rSUB (by omega) ?_
 | refine rLSS ?_
 | refine rLEQ ?_
 | refine rGTR ?_
 | refine rGEQ ?_
 | refine rEQL ?_
 | refine rNEQ ?_
 | refine rNOT ?_
 | (refine rBRK ?_ ?_ <;> intro hb)
 | (refine rBRKn ?_ ?_ <;> intro hb)
 | (refine rBRKnb ?_ ?_ <;> intro hb)
 | (refine rBRKb ?_ ?_ <;> intro hb)
 | (refine rSPL ?_ ?_ <;> intro hb)
 | (refine rSPLn ?_ ?_ <;> intro hb)
 | (refine rSPLnb ?_ ?_ <;> intro hb)
 | (refine rSPLb ?_ ?_ <;> intro hb)
 | (exfalso; omega))
  refine ⟨?_, rfl⟩
  rw [pairB, h1, h2]
  congr 1
  simp only [Bool.true_and, decide_eq_decide]
  omega
theorem hePair_ok (hv : IsTab v a) (hu : IsTab u b) (ha : a.length ≤ 100000) (hb' : b.length ≤ 100000) (hra : ∀ r ∈ a, r.length ≤ 1000000) (hrb : ∀ r ∈ b, r.length ≤ 1000000) : ACalls Try.prog 87 [v, u] H fun r H' => r = .bool (pairB a b) ∧ H' = H := by
  apply spec_hePair.start
  unfold spec_hePair.start_vc
  refine ACalls.mono (sgGood_ok hv (by omega) hra) ?_
  rintro r H1 ⟨rfl, rfl⟩
  refine rSPLb (fun h1 => ?_) (fun h1 => ⟨by rw [pairB, h1]; rfl, rfl⟩)
  refine ACalls.mono (sgGood_ok hu (by omega) hrb) ?_
  rintro r H2 ⟨rfl, rfl⟩
  refine rSPLb (fun h2 => ?_) (fun h2 => ⟨by rw [pairB, h1, h2]; rfl, rfl⟩)
  repeat' (with_reducible first
 | refine rTT ?_
 | refine rRFL ?_
 | refine rLEN (by assumption) ?_
 | (refine rIXk (by assumption) (by assumption) ?_; intro p hp)
 | (refine rIX (by assumption) (by omega) (by omega) ?_; intro p a ha hp)
 | refine rLDi (by assumption) ?_
 | (refine rLD (by assumption) ?_; intro c hc)
 | refine rADD (by omega) ?_
 | refine rSUB (by omega) ?_
 | refine rLSS ?_
 | refine rLEQ ?_
 | refine rGTR ?_
 | refine rGEQ ?_
 | refine rEQL ?_
 | refine rNEQ ?_
 | refine rNOT ?_
 | (refine rBRK ?_ ?_ <;> intro hb)
 | (refine rBRKn ?_ ?_ <;> intro hb)
 | (refine rBRKnb ?_ ?_ <;> intro hb)
 | (refine rBRKb ?_ ?_ <;> intro hb)
 | (refine rSPL ?_ ?_ <;> intro hb)
 | (refine rSPLn ?_ ?_ <;> intro hb)
 | (refine rSPLnb ?_ ?_ <;> intro hb)
 | (refine rSPLb ?_ ?_ <;> intro hb)
 | (exfalso; omega))
  refine ⟨?_, rfl⟩
  rw [pairB, h1, h2]
  congr 1
  simp only [Bool.true_and, decide_eq_decide]
  omega
end

end Go.Proofs.Ytccioplhchmilaa.AL

set_option linter.unusedVariables false
set_option maxRecDepth 100000
namespace Go.Proofs.Ytccioplhchmilaa.AL
open Go Go.Proofs

def getM (t : List (List Int)) (i j : Nat) : Int := (t.getD i []).getD j 0
def psum (f : Nat → Int) : Nat → Int
  | 0 => 0
  | n + 1 => psum f n + f n
/-- the sum of the numbers in the first i rows and j columns -/
def Cn (t : List (List Int)) (i j : Nat) : Int := psum (fun i' => psum (fun j' => getM t i' j') j) i

theorem psum_succ (f : Nat → Int) (n : Nat) : psum f (n + 1) = psum f n + f n := rfl
theorem psum_congr {f g : Nat → Int} : ∀ {n : Nat}, (∀ i, i < n → f i = g i) → psum f n = psum g n
  | 0, _ => rfl
  | n + 1, h => by rw [psum, psum, psum_congr (fun i hi => h i (by omega)), h n (by omega)]
theorem psum_add (f g : Nat → Int) : ∀ n, psum (fun i => f i + g i) n = psum f n + psum g n
  | 0 => rfl
  | n + 1 => by rw [psum, psum, psum, psum_add f g n]; omega
theorem psum_zero : ∀ n, psum (fun _ => 0) n = 0
  | 0 => rfl
  | n + 1 => by rw [psum, psum_zero n]; rfl
theorem psum_le {f g : Nat → Int} : ∀ {n : Nat}, (∀ i, i < n → f i ≤ g i) → psum f n ≤ psum g n
  | 0, _ => Int.le_refl _
  | n + 1, h => by rw [psum, psum]; have := psum_le (n := n) (f := f) (g := g) (fun i hi => h i (by omega)); have := h n (by omega); omega
theorem psum_one : ∀ n, psum (fun _ => 1) n = n
  | 0 => rfl
  | n + 1 => by rw [psum, psum_one n]; omega

theorem Cn_row (t : List (List Int)) (i j : Nat) : Cn t (i + 1) j = Cn t i j + psum (getM t i) j := rfl
theorem Cn_col (t : List (List Int)) (i j : Nat) : Cn t i (j + 1) = Cn t i j + psum (fun i' => getM t i' j) i := by
  unfold Cn
  have : (fun i' => psum (fun j' => getM t i' j') (j + 1)) = fun i' => psum (fun j' => getM t i' j') j + getM t i' j := rfl
  rw [this, psum_add]
theorem Cn_0l (t : List (List Int)) (j : Nat) : Cn t 0 j = 0 := rfl
theorem Cn_0r (t : List (List Int)) (i : Nat) : Cn t i 0 = 0 := psum_zero i

/-- the sums of the first numbers of a list -/
def lsum (l : List Int) (k : Nat) : Int := psum (fun j => l.getD j 0) k

theorem getM_eq {a b : List (List Int)} {n : Nat} (ha : a.length = n) (hb : b.length = n) (hsa : ∀ r ∈ a, r.length = n) (hsb : ∀ r ∈ b, r.length = n) (h : ∀ i j, i < n → j < n → getM a i j = getM b i j) : a = b := by
  refine List.ext_getElem (by omega) fun i hi hi' => ?_
  refine List.ext_getElem (by rw [hsa _ (List.getElem_mem hi), hsb _ (List.getElem_mem hi')]) fun j hj hj' => ?_
  have hj2 := hj
  rw [hsa _ (List.getElem_mem hi)] at hj2
  have := h i j (by omega) hj2
  simpa [getM, List.getD, hi, hi', hj, hj'] using this

/-! ### Sign matrices -/
theorem lsum_cons (x : Int) (l : List Int) (k : Nat) : lsum (x :: l) (k + 1) = x + lsum l k := by
  unfold lsum
  induction k with
  | zero => simp [psum]
  | succ k ih =>
    rw [psum_succ, ih, psum_succ]
    simp
    omega
theorem lsum_0 (l : List Int) : lsum l 0 = 0 := rfl
theorem altG_iff : ∀ {l : List Int} {s : Int}, 0 ≤ s → s ≤ 1 → (alternateG l s = true ↔ (∀ k, k ≤ l.length → 0 ≤ s + lsum l k ∧ s + lsum l k ≤ 1) ∧ s + lsum l l.length = 1)
  | [], s, h0, h1 => by
    simp only [alternateG, decide_eq_true_eq, List.length_nil, lsum_0]
    constructor
    · intro h
      refine ⟨fun k hk => ?_, by omega⟩
      have : k = 0 := by omega
      subst this
      rw [lsum_0]; omega
    · intro h; omega
  | x :: l, s, h0, h1 => by
    simp only [alternateG, Bool.and_eq_true, decide_eq_true_eq, List.length_cons, lsum_cons]
    constructor
    · rintro ⟨⟨hx, hs⟩, hr⟩
      rw [w64_in (by omega)] at hs hr
      obtain ⟨g1, g2⟩ := (altG_iff hs.1 hs.2).1 hr
      refine ⟨fun k hk => ?_, by omega⟩
      cases k with
      | zero => rw [lsum_0]; omega
      | succ k => rw [lsum_cons]; have := g1 k (by omega); omega
    · rintro ⟨g1, g2⟩
      have e1 := g1 1 (by omega)
      rw [lsum_cons, lsum_0] at e1
      have hw : w64 (s + x) = s + x := w64_in (by omega)
      rw [hw]
      refine ⟨⟨by omega, by omega⟩, (altG_iff (by omega) (by omega)).2 ⟨fun k hk => ?_, by omega⟩⟩
      have := g1 (k + 1) (by omega)
      rw [lsum_cons] at this
      omega
theorem alt_iff {l : List Int} : alternateB l = true ↔ (∀ k, k ≤ l.length → 0 ≤ lsum l k ∧ lsum l k ≤ 1) ∧ lsum l l.length = 1 := by
  unfold alternateB
  rw [altG_iff (Int.le_refl 0) (by omega)]
  simp only [Int.zero_add]

/-- Sign matrices, by places. -/
structure Good (n : Nat) (t : List (List Int)) : Prop where
  len : t.length = n
  n1 : 1 ≤ n
  n6 : n ≤ 6
  sq : ∀ r ∈ t, r.length = n
  row : ∀ i j, i < n → j ≤ n → 0 ≤ psum (getM t i) j ∧ psum (getM t i) j ≤ 1
  rowt : ∀ i, i < n → psum (getM t i) n = 1
  col : ∀ i j, i ≤ n → j < n → 0 ≤ psum (fun i => getM t i j) i ∧ psum (fun i => getM t i j) i ≤ 1
  colt : ∀ j, j < n → psum (fun i => getM t i j) n = 1
theorem lsum_col (t : List (List Int)) (j k : Nat) : lsum (col t j) k = psum (fun i => getM t i j) k := by
  unfold lsum
  refine psum_congr fun i _ => ?_
  unfold getM col
  cases h : t[i]? with
  | none => simp [List.getD, h]
  | some r => simp [List.getD, h]
theorem getD_mem {α : Type} {t : List α} {i : Nat} (h : i < t.length) (d : α) : t.getD i d ∈ t := by
  rw [List.getD_eq_getElem?_getD, List.getElem?_eq_getElem h]; exact List.getElem_mem h
theorem goodB_iff {t : List (List Int)} : goodB t = true ↔ Good t.length t := by
  unfold goodB isSquareB
  simp only [Bool.and_eq_true, decide_eq_true_eq, List.all_eq_true, List.mem_range, chk, alt_iff]
  constructor
  · rintro ⟨⟨h1, h6⟩, hs, hc⟩
    refine ⟨rfl, h1, h6, hs, ?_, ?_, ?_, ?_⟩
    · intro i j hi hj
      have hl : (t.getD i []).length = t.length := hs _ (getD_mem hi _)
      exact (hc i hi).1.1 j (by rw [hl]; exact hj)
    · intro i hi
      have hl : (t.getD i []).length = t.length := hs _ (getD_mem hi _)
      have := (hc i hi).1.2
      rw [hl] at this; exact this
    · intro i j hi hj
      have := (hc j hj).2.1 i (by simp [col]; exact hi)
      rw [lsum_col] at this; exact this
    · intro j hj
      have := (hc j hj).2.2
      rw [lsum_col] at this
      simpa [col] using this
  · intro h
    refine ⟨⟨h.n1, h.n6⟩, h.sq, fun i hi => ?_⟩
    have hl : (t.getD i []).length = t.length := h.sq _ (getD_mem hi _)
    refine ⟨⟨fun k hk => h.row i k hi (by rw [hl] at hk; exact hk), by rw [hl]; exact h.rowt i hi⟩, fun k hk => ?_, ?_⟩
    · rw [lsum_col]; exact h.col k i (by simpa [col] using hk) hi
    · rw [lsum_col]; simpa [col] using h.colt i hi

/-- Corner sums, by places. -/
structure CT (n : Nat) (C : Nat → Nat → Int) : Prop where
  l0 : ∀ j, j ≤ n → C 0 j = 0
  r0 : ∀ i, i ≤ n → C i 0 = 0
  ln : ∀ j, j ≤ n → C n j = j
  rn : ∀ i, i ≤ n → C i n = i
  dn : ∀ i j, i < n → j ≤ n → C i j ≤ C (i + 1) j ∧ C (i + 1) j ≤ C i j + 1
  rt : ∀ i j, i ≤ n → j < n → C i j ≤ C i (j + 1) ∧ C i (j + 1) ≤ C i j + 1
theorem Good.ct {n : Nat} {t : List (List Int)} (h : Good n t) : CT n (Cn t) := by
  refine ⟨fun j _ => rfl, fun i _ => Cn_0r t i, ?_, ?_, ?_, ?_⟩
  · intro j
    induction j with
    | zero => intro _; exact Cn_0r t n
    | succ j ih => intro hj; rw [Cn_col, ih (by omega), h.colt j (by omega)]; omega
  · intro i
    induction i with
    | zero => intro _; rfl
    | succ i ih => intro hi; rw [Cn_row, ih (by omega), h.rowt i (by omega)]; omega
  · intro i j hi hj; rw [Cn_row]; have := h.row i j hi hj; constructor <;> omega
  · intro i j hi hj; rw [Cn_col]; have := h.col i j hi hj; constructor <;> omega
theorem getM_Cn (t : List (List Int)) (i j : Nat) : getM t i j = Cn t (i + 1) (j + 1) - Cn t i (j + 1) - Cn t (i + 1) j + Cn t i j := by
  rw [Cn_row t i (j + 1), Cn_row t i j, psum_succ]; omega
theorem CT.le_min {n : Nat} {C : Nat → Nat → Int} (h : CT n C) : ∀ {i j : Nat}, i ≤ n → j ≤ n → 0 ≤ C i j ∧ C i j ≤ i ∧ C i j ≤ j := by
  intro i
  induction i with
  | zero => intro j _ hj; rw [h.l0 j hj]; omega
  | succ i ih =>
    intro j hi hj
    have h1 := ih (j := j) (by omega) hj
    have h2 := h.dn i j (by omega) hj
    refine ⟨by omega, by omega, ?_⟩
    clear ih h1 h2
    induction j with
    | zero => rw [h.r0 _ (by omega)]; omega
    | succ j ihj => have h3 := ihj (by omega); have := h.rt (i + 1) j (by omega) (by omega); omega
theorem CT.ge {n : Nat} {C : Nat → Nat → Int} (h : CT n C) {i : Nat} (hi : i ≤ n) : ∀ {d j : Nat}, j + d = n → (i : Int) + j - n ≤ C i j := by
  intro d
  induction d with
  | zero => intro j hj; have : j = n := by omega
            subst this; rw [h.rn i hi]; omega
  | succ d ih => intro j hj; have := ih (j := j + 1) (by omega); have := h.rt i j hi (by omega); omega

/-- A table of places. -/
theorem tabT_len (r c : Nat) (F : Nat → Nat → Int) : (tabT r c F).length = r := by simp [tabT]
theorem tabT_get {r c : Nat} {F : Nat → Nat → Int} {i j : Nat} (hi : i < r) (hj : j < c) : getM (tabT r c F) i j = F i j := by
  simp [getM, tabT, tabRow, List.getD, List.getElem?_range hi, List.getElem?_range hj]
theorem tabT_sq {r c : Nat} {F : Nat → Nat → Int} : ∀ x ∈ tabT r c F, x.length = c := by
  intro x hx
  simp only [tabT, List.mem_map] at hx
  obtain ⟨i, _, rfl⟩ := hx
  simp [tabRow]
theorem tabT_congr {r c : Nat} {F G : Nat → Nat → Int} (h : ∀ i j, i < r → j < c → F i j = G i j) : tabT r c F = tabT r c G := by
  unfold tabT
  refine List.map_congr_left fun i hi => ?_
  unfold tabRow
  refine List.map_congr_left fun j hj => ?_
  rw [List.mem_range] at hi hj
  exact h i j hi hj
theorem tab_eq {n c : Nat} {t : List (List Int)} (hl : t.length = n) (hs : ∀ r ∈ t, r.length = c) : t = tabT n c (getM t) := by
  refine List.ext_getElem (by rw [tabT_len]; exact hl) fun i hi hi' => ?_
  have hil : i < n := by omega
  have hrow : (tabT n c (getM t))[i] = tabRow c (getM t) i := by simp [tabT]
  rw [hrow]
  refine List.ext_getElem (by simp [tabRow, hs _ (List.getElem_mem hi)]) fun j hj hj' => ?_
  simp [tabRow, getM, List.getD, hi, hj]
/-- The matrix with corner sums. -/
def diff (C : Nat → Nat → Int) (i j : Nat) : Int := C (i + 1) (j + 1) - C i (j + 1) - C (i + 1) j + C i j
def ofC (n : Nat) (C : Nat → Nat → Int) : List (List Int) := tabT n n (diff C)
theorem ofC_row {n : Nat} {C : Nat → Nat → Int} (h0 : ∀ i, i ≤ n → C i 0 = 0) {i : Nat} (hi : i < n) : ∀ {j : Nat}, j ≤ n → psum (getM (ofC n C) i) j = C (i + 1) j - C i j
  | 0, _ => by rw [h0 (i + 1) (by omega), h0 i (by omega)]; rfl
  | j + 1, hj => by
    rw [psum_succ, ofC_row h0 hi (by omega)]
    unfold ofC
    rw [tabT_get hi (by omega)]
    unfold diff; omega
theorem ofC_col {n : Nat} {C : Nat → Nat → Int} (h0 : ∀ j, j ≤ n → C 0 j = 0) {j : Nat} (hj : j < n) : ∀ {i : Nat}, i ≤ n → psum (fun i => getM (ofC n C) i j) i = C i (j + 1) - C i j
  | 0, _ => by rw [h0 (j + 1) (by omega), h0 j (by omega)]; rfl
  | i + 1, hi => by
    rw [psum_succ, ofC_col h0 hj (by omega)]
    unfold ofC
    rw [tabT_get (by omega) hj]
    unfold diff; omega
theorem ofC_Cn {n : Nat} {C : Nat → Nat → Int} (h : CT n C) : ∀ {i j : Nat}, i ≤ n → j ≤ n → Cn (ofC n C) i j = C i j
  | 0, j, _, hj => by rw [h.l0 j hj]; rfl
  | i + 1, j, hi, hj => by
    rw [Cn_row, ofC_Cn h (by omega) hj]
    have := ofC_row h.r0 (i := i) (by omega) hj
    show C i j + psum (getM (ofC n C) i) j = _
    rw [this]; omega
theorem CT.good {n : Nat} {C : Nat → Nat → Int} (h : CT n C) (h1 : 1 ≤ n) (h6 : n ≤ 6) : Good n (ofC n C) := by
  refine ⟨tabT_len _ _ _, h1, h6, tabT_sq, ?_, ?_, ?_, ?_⟩
  · intro i j hi hj; rw [ofC_row h.r0 hi hj]; have := h.dn i j hi hj; constructor <;> omega
  · intro i hi; rw [ofC_row h.r0 hi (Nat.le_refl n), h.rn _ (by omega), h.rn _ (by omega)]; omega
  · intro i j hi hj; rw [ofC_col h.l0 hj hi]; have := h.rt i j hi hj; constructor <;> omega
  · intro j hj; rw [ofC_col h.l0 hj (Nat.le_refl n), h.ln _ (by omega), h.ln _ (by omega)]; omega
theorem Good.of {n : Nat} {t : List (List Int)} (h : Good n t) : t = ofC n (Cn t) := by
  refine (tab_eq h.len h.sq).trans (tabT_congr fun i j _ _ => ?_)
  rw [getM_Cn]; rfl
theorem ofC_congr {n : Nat} {C D : Nat → Nat → Int} (h : ∀ i j, i ≤ n → j ≤ n → C i j = D i j) : ofC n C = ofC n D :=
  tabT_congr fun i j hi hj => by unfold diff; rw [h _ _ (by omega) (by omega), h _ _ (by omega) (by omega), h _ _ (by omega) (by omega), h _ _ (by omega) (by omega)]

/-! ### Heights -/
theorem psum_bound {f : Nat → Int} {B : Int} : ∀ {n : Nat}, (∀ i, i < n → -B ≤ f i ∧ f i ≤ B) → -(B * n) ≤ psum f n ∧ psum f n ≤ B * n
  | 0, _ => by simp [psum]
  | n + 1, h => by
    have h1 := psum_bound (n := n) (f := f) (fun i hi => h i (by omega))
    have h2 := h n (by omega)
    rw [psum_succ]
    have : B * ((n + 1 : Nat) : Int) = B * n + B := by rw [Int.natCast_add, Int.mul_add]; simp
    omega
theorem sumW_small {r : List Int} : ∀ {k : Nat}, k ≤ r.length → (∀ j, j ≤ k → R64 (lsum r j)) → sumW (r.take k) = lsum r k
  | 0, _, _ => rfl
  | k + 1, hk, h => by
    have hg : r[k]? = some (r[k]'(by omega)) := List.getElem?_eq_getElem _
    have e : r.take (k + 1) = r.take k ++ [r[k]'(by omega)] := by rw [List.take_add_one, hg]; rfl
    have e2 : sumW (r.take k ++ [r[k]'(by omega)]) = w64 (sumW (r.take k) + r[k]'(by omega)) := by simp only [sumW, List.foldl_append, List.foldl_cons, List.foldl_nil]
    rw [e, e2, sumW_small (by omega) (fun j hj => h j (by omega))]
    have e3 : lsum r (k + 1) = lsum r k + r[k]'(by omega) := by
      unfold lsum; rw [psum_succ]; simp [List.getD, hg]
    rw [← e3, w64_in (h _ (Nat.le_refl _))]
theorem cornerF_good {n : Nat} {t : List (List Int)} (h : Good n t) : ∀ {i j : Nat}, i ≤ n → j ≤ n → cornerF t i j = Cn t i j
  | 0, j, _, _ => rfl
  | i + 1, j, hi, hj => by
    have hl := h.len
    have hg : t[i]? = some (t[i]'(by omega)) := List.getElem?_eq_getElem _
    have e : t.take (i + 1) = t.take i ++ [t[i]'(by omega)] := by rw [List.take_add_one, hg]; rfl
    have e1 : cornerF t (i + 1) j = w64 (cornerF t i j + sumW ((t[i]'(by omega)).take j)) := by
      unfold cornerF cornerG; rw [e, List.foldl_append]; rfl
    have e2 : ∀ j, lsum (t[i]'(by omega)) j = psum (getM t i) j := fun j => by
      unfold lsum; refine psum_congr fun k _ => ?_
      simp [getM, List.getD, hg]
    have hr := h.sq _ (List.getElem_mem (show i < t.length by omega))
    have e3 : sumW ((t[i]'(by omega)).take j) = psum (getM t i) j := by
      rw [sumW_small (by omega) (fun k hk => by rw [e2]; have := h.row i k (by omega) (by omega); constructor <;> omega), e2]
    rw [e1, cornerF_good h (by omega) hj, e3, ← Cn_row]
    have h6 := h.n6
    have := h.ct.le_min hi hj
    exact w64_in (by constructor <;> omega)
def htC (C : Nat → Nat → Int) (i j : Nat) : Int := (i : Int) + j - 2 * C i j
theorem heightsF_good {n : Nat} {t : List (List Int)} (h : Good n t) : heightsF t = tabT (n + 1) (n + 1) (htC (Cn t)) := by
  unfold heightsF
  rw [h.len]
  refine tabT_congr fun i j hi hj => ?_
  unfold heightAt htC
  have h6 := h.n6
  have := h.ct.le_min (i := i) (j := j) (by omega) (by omega)
  rw [cornerF_good h (by omega) (by omega), w64_in (n := (i : Int) + j) (by constructor <;> omega), w64_in (n := 2 * Cn t i j) (by constructor <;> omega), w64_in (by constructor <;> omega)]
theorem tdiv2 {x : Int} (h : 0 ≤ x) : (2 * x).tdiv 2 = x := by
  rw [Int.tdiv_eq_ediv_of_nonneg (by omega)]; omega
theorem hcAt_tab {n : Nat} {C : Nat → Nat → Int} (hc : ∀ i j, i ≤ n → j ≤ n → 0 ≤ C i j ∧ C i j ≤ 1000) {i j : Nat} (hi : i ≤ n) (hj : j ≤ n) : hcAt (tabT (n + 1) (n + 1) (htC C)) i j = C i j := by
  unfold hcAt
  have e := tabT_get (r := n + 1) (c := n + 1) (F := htC C) (i := i) (j := j) (by omega) (by omega)
  unfold getM at e
  have h1 := hc i j hi hj
  rw [e]
  unfold htC
  have e2 : ((i + j : Nat) : Int) - ((i : Int) + j - 2 * C i j) = 2 * C i j := by omega
  rw [e2, w64_in (by constructor <;> omega), tdiv2 h1.1]
theorem fromHeights_tab {n : Nat} {C : Nat → Nat → Int} (hc : ∀ i j, i ≤ n → j ≤ n → 0 ≤ C i j ∧ C i j ≤ 1000) : fromHeightsF (tabT (n + 1) (n + 1) (htC C)) = ofC n C := by
  unfold fromHeightsF ofC
  rw [tabT_len, Nat.add_sub_cancel]
  refine tabT_congr fun i j hi hj => ?_
  unfold fromH diff
  rw [hcAt_tab hc (by omega) (by omega), hcAt_tab hc (by omega) (by omega), hcAt_tab hc (by omega) (by omega), hcAt_tab hc (by omega) (by omega)]
  have h1 := hc i j (by omega) (by omega)
  have h2 := hc (i + 1) j (by omega) (by omega)
  have h3 := hc i (j + 1) (by omega) (by omega)
  have h4 := hc (i + 1) (j + 1) (by omega) (by omega)
  rw [w64_in (n := C (i + 1) (j + 1) - C i (j + 1)) (by constructor <;> omega), w64_in (n := C (i + 1) (j + 1) - C i (j + 1) - C (i + 1) j) (by constructor <;> omega), w64_in (by constructor <;> omega)]
theorem CT.small {n : Nat} {C : Nat → Nat → Int} (h : CT n C) (h6 : n ≤ 6) : ∀ i j, i ≤ n → j ≤ n → 0 ≤ C i j ∧ C i j ≤ 1000 := fun i j hi hj => by
  have := h.le_min hi hj; constructor <;> omega
theorem fromHeights_good {n : Nat} {t : List (List Int)} (h : Good n t) : fromHeightsF (heightsF t) = t := by
  rw [heightsF_good h, fromHeights_tab (h.ct.small h.n6)]; exact h.of.symm
theorem atT_tab {n : Nat} {F : Nat → Nat → Int} {i j : Nat} (hi : i < n) (hj : j < n) : atT (tabT n n F) i j = F i j := by
  unfold atT
  rw [if_neg (by omega)]
  exact tabT_get hi hj
theorem fromAt_tab {n : Nat} {F C : Nat → Nat → Int} (hF : ∀ i j, i < n → j < n → F i j = C (i + 1) (j + 1)) (hc : ∀ i j, i ≤ n → j ≤ n → 0 ≤ C i j ∧ C i j ≤ 1000) (hl : ∀ j, j ≤ n → C 0 j = 0) (hr : ∀ i, i ≤ n → C i 0 = 0) {i j : Nat} (hi : i < n) (hj : j < n) : fromAt (tabT n n F) i j = diff C i j := by
  have key : ∀ a b : Nat, a ≤ n → b ≤ n → atT (tabT n n F) ((a : Int) - 1) ((b : Int) - 1) = C a b := by
    intro a b ha hb
    cases a with
    | zero => rw [hl b hb]; unfold atT; rw [if_pos (by omega)]
    | succ a =>
      cases b with
      | zero => rw [hr _ ha]; unfold atT; rw [if_pos (by omega)]
      | succ b =>
        have e1 : (((a + 1 : Nat) : Int) - 1) = (a : Nat) := by omega
        have e2 : (((b + 1 : Nat) : Int) - 1) = (b : Nat) := by omega
        rw [e1, e2, atT_tab (by omega) (by omega), hF a b (by omega) (by omega)]
  unfold fromAt diff
  have k1 := key (i + 1) (j + 1) (by omega) (by omega)
  have k2 := key i (j + 1) (by omega) (by omega)
  have k3 := key (i + 1) j (by omega) (by omega)
  have k4 := key i j (by omega) (by omega)
  have e1 : (((i + 1 : Nat) : Int) - 1) = (i : Nat) := by omega
  have e2 : (((j + 1 : Nat) : Int) - 1) = (j : Nat) := by omega
  rw [e1, e2] at k1
  rw [e2] at k2
  rw [e1] at k3
  rw [k1, k2, k3, k4]
  have h1 := hc i j (by omega) (by omega)
  have h2 := hc (i + 1) j (by omega) (by omega)
  have h3 := hc i (j + 1) (by omega) (by omega)
  have h4 := hc (i + 1) (j + 1) (by omega) (by omega)
  rw [w64_in (n := C (i + 1) (j + 1) - C i (j + 1)) (by constructor <;> omega), w64_in (n := C (i + 1) (j + 1) - C i (j + 1) - C (i + 1) j) (by constructor <;> omega), w64_in (by constructor <;> omega)]
theorem fromT_tab {n : Nat} {F C : Nat → Nat → Int} (hF : ∀ i j, i < n → j < n → F i j = C (i + 1) (j + 1)) (hc : ∀ i j, i ≤ n → j ≤ n → 0 ≤ C i j ∧ C i j ≤ 1000) (hl : ∀ j, j ≤ n → C 0 j = 0) (hr : ∀ i, i ≤ n → C i 0 = 0) : fromT (tabT n n F) = ofC n C := by
  have e : fromT (tabT n n F) = tabT n n (fromAt (tabT n n F)) := by
    unfold fromT
    rw [tabT_len]
    refine List.map_congr_left fun i _ => ?_
    unfold fromRow tabRow
    rw [tabT_len]
  rw [e]
  exact tabT_congr fun i j hi hj => fromAt_tab hF hc hl hr hi hj
theorem heFrom_tab {n : Nat} {C : Nat → Nat → Int} (hc : ∀ i j, i ≤ n → j ≤ n → 0 ≤ C i j ∧ C i j ≤ 1000) (hl : ∀ j, j ≤ n → C 0 j = 0) (hr : ∀ i, i ≤ n → C i 0 = 0) : heFromF (tabT (n + 1) (n + 1) (htC C)) = ofC n C := by
  unfold heFromF
  rw [tabT_len, Nat.add_sub_cancel]
  exact fromT_tab (fun i j hi hj => hcAt_tab hc (by omega) (by omega)) hc hl hr
theorem heFrom_good {n : Nat} {t : List (List Int)} (h : Good n t) : heFromF (heightsF t) = t := by
  rw [heightsF_good h, heFrom_tab (h.ct.small h.n6) h.ct.l0 h.ct.r0]; exact h.of.symm
theorem ht_in {n : Nat} {C : Nat → Nat → Int} (h : CT n C) {i j : Nat} (hi : i ≤ n) (hj : j ≤ n) : 0 ≤ htC C i j ∧ htC C i j ≤ n := by
  unfold htC
  have h1 := h.le_min hi hj
  have h2 := h.ge hi (d := n - j) (j := j) (by omega)
  constructor <;> omega
theorem goodB_of {n : Nat} {t : List (List Int)} (h : Good n t) : goodB t = true := goodB_iff.2 (by have := h.len; rw [this]; exact h)
/-- Both tests of heights. -/
theorem heightsB_iff {g : List (List Int)} : heightsB g = true ↔ ∃ n t, Good n t ∧ g = heightsF t := by
  constructor
  · intro h
    simp only [heightsB, Bool.and_eq_true, decide_eq_true_eq] at h
    exact ⟨_, _, goodB_iff.1 h.2.2.1, h.2.2.2.symm⟩
  · rintro ⟨n, t, ht, rfl⟩
    have hl : (heightsF t).length = n + 1 := by rw [heightsF_good ht, tabT_len]
    have h1 := ht.n1
    have h6 := ht.n6
    simp only [heightsB, Bool.and_eq_true, decide_eq_true_eq, fromHeights_good ht, hl]
    refine ⟨by omega, ?_, goodB_of ht, trivial⟩
    simp only [isSquareB, List.all_eq_true, decide_eq_true_eq, hl]
    rw [heightsF_good ht]
    exact tabT_sq
theorem heGoodB_iff {g : List (List Int)} : heGoodB g = true ↔ ∃ n t, Good n t ∧ g = heightsF t := by
  constructor
  · intro h
    simp only [heGoodB, heRest, Bool.and_eq_true, decide_eq_true_eq] at h
    exact ⟨_, _, goodB_iff.1 h.2.2.1, h.2.2.2.symm⟩
  · rintro ⟨n, t, ht, rfl⟩
    have hl : (heightsF t).length = n + 1 := by rw [heightsF_good ht, tabT_len]
    have h1 := ht.n1
    have h6 := ht.n6
    simp only [heGoodB, heRest, Bool.and_eq_true, decide_eq_true_eq, heFrom_good ht, hl]
    refine ⟨by omega, ?_, goodB_of ht, trivial⟩
    rw [heightsF_good ht]
    simp only [List.all_eq_true, heRowB, Bool.and_eq_true, decide_eq_true_eq]
    intro r hr
    refine ⟨tabT_sq r hr, ?_⟩
    simp only [tabT, List.mem_map, List.mem_range] at hr
    obtain ⟨i, hi, rfl⟩ := hr
    simp only [tabRow, List.mem_map, List.mem_range]
    rintro x ⟨j, hj, rfl⟩
    have := ht_in ht.ct (i := i) (j := j) (by omega) (by omega)
    constructor <;> omega
theorem heGood_eq (g : List (List Int)) : heGoodB g = heightsB g := by
  rw [Bool.eq_iff_iff, heightsB_iff, heGoodB_iff]
theorem from_eq {g : List (List Int)} (h : heightsB g = true) : heFromF g = fromHeightsF g := by
  obtain ⟨n, t, ht, rfl⟩ := heightsB_iff.1 h
  rw [heFrom_good ht, fromHeights_good ht]

/-! ### Being below -/
theorem rowBelow_iff : ∀ {r s : List Int}, r.length = s.length → (rowBelow r s = true ↔ ∀ j, j < r.length → r.getD j 0 ≤ s.getD j 0)
  | [], [], _ => by simp [rowBelow]
  | x :: r, y :: s, h => by
    simp only [rowBelow, Bool.and_eq_true, decide_eq_true_eq, rowBelow_iff (r := r) (s := s) (by simpa using h)]
    constructor
    · rintro ⟨h1, h2⟩ j hj
      cases j with
      | zero => simpa using h1
      | succ j => have := h2 j (by simpa using hj); simpa using this
    · intro h'
      refine ⟨by simpa using h' 0 (by simp), fun j hj => ?_⟩
      have := h' (j + 1) (by simpa using hj)
      simpa using this
theorem belowB_iff {c : Nat} : ∀ {a b : List (List Int)}, a.length = b.length → (∀ r ∈ a, r.length = c) → (∀ r ∈ b, r.length = c) → (belowB a b = true ↔ ∀ i j, i < a.length → j < c → getM a i j ≤ getM b i j)
  | [], [], _, _, _ => by simp [belowB]
  | r :: a, s :: b, h, ha, hb => by
    have hr := ha r (by simp)
    have hs := hb s (by simp)
    simp only [belowB, Bool.and_eq_true, rowBelow_iff (hr.trans hs.symm), belowB_iff (a := a) (b := b) (by simpa using h) (fun x hx => ha x (by simp [hx])) (fun x hx => hb x (by simp [hx])), hr]
    constructor
    · rintro ⟨h1, h2⟩ i j hi hj
      cases i with
      | zero => simpa [getM] using h1 j hj
      | succ i => have := h2 i j (by simpa using hi) hj; simpa [getM] using this
    · intro h'
      refine ⟨fun j hj => by simpa [getM] using h' 0 j (by simp) hj, fun i j hi hj => ?_⟩
      have := h' (i + 1) j (by simpa using hi) hj
      simpa [getM] using this
theorem isBelow_iff {n : Nat} {a b : List (List Int)} (ha : Good n a) (hb : Good n b) : isBelowB a b = true ↔ ∀ i j, i ≤ n → j ≤ n → Cn b i j ≤ Cn a i j := by
  unfold isBelowB
  rw [heightsF_good ha, heightsF_good hb, belowB_iff (c := n + 1) (by rw [tabT_len, tabT_len]) tabT_sq tabT_sq, tabT_len]
  constructor
  · intro h i j hi hj
    have := h i j (by omega) (by omega)
    rw [tabT_get (by omega) (by omega), tabT_get (by omega) (by omega)] at this
    unfold htC at this; omega
  · intro h i j hi hj
    have := h i j (by omega) (by omega)
    rw [tabT_get (by omega) (by omega), tabT_get (by omega) (by omega)]
    unfold htC; omega
theorem below_anti {n : Nat} {a b : List (List Int)} (ha : Good n a) (hb : Good n b) : (isBelowB a b = true ∧ isBelowB b a = true) ↔ a = b := by
  constructor
  · rintro ⟨h1, h2⟩
    rw [isBelow_iff ha hb] at h1
    rw [isBelow_iff hb ha] at h2
    rw [ha.of, hb.of]
    exact ofC_congr fun i j hi hj => by have := h1 i j hi hj; have := h2 i j hi hj; omega
  · rintro rfl
    have : isBelowB a a = true := (isBelow_iff ha ha).2 fun _ _ _ _ => Int.le_refl _
    exact ⟨this, this⟩
/-- Mirrors. -/
def mirF (t : List (List Int)) : List (List Int) := tabT t.length t.length fun i j => getM t i (t.length - 1 - j)
theorem psum_rev (f : Nat → Int) (n : Nat) : ∀ {k : Nat}, k ≤ n → psum (fun j => f (n - 1 - j)) k = psum f n - psum f (n - k)
  | 0, _ => by simp [psum]
  | k + 1, hk => by
    rw [psum_succ, psum_rev f n (by omega)]
    have e : n - k = (n - (k + 1)) + 1 := by omega
    have e2 : n - 1 - k = n - (k + 1) := by omega
    rw [e, psum_succ, e2]; omega
theorem mir_row {n : Nat} {t : List (List Int)} (hl : t.length = n) {i j : Nat} (hi : i < n) (hj : j ≤ n) : psum (getM (mirF t) i) j = psum (getM t i) n - psum (getM t i) (n - j) := by
  rw [← psum_rev _ _ hj]
  refine psum_congr fun k hk => ?_
  unfold mirF
  rw [hl, tabT_get hi (by omega)]
theorem mir_Cn {n : Nat} {t : List (List Int)} (h : Good n t) : ∀ {i j : Nat}, i ≤ n → j ≤ n → Cn (mirF t) i j = i - Cn t i (n - j)
  | 0, j, _, _ => rfl
  | i + 1, j, hi, hj => by
    rw [Cn_row, mir_Cn h (by omega) hj, mir_row h.len (by omega) hj, h.rowt i (by omega), Cn_row]; omega
theorem mir_good {n : Nat} {t : List (List Int)} (h : Good n t) : Good n (mirF t) := by
  refine ⟨by rw [mirF, tabT_len]; exact h.len, h.n1, h.n6, by unfold mirF; rw [h.len]; exact tabT_sq, ?_, ?_, ?_, ?_⟩
  · intro i j hi hj
    rw [mir_row h.len hi hj, h.rowt i hi]
    have := h.row i (n - j) hi (by omega)
    constructor <;> omega
  · intro i hi
    rw [mir_row h.len hi (Nat.le_refl _), h.rowt i hi, Nat.sub_self]; rfl
  · intro i j hi hj
    have e : psum (fun i => getM (mirF t) i j) i = psum (fun i => getM t i (n - 1 - j)) i := psum_congr fun k hk => by
      unfold mirF; rw [h.len, tabT_get (by omega) hj]
    rw [e]; exact h.col i _ hi (by omega)
  · intro j hj
    have e : psum (fun i => getM (mirF t) i j) n = psum (fun i => getM t i (n - 1 - j)) n := psum_congr fun k hk => by
      unfold mirF; rw [h.len, tabT_get (by omega) hj]
    rw [e]; exact h.colt _ (by omega)
theorem below_mir {n : Nat} {a b : List (List Int)} (ha : Good n a) (hb : Good n b) : isBelowB (mirF b) (mirF a) = isBelowB a b := by
  rw [Bool.eq_iff_iff, isBelow_iff (mir_good hb) (mir_good ha), isBelow_iff ha hb]
  constructor
  · intro h i j hi hj
    have := h i (n - j) hi (by omega)
    rw [mir_Cn ha hi (by omega), mir_Cn hb hi (by omega)] at this
    have e : n - (n - j) = j := by omega
    rw [e] at this; omega
  · intro h i j hi hj
    rw [mir_Cn ha hi hj, mir_Cn hb hi hj]
    have := h i (n - j) hi (by omega); omega
/-- The least one. -/
def leastF (n : Nat) : List (List Int) := tabT n n fun i j => if i = j then 1 else 0
theorem min_ct (n : Nat) : CT n fun i j => ((min i j : Nat) : Int) := by
  refine ⟨?_, ?_, ?_, ?_, ?_, ?_⟩ <;> intros <;> omega
theorem least_of (n : Nat) : leastF n = ofC n fun i j => ((min i j : Nat) : Int) := by
  refine tabT_congr fun i j hi hj => ?_
  unfold diff
  dsimp only
  split <;> omega
theorem least_good {n : Nat} (h1 : 1 ≤ n) (h6 : n ≤ 6) : Good n (leastF n) := by rw [least_of]; exact (min_ct n).good h1 h6
theorem least_Cn {n i j : Nat} (hi : i ≤ n) (hj : j ≤ n) : Cn (leastF n) i j = (min i j : Nat) := by rw [least_of]; exact ofC_Cn (min_ct n) hi hj
theorem least_below {n : Nat} {a : List (List Int)} (ha : Good n a) : isBelowB (leastF n) a = true := by
  rw [isBelow_iff (least_good ha.n1 ha.n6) ha]
  intro i j hi hj
  rw [least_Cn hi hj]
  have := ha.ct.le_min hi hj
  omega
theorem below_most {n : Nat} {a : List (List Int)} (ha : Good n a) : isBelowB a (mirF (leastF n)) = true := by
  rw [isBelow_iff ha (mir_good (least_good ha.n1 ha.n6))]
  intro i j hi hj
  rw [mir_Cn (least_good ha.n1 ha.n6) hi hj, least_Cn hi (by omega)]
  have h1 := ha.ct.ge hi (d := n - j) (j := j) (by omega)
  have h2 := ha.ct.le_min hi hj
  omega

end Go.Proofs.Ytccioplhchmilaa.AL

set_option linter.unusedVariables false
set_option maxRecDepth 100000
namespace Go.Proofs.Ytccioplhchmilaa.AL
open Go Go.Proofs

theorem goodB_sq {t : List (List Int)} (h : goodB t = true) : isSquareB t = true := by simp only [goodB, Bool.and_eq_true] at h; exact h.2.1
theorem goodB_len {t : List (List Int)} (h : goodB t = true) : 1 ≤ t.length ∧ t.length ≤ 6 := by simp only [goodB, Bool.and_eq_true, decide_eq_true_eq] at h; exact h.1
theorem heights_len (t : List (List Int)) : (heightsF t).length = t.length + 1 := tabT_len _ _ _
theorem heights_sq {t : List (List Int)} {r : List Int} (h : r ∈ heightsF t) : r.length = t.length + 1 := tabT_sq r h
theorem getElem_mem' {α : Type} {l : List α} {i : Nat} {a : α} (h : l[i]? = some a) : a ∈ l := List.mem_of_getElem? h
section
variable {a b : List (List Int)} {v u : AVal} {H : Heap}
theorem isBelow_ok (hv : IsTab v a) (hu : IsTab u b) (ha : goodB a = true) (hb' : goodB b = true) (hab : a.length = b.length) : ACalls Try.prog 86 [v, u] H fun r H' => r = .bool (isBelowB a b) ∧ H' = H := by
  have la := goodB_len ha
  have lb := goodB_len hb'
  apply impl_isBelow.start
  unfold impl_isBelow.start_vc
  refine ACalls.mono (heights_ok hv (by omega) (goodB_sq ha)) ?_
  rintro r1 H1 ⟨h1, rfl⟩
  refine ACalls.mono (heights_ok hu (by omega) (goodB_sq hb')) ?_
  rintro r2 H2 ⟨h2, rfl⟩
  repeat' (with_reducible first
 | refine rTT ?_
 | refine rRFL ?_
 | refine rLEN (by assumption) ?_
 | (refine rIXk (by assumption) (by assumption) ?_; intro p hp)
 | (refine rIX (by assumption) (by omega) (by omega) ?_; intro p a ha hp)
 | refine rLDi (by assumption) ?_
 | (refine rLD (by assumption) ?_; intro c hc)
 | refine rADD (by omega) ?_
 | refine rSUB (by omega) ?_
 | refine rLSS ?_
 | refine rLEQ ?_
 | refine rGTR ?_
 | refine rGEQ ?_
 | refine rEQL ?_
 | refine rNEQ ?_
 | refine rNOT ?_
 | (refine rBRK ?_ ?_ <;> intro hb)
 | (refine rBRKn ?_ ?_ <;> intro hb)
 | (refine rBRKnb ?_ ?_ <;> intro hb)
 | (refine rBRKb ?_ ?_ <;> intro hb)
 | (refine rSPL ?_ ?_ <;> intro hb)
 | (refine rSPLn ?_ ?_ <;> intro hb)
 | (refine rSPLnb ?_ ?_ <;> intro hb)
 | (refine rSPLb ?_ ?_ <;> intro hb)
 | (exfalso; omega))
  refine isBelow_out h1 h2 (by rw [heights_len]; omega) (by rw [heights_len, heights_len, hab]) ?_ _ 0 (by rw [Nat.zero_add]) ⟨rfl, rfl⟩
  intro i r s hr hs
  rw [heights_sq (getElem_mem' hr), heights_sq (getElem_mem' hs)]
  omega
theorem impl_IsBelow_ok (hv : IsTab v a) (hu : IsTab u b) (ha : a.length ≤ 100000) (hb' : b.length ≤ 100000) : ACalls Try.prog 30 [v, u] H fun r H' => r = .tup [.bool (bif pairB a b then isBelowB a b else false), .bool (pairB a b)] ∧ H' = H := by
  apply impl_IsBelow.start
  unfold impl_IsBelow.start_vc
  refine ACalls.mono (arePair_ok hv hu ha hb') ?_
  rintro r H1 ⟨rfl, rfl⟩
  repeat' (with_reducible first
 | refine rTT ?_
 | refine rRFL ?_
 | refine rLEN (by assumption) ?_
 | (refine rIXk (by assumption) (by assumption) ?_; intro p hp)
 | (refine rIX (by assumption) (by omega) (by omega) ?_; intro p a ha hp)
 | refine rLDi (by assumption) ?_
 | (refine rLD (by assumption) ?_; intro c hc)
 | refine rADD (by omega) ?_
 | refine rSUB (by omega) ?_
 | refine rLSS ?_
 | refine rLEQ ?_
 | refine rGTR ?_
 | refine rGEQ ?_
 | refine rEQL ?_
 | refine rNEQ ?_
 | refine rNOT ?_
 | (refine rBRK ?_ ?_ <;> intro hb)
 | (refine rBRKn ?_ ?_ <;> intro hb)
 | (refine rBRKnb ?_ ?_ <;> intro hb)
 | (refine rBRKb ?_ ?_ <;> intro hb)
 | (refine rSPL ?_ ?_ <;> intro hb)
 | (refine rSPLn ?_ ?_ <;> intro hb)
 | (refine rSPLnb ?_ ?_ <;> intro hb)
 | (refine rSPLb ?_ ?_ <;> intro hb)
 | (exfalso; omega))
  · exact ⟨by rw [hb]; rfl, rfl⟩
  · have h := hb
    simp only [pairB, Bool.and_eq_true, decide_eq_true_eq] at h
    refine ACalls.mono (isBelow_ok hv hu h.1 h.2.1 h.2.2) ?_
    rintro r H2 ⟨rfl, rfl⟩
    exact ⟨by rw [hb]; rfl, rfl⟩
theorem heBelow_ok (hv : IsTab v (heightsF a)) (hu : IsTab u (heightsF b)) (ha : goodB a = true) (hb' : goodB b = true) (hab : a.length = b.length) : ACalls Try.prog 88 [v, u] H fun r H' => r = .bool (isBelowB a b) ∧ H' = H := by
  have la := goodB_len ha
  have lb := goodB_len hb'
  apply spec_heBelow.start
  unfold spec_heBelow.start_vc
  repeat' (with_reducible first
 | refine rTT ?_
 | refine rRFL ?_
 | refine rLEN (by assumption) ?_
 | (refine rIXk (by assumption) (by assumption) ?_; intro p hp)
 | (refine rIX (by assumption) (by omega) (by omega) ?_; intro p a ha hp)
 | refine rLDi (by assumption) ?_
 | (refine rLD (by assumption) ?_; intro c hc)
 | refine rADD (by omega) ?_
 | refine rSUB (by omega) ?_
 | refine rLSS ?_
 | refine rLEQ ?_
 | refine rGTR ?_
 | refine rGEQ ?_
 | refine rEQL ?_
 | refine rNEQ ?_
 | refine rNOT ?_
 | (refine rBRK ?_ ?_ <;> intro hb)
 | (refine rBRKn ?_ ?_ <;> intro hb)
 | (refine rBRKnb ?_ ?_ <;> intro hb)
 | (refine rBRKb ?_ ?_ <;> intro hb)
 | (refine rSPL ?_ ?_ <;> intro hb)
 | (refine rSPLn ?_ ?_ <;> intro hb)
 | (refine rSPLnb ?_ ?_ <;> intro hb)
 | (refine rSPLb ?_ ?_ <;> intro hb)
 | (exfalso; omega))
  refine heBelow_out hv hu (by rw [heights_len]; omega) (by rw [heights_len, heights_len, hab]) ?_ _ 0 (by rw [Nat.zero_add]) ⟨rfl, rfl⟩
  intro i r s hr hs
  rw [heights_sq (getElem_mem' hr), heights_sq (getElem_mem' hs)]
  omega
theorem heOf_okF {H : Heap} (hv : IsTab v a) (hl : a.length ≤ 100000) (hs : isSquareB a = true) : ACalls Try.prog 61 [v] H fun r H' => IsTab r (heightsF a) ∧ H' = H := by
  have := heOf_ok (H := H) hv hl hs
  rw [heights_eq hl] at this; exact this
theorem spec_IsBelow_ok (hv : IsTab v a) (hu : IsTab u b) (ha : a.length ≤ 100000) (hb' : b.length ≤ 100000) (hra : ∀ r ∈ a, r.length ≤ 1000000) (hrb : ∀ r ∈ b, r.length ≤ 1000000) : ACalls Try.prog 31 [v, u] H fun r H' => r = .tup [.bool (bif pairB a b then isBelowB a b else false), .bool (pairB a b)] ∧ H' = H := by
  apply spec_IsBelow.start
  unfold spec_IsBelow.start_vc
  refine ACalls.mono (hePair_ok hv hu ha hb' hra hrb) ?_
  rintro r H1 ⟨rfl, rfl⟩
  repeat' (with_reducible first
 | refine rTT ?_
 | refine rRFL ?_
 | refine rLEN (by assumption) ?_
 | (refine rIXk (by assumption) (by assumption) ?_; intro p hp)
 | (refine rIX (by assumption) (by omega) (by omega) ?_; intro p a ha hp)
 | refine rLDi (by assumption) ?_
 | (refine rLD (by assumption) ?_; intro c hc)
 | refine rADD (by omega) ?_
 | refine rSUB (by omega) ?_
 | refine rLSS ?_
 | refine rLEQ ?_
 | refine rGTR ?_
 | refine rGEQ ?_
 | refine rEQL ?_
 | refine rNEQ ?_
 | refine rNOT ?_
 | (refine rBRK ?_ ?_ <;> intro hb)
 | (refine rBRKn ?_ ?_ <;> intro hb)
 | (refine rBRKnb ?_ ?_ <;> intro hb)
 | (refine rBRKb ?_ ?_ <;> intro hb)
 | (refine rSPL ?_ ?_ <;> intro hb)
 | (refine rSPLn ?_ ?_ <;> intro hb)
 | (refine rSPLnb ?_ ?_ <;> intro hb)
 | (refine rSPLb ?_ ?_ <;> intro hb)
 | (exfalso; omega))
  · exact ⟨by rw [hb]; rfl, rfl⟩
  · have h := hb
    simp only [pairB, Bool.and_eq_true, decide_eq_true_eq] at h
    refine ACalls.mono (heOf_okF hv ha (goodB_sq h.1)) ?_
    rintro r1 H2 ⟨h1, rfl⟩
    refine ACalls.mono (heOf_okF hu hb' (goodB_sq h.2.1)) ?_
    rintro r2 H3 ⟨h2, rfl⟩
    refine ACalls.mono (heBelow_ok h1 h2 h.1 h.2.1 h.2.2) ?_
    rintro r H2 ⟨rfl, rfl⟩
    exact ⟨by rw [hb]; rfl, rfl⟩
end

/-! ### Drawn tables as values -/
theorem After.split {A : Int} {i g : Nat} {H H1 : Heap} (h : After A i g H H1) : ∃ cs, Split H1 (nw H H1) (hset H i g cs) ∧ Cur A (hset H i g cs) i g := by
  obtain ⟨cv, code, a, s, h1, h2⟩ := h.cur
  have hlt := h.lt
  refine ⟨_, ?_, ⟨cv, code, a, s, hget_set _ _ hlt, h2⟩⟩
  have hs : HSub (hset H i g [cv, I a, .int .u64 s]) H1 := by
    intro j g' cs hj
    by_cases hij : j = i
    · subst hij; rw [hget_set _ _ hlt] at hj; cases hj; exact h1
    · rw [hget_set_ne _ _ (fun e => hij e.symm)] at hj
      rw [h.old j (hlt_of_get hj) hij]; exact hj
  have := nw_split hs
  have e : nw (hset H i g [cv, I a, .int .u64 s]) H1 = nw H H1 := by unfold nw; rw [hlen_set]
  rw [e] at this; exact this
/-- A drawn table, as a value; of what was there only the cursor has changed. -/
def TabV (A : Int) (i g : Nat) (H0 : Heap) (r : AVal) (H : Heap) : Prop := ∃ t cs, IsTab r t ∧ t.length ≤ 7 ∧ (∀ r ∈ t, r.length ≤ 7) ∧ H = hset H0 i g cs ∧ Cur A H i g
theorem Table.val {A : Int} {i g : Nat} {H0 : Heap} {f : FuncId} {args : List AVal} (h : ACalls Try.prog f args H0 (Table A i g H0)) : ACalls Try.prog f args H0 (TabV A i g H0) := by
  refine ACalls.freeze (h.mono ?_)
  rintro r H1 ⟨t, h1, h2, h3, h4⟩
  obtain ⟨cs, q1, q2⟩ := h4.split
  obtain ⟨v', p1, p2⟩ := h1.pur (Hf := nw H0 H1) fun j hj => nw_above H0 H1 hj
  exact ⟨nw H0 H1, _, 2, v', q1, p1, t, cs, p2, h2, h3, rfl, q2⟩
theorem signsV_ok {A most : Int} {H : Heap} {i g : Nat} (h : Cur A H i g) (hA : A ≤ 1000000) (h1 : 1 ≤ most) (hm : most ≤ 6) : ACalls Try.prog 49 [.ptr i g 0, I most] H (TabV (A + 3000) i g H) := Table.val (signs_ok h hA h1 hm)
def SureV (A : Int) (n : Nat) (i g : Nat) (H0 : Heap) (r : AVal) (H : Heap) : Prop := ∃ t cs, IsTab r t ∧ t.length = n ∧ isSquareB t = true ∧ H = hset H0 i g cs ∧ Cur A H i g
theorem sureV_ok {A : Int} {H : Heap} {i g n : Nat} (h : Cur A H i g) (hA : A ≤ 10000000) (h1 : 1 ≤ n) (hn : n ≤ 6) : ACalls Try.prog 101 [.ptr i g 0, I n] H (SureV (A + 1000) n i g H) := by
  refine ACalls.freeze ((sure_ok h hA h1 hn).mono ?_)
  rintro r H1 ⟨t, h1, h2, h3, h4⟩
  obtain ⟨cs, q1, q2⟩ := h4.split
  obtain ⟨v', p1, p2⟩ := h1.pur (Hf := nw H H1) fun j hj => nw_above H H1 hj
  exact ⟨nw H H1, _, 2, v', q1, p1, t, cs, p2, h2, h3, rfl, q2⟩

end Go.Proofs.Ytccioplhchmilaa.AL

set_option linter.unusedVariables false
set_option maxRecDepth 100000
namespace Go.Proofs.Ytccioplhchmilaa.AL
open Go Go.Proofs

/-! impl.mirrored (slots: 0 m, 1 m, 3 n) -/
namespace impl_mirrored
def lv : List (Nat × List Nat) := []
def start_vc (Q : AVal → Heap → Prop) (a0 : AVal) (H : Heap) : Prop :=
 BOXK a0 H fun x1 H2 =>
 TT ∧ TT ∧ LDK false 1 H2 x1 fun x3 =>
 LENK x3 fun x4 =>
 TT ∧ BOXK (AVal.int .i64 0) H2 fun x5 H6 =>
 TT ∧ STK 1 H6 x5 x4 fun H7 =>
 TT ∧ TT ∧ LDK false 1 H7 x5 fun x8 =>
 TT ∧ TT ∧ LDK false 1 H7 x5 fun x9 =>
 ACalls Try.prog 107 [x8, x9, (AVal.fn 131 [] [x1, x5])] H7 fun x10 H11 =>
 Q x10 H11
theorem start_eq (Q : AVal → Heap → Prop) (a0 : AVal) (H : Heap) : vs Try.prog lv 91 10 Try.f91.results.toList Q true 1000 [.sq (bodyOf Try.f91)] (entry [a0]) H = start_vc Q a0 H := by kernel_rfl
theorem start {Q : AVal → Heap → Prop} {a0 : AVal} {H : Heap} (h : start_vc Q a0 H) : ACalls Try.prog 91 [a0] H Q := acalls_vs (lv := lv) mixed Try.func91 rfl (by kernel_rfl) (by kernel_rfl) (start_eq Q a0 H ▸ h)
end impl_mirrored

/-! impl.mirrored$1 (slots: 0 i, 1 j, 4 i, 5 j) -/
namespace impl_mirrored_1
def lv : List (Nat × List Nat) := []
def start_vc (Q : AVal → Heap → Prop) (a0 a1 a2 a3 : AVal) (H : Heap) : Prop :=
 TT ∧ TT ∧ TT ∧ LDK false 1 H a2 fun x1 =>
 TT ∧ IXK 1 x1 a0 fun x2 =>
 TT ∧ TT ∧ LDK false 1 H x2 fun x3 =>
 TT ∧ TT ∧ LDK false 1 H a3 fun x4 =>
 BINK .sub x4 (AVal.int .i64 1) fun x5 =>
 BINK .sub x5 a1 fun x6 =>
 TT ∧ IXK 1 x3 x6 fun x7 =>
 TT ∧ TT ∧ LDK false 1 H x7 fun x8 =>
 Q x8 H
theorem start_eq (Q : AVal → Heap → Prop) (a0 a1 a2 a3 : AVal) (H : Heap) : vs Try.prog lv 131 17 Try.f131.results.toList Q true 1000 [.sq (bodyOf Try.f131)] (entry [a0, a1, a2, a3]) H = start_vc Q a0 a1 a2 a3 H := by kernel_rfl
theorem start {Q : AVal → Heap → Prop} {a0 a1 a2 a3 : AVal} {H : Heap} (h : start_vc Q a0 a1 a2 a3 H) : ACalls Try.prog 131 [a0, a1, a2, a3] H Q := acalls_vs (lv := lv) mixed Try.func131 rfl (by kernel_rfl) (by kernel_rfl) (start_eq Q a0 a1 a2 a3 H ▸ h)
end impl_mirrored_1

/-! impl.least (slots: 0 n, 1 n) -/
namespace impl_least
def lv : List (Nat × List Nat) := []
def start_vc (Q : AVal → Heap → Prop) (a0 : AVal) (H : Heap) : Prop :=
 ACalls Try.prog 107 [a0, a0, (AVal.fn 129 [] [])] H fun x1 H2 =>
 Q x1 H2
theorem start_eq (Q : AVal → Heap → Prop) (a0 : AVal) (H : Heap) : vs Try.prog lv 90 6 Try.f90.results.toList Q true 1000 [.sq (bodyOf Try.f90)] (entry [a0]) H = start_vc Q a0 H := by kernel_rfl
theorem start {Q : AVal → Heap → Prop} {a0 : AVal} {H : Heap} (h : start_vc Q a0 H) : ACalls Try.prog 90 [a0] H Q := acalls_vs (lv := lv) mixed Try.func90 rfl (by kernel_rfl) (by kernel_rfl) (start_eq Q a0 H ▸ h)
end impl_least

/-! impl.least$1 (slots: 0 i, 1 j, 2 i, 3 j) -/
namespace impl_least_1
def lv : List (Nat × List Nat) := []
def start_vc (Q : AVal → Heap → Prop) (a0 a1 : AVal) (H : Heap) : Prop :=
 BINK .eql a0 a1 fun x1 =>
 ACalls Try.prog 130 [x1] H fun x2 H3 =>
 Q x2 H3
theorem start_eq (Q : AVal → Heap → Prop) (a0 a1 : AVal) (H : Heap) : vs Try.prog lv 129 9 Try.f129.results.toList Q true 1000 [.sq (bodyOf Try.f129)] (entry [a0, a1]) H = start_vc Q a0 a1 H := by kernel_rfl
theorem start {Q : AVal → Heap → Prop} {a0 a1 : AVal} {H : Heap} (h : start_vc Q a0 a1 H) : ACalls Try.prog 129 [a0, a1] H Q := acalls_vs (lv := lv) mixed Try.func129 rfl (by kernel_rfl) (by kernel_rfl) (start_eq Q a0 a1 H ▸ h)
end impl_least_1

/-! impl.LeastSigns (slots: 0 n, 1 n) -/
namespace impl_LeastSigns
def lv : List (Nat × List Nat) := []
def start_vc (Q : AVal → Heap → Prop) (a0 : AVal) (H : Heap) : Prop :=
 ACalls Try.prog 80 [a0] H fun x1 H2 =>
 NOTK x1 fun x3 =>
 BRK x3 (Q (AVal.tup [AVal.nilS, (AVal.bool false)]) H2) (ACalls Try.prog 90 [a0] H2 fun x4 H5 =>
 Q (AVal.tup [x4, (AVal.bool true)]) H5)
theorem start_eq (Q : AVal → Heap → Prop) (a0 : AVal) (H : Heap) : vs Try.prog lv 33 9 Try.f33.results.toList Q true 1000 [.sq (bodyOf Try.f33)] (entry [a0]) H = start_vc Q a0 H := by kernel_rfl
theorem start {Q : AVal → Heap → Prop} {a0 : AVal} {H : Heap} (h : start_vc Q a0 H) : ACalls Try.prog 33 [a0] H Q := acalls_vs (lv := lv) mixed Try.func33 rfl (by kernel_rfl) (by kernel_rfl) (start_eq Q a0 H ▸ h)
end impl_LeastSigns

/-! impl.GreatestSigns (slots: 0 n, 1 n) -/
namespace impl_GreatestSigns
def lv : List (Nat × List Nat) := []
def start_vc (Q : AVal → Heap → Prop) (a0 : AVal) (H : Heap) : Prop :=
 ACalls Try.prog 80 [a0] H fun x1 H2 =>
 NOTK x1 fun x3 =>
 BRK x3 (Q (AVal.tup [AVal.nilS, (AVal.bool false)]) H2) (ACalls Try.prog 90 [a0] H2 fun x4 H5 =>
 ACalls Try.prog 91 [x4] H5 fun x6 H7 =>
 Q (AVal.tup [x6, (AVal.bool true)]) H7)
theorem start_eq (Q : AVal → Heap → Prop) (a0 : AVal) (H : Heap) : vs Try.prog lv 34 10 Try.f34.results.toList Q true 1000 [.sq (bodyOf Try.f34)] (entry [a0]) H = start_vc Q a0 H := by kernel_rfl
theorem start {Q : AVal → Heap → Prop} {a0 : AVal} {H : Heap} (h : start_vc Q a0 H) : ACalls Try.prog 34 [a0] H Q := acalls_vs (lv := lv) mixed Try.func34 rfl (by kernel_rfl) (by kernel_rfl) (start_eq Q a0 H ▸ h)
end impl_GreatestSigns

/-! impl.MirrorMatrix (slots: 0 m, 1 m) -/
namespace impl_MirrorMatrix
def lv : List (Nat × List Nat) := []
def start_vc (Q : AVal → Heap → Prop) (a0 : AVal) (H : Heap) : Prop :=
 ACalls Try.prog 76 [a0, (AVal.fn 91 [] [])] H fun x1 H2 =>
 EXTK x1 0 fun x3 =>
 EXTK x1 1 fun x4 =>
 Q (AVal.tup [x3, x4]) H2
theorem start_eq (Q : AVal → Heap → Prop) (a0 : AVal) (H : Heap) : vs Try.prog lv 89 8 Try.f89.results.toList Q true 1000 [.sq (bodyOf Try.f89)] (entry [a0]) H = start_vc Q a0 H := by kernel_rfl
theorem start {Q : AVal → Heap → Prop} {a0 : AVal} {H : Heap} (h : start_vc Q a0 H) : ACalls Try.prog 89 [a0] H Q := acalls_vs (lv := lv) mixed Try.func89 rfl (by kernel_rfl) (by kernel_rfl) (start_eq Q a0 H ▸ h)
end impl_MirrorMatrix

/-! impl.DualOf (slots: 0 m, 1 m) -/
namespace impl_DualOf
def lv : List (Nat × List Nat) := []
def start_vc (Q : AVal → Heap → Prop) (a0 : AVal) (H : Heap) : Prop :=
 ACalls Try.prog 89 [a0] H fun x1 H2 =>
 EXTK x1 0 fun x3 =>
 EXTK x1 1 fun x4 =>
 Q (AVal.tup [x3, x4]) H2
theorem start_eq (Q : AVal → Heap → Prop) (a0 : AVal) (H : Heap) : vs Try.prog lv 32 8 Try.f32.results.toList Q true 1000 [.sq (bodyOf Try.f32)] (entry [a0]) H = start_vc Q a0 H := by kernel_rfl
theorem start {Q : AVal → Heap → Prop} {a0 : AVal} {H : Heap} (h : start_vc Q a0 H) : ACalls Try.prog 32 [a0] H Q := acalls_vs (lv := lv) mixed Try.func32 rfl (by kernel_rfl) (by kernel_rfl) (start_eq Q a0 H ▸ h)
end impl_DualOf


theorem table_pure {rr c : Nat} {F : Nat → Nat → Int} {f : AVal} {H Hb : Heap} {T : List (List Int)} (hT : tabT rr c F = T) (hsub : HSub H Hb) (hl : H.length ≤ Hb.length) (hc : c ≤ 1000000) (hr : rr ≤ 1000000)
    (hf : ∀ i j, i < rr → j < c → ∀ H1, Fresh Hb H1 → CALLK Try.prog f [I (i : Nat), I (j : Nat)] H1 fun v H2 => v = I (F i j) ∧ H2 = H1) :
    ACalls Try.prog 107 [I rr, I c, f] Hb fun r H1 => HSub H H1 ∧ ∃ k r', Pur (nw H H1) k r r' ∧ (IsTab r' T ∧ H = H) := by
  subst hT
  refine ACalls.mono (table_ok hc hr hf) ?_
  rintro r H1 ⟨h1, h2⟩
  obtain ⟨v', q1, q2⟩ := h1.pur (Hf := nw H H1) fun i hi => nw_above H H1 (by omega)
  exact ⟨hsub.trans h2.sub, 2, v', q1, q2, rfl⟩
/-- What was there is there. -/
theorem Fresh.get {H H1 : Heap} (h : Fresh H H1) {i g : Nat} {cs : List AVal} (hg : hget H i = some (g, cs)) : hget H1 i = some (g, cs) := h.sub i g cs hg
theorem hget_new' {H : Heap} {i g : Nat} {cs : List AVal} (g' : Nat) (ds : List AVal) (h : hget H i = some (g, cs)) : hget (hnew H g' ds) i = some (g, cs) := by
  rw [hget_old _ _ (hlt_of_get h)]; exact h

section
variable {t : List (List Int)} {v : AVal} {H : Heap}
theorem bit_ok {b : Bool} : ACalls Try.prog 130 [.bool b] H fun r H' => r = I (if b = true then 1 else 0) ∧ H' = H := by
  apply impl_bit.start
  unfold impl_bit.start_vc
  refine rBRKb (fun h => ?_) (fun h => ?_) <;> subst h <;> exact ⟨rfl, rfl⟩
theorem mirrored_ok (hv : IsTab v t) (hl : t.length ≤ 100000) (hs : isSquareB t = true) : ACalls Try.prog 91 [v] H fun r H' => IsTab r (mirF t) ∧ H' = H := by
  apply ACalls.pure
  apply impl_mirrored.start
  unfold impl_mirrored.start_vc
  refine rBOX hv.one fun g => ?_
  have h1 := hget_new H g [v]
  generalize hH1 : hnew H g [v] = H1 at h1 ⊢
  repeat' (first
 | (refine rLDp h1 ?_)
 | with_reducible first
 | refine rTT ?_
 | refine rRFL ?_
 | refine rLEN (by assumption) ?_
 | (refine rIXk (by assumption) (by assumption) ?_; intro p hp)
 | (refine rIX (by assumption) (by omega) (by omega) ?_; intro p a ha hp)
 | refine rLDi (by assumption) ?_
 | (refine rLD (by assumption) ?_; intro c hc)
 | refine rADD (by omega) ?_
 | refine rSUB (by omega) ?_
 | refine rLSS ?_
 | refine rLEQ ?_
 | refine rGTR ?_
 | refine rGEQ ?_
 | refine rEQL ?_
 | refine rNEQ ?_
 | refine rNOT ?_
 | (refine rBRK ?_ ?_ <;> intro hb)
 | (refine rBRKn ?_ ?_ <;> intro hb)
 | (refine rBRKnb ?_ ?_ <;> intro hb)
 | (refine rBRKb ?_ ?_ <;> intro hb)
 | (refine rSPL ?_ ?_ <;> intro hb)
 | (refine rSPLn ?_ ?_ <;> intro hb)
 | (refine rSPLnb ?_ ?_ <;> intro hb)
 | (refine rSPLb ?_ ?_ <;> intro hb)
 | (exfalso; omega))
  refine rBOX rfl fun g2 => ?_
  repeat' (with_reducible first
 | refine rTT ?_
 | refine rRFL ?_
 | refine rLEN (by assumption) ?_
 | (refine rIXk (by assumption) (by assumption) ?_; intro p hp)
 | (refine rIX (by assumption) (by omega) (by omega) ?_; intro p a ha hp)
 | refine rLDi (by assumption) ?_
 | (refine rLD (by assumption) ?_; intro c hc)
 | refine rADD (by omega) ?_
 | refine rSUB (by omega) ?_
 | refine rLSS ?_
 | refine rLEQ ?_
 | refine rGTR ?_
 | refine rGEQ ?_
 | refine rEQL ?_
 | refine rNEQ ?_
 | refine rNOT ?_
 | (refine rBRK ?_ ?_ <;> intro hb)
 | (refine rBRKn ?_ ?_ <;> intro hb)
 | (refine rBRKnb ?_ ?_ <;> intro hb)
 | (refine rBRKb ?_ ?_ <;> intro hb)
 | (refine rSPL ?_ ?_ <;> intro hb)
 | (refine rSPLn ?_ ?_ <;> intro hb)
 | (refine rSPLnb ?_ ?_ <;> intro hb)
 | (refine rSPLb ?_ ?_ <;> intro hb)
 | (exfalso; omega))
  refine rSTp (hget_new _ _ _) (by simp) rfl ?_
  rw [hset_new]
  have h2 := hget_new H1 g2 ([I 0].set 0 (I t.length))
  have h3 := hget_new' g2 ([I 0].set 0 (I t.length)) h1
  have hL : H1.length = H.length + 1 := by rw [← hH1, hlen_new]
  have hS : HSub H (hnew H1 g2 ([I 0].set 0 (I t.length))) := by rw [← hH1]; exact (hsub_new _ _ _).trans (hsub_new _ _ _)
  generalize hH2 : hnew H1 g2 ([I 0].set 0 (I t.length)) = H2 at h2 h3 hS ⊢
  have hL2 : H2.length = H.length + 2 := by rw [← hH2, hlen_new, hL]
  have h2 : hget H2 H1.length = some (g2, [I t.length]) := h2
  repeat' (first
 | (refine rLDp h2 ?_)
 | with_reducible first
 | refine rTT ?_
 | refine rRFL ?_
 | refine rLEN (by assumption) ?_
 | (refine rIXk (by assumption) (by assumption) ?_; intro p hp)
 | (refine rIX (by assumption) (by omega) (by omega) ?_; intro p a ha hp)
 | refine rLDi (by assumption) ?_
 | (refine rLD (by assumption) ?_; intro c hc)
 | refine rADD (by omega) ?_
 | refine rSUB (by omega) ?_
 | refine rLSS ?_
 | refine rLEQ ?_
 | refine rGTR ?_
 | refine rGEQ ?_
 | refine rEQL ?_
 | refine rNEQ ?_
 | refine rNOT ?_
 | (refine rBRK ?_ ?_ <;> intro hb)
 | (refine rBRKn ?_ ?_ <;> intro hb)
 | (refine rBRKnb ?_ ?_ <;> intro hb)
 | (refine rBRKb ?_ ?_ <;> intro hb)
 | (refine rSPL ?_ ?_ <;> intro hb)
 | (refine rSPLn ?_ ?_ <;> intro hb)
 | (refine rSPLnb ?_ ?_ <;> intro hb)
 | (refine rSPLb ?_ ?_ <;> intro hb)
 | (exfalso; omega))
  refine table_pure (F := fun i j => getM t i (t.length - 1 - j)) rfl hS (by omega) (by omega) (by omega) (fun i j hi hj H3 hF => rCALL ?_)
  show ACalls Try.prog 131 [I i, I j, .ptr H.length g 0, .ptr H1.length g2 0] _ _
  obtain ⟨r, hr⟩ := ex_get (l := t) (k := i) hi
  have hrl := sq_len hs (getElem_mem' hr)
  apply impl_mirrored_1.start
  unfold impl_mirrored_1.start_vc
  repeat' (first
 | (refine rLDp (hF.get h3) ?_)
 | (refine rLDp (hF.get h2) ?_)
 | with_reducible first
 | refine rTT ?_
 | refine rRFL ?_
 | refine rLEN (by assumption) ?_
 | (refine rIXk (by assumption) (by assumption) ?_; intro p hp)
 | (refine rIX (by assumption) (by omega) (by omega) ?_; intro p a ha hp)
 | refine rLDi (by assumption) ?_
 | (refine rLD (by assumption) ?_; intro c hc)
 | refine rADD (by omega) ?_
 | refine rSUB (by omega) ?_
 | refine rLSS ?_
 | refine rLEQ ?_
 | refine rGTR ?_
 | refine rGEQ ?_
 | refine rEQL ?_
 | refine rNEQ ?_
 | refine rNOT ?_
 | (refine rBRK ?_ ?_ <;> intro hb)
 | (refine rBRKn ?_ ?_ <;> intro hb)
 | (refine rBRKnb ?_ ?_ <;> intro hb)
 | (refine rBRKb ?_ ?_ <;> intro hb)
 | (refine rSPL ?_ ?_ <;> intro hb)
 | (refine rSPLn ?_ ?_ <;> intro hb)
 | (refine rSPLnb ?_ ?_ <;> intro hb)
 | (refine rSPLb ?_ ?_ <;> intro hb)
 | (exfalso; omega))
  refine ⟨?_, rfl⟩
  rw [show ((t.length : Int) - 1 - j).toNat = t.length - 1 - j by omega] at ha
  simp [getM, List.getD, hr, ha]
theorem least_ok {n : Nat} (hn : n ≤ 100000) : ACalls Try.prog 90 [I n] H fun r H' => IsTab r (leastF n) ∧ H' = H := by
  apply ACalls.pure
  apply impl_least.start
  unfold impl_least.start_vc
  refine table_pure (F := fun i j => if i = j then 1 else 0) rfl (HSub.refl H) (Nat.le_refl _) (by omega) (by omega) (fun i j hi hj H3 hF => rCALL ?_)
  show ACalls Try.prog 129 [I i, I j] _ _
  apply impl_least_1.start
  unfold impl_least_1.start_vc
  repeat' (with_reducible first
 | refine rTT ?_
 | (refine ACalls.mono (bit_ok) ?_; rintro r H' ⟨rfl, rfl⟩)
 | refine rRFL ?_
 | refine rLEN (by assumption) ?_
 | (refine rIXk (by assumption) (by assumption) ?_; intro p hp)
 | (refine rIX (by assumption) (by omega) (by omega) ?_; intro p a ha hp)
 | refine rLDi (by assumption) ?_
 | (refine rLD (by assumption) ?_; intro c hc)
 | refine rADD (by omega) ?_
 | refine rSUB (by omega) ?_
 | refine rLSS ?_
 | refine rLEQ ?_
 | refine rGTR ?_
 | refine rGEQ ?_
 | refine rEQL ?_
 | refine rNEQ ?_
 | refine rNOT ?_
 | (refine rBRK ?_ ?_ <;> intro hb)
 | (refine rBRKn ?_ ?_ <;> intro hb)
 | (refine rBRKnb ?_ ?_ <;> intro hb)
 | (refine rBRKb ?_ ?_ <;> intro hb)
 | (refine rSPL ?_ ?_ <;> intro hb)
 | (refine rSPLn ?_ ?_ <;> intro hb)
 | (refine rSPLnb ?_ ?_ <;> intro hb)
 | (refine rSPLb ?_ ?_ <;> intro hb)
 | (exfalso; omega))
  refine ⟨?_, rfl⟩
  congr 1
  simp only [decide_eq_true_eq]
  split <;> split <;> omega
theorem leastSigns_ok {n : Int} : ACalls Try.prog 33 [I n] H fun r H' => TabOk (decide (1 ≤ n ∧ n ≤ 6)) (leastF n.toNat) r ∧ H' = H := by
  apply impl_LeastSigns.start
  unfold impl_LeastSigns.start_vc
  repeat' (with_reducible first
 | refine rTT ?_
 | (refine ACalls.mono (isSide_ok) ?_; rintro r H' ⟨rfl, rfl⟩)
 | refine rRFL ?_
 | refine rLEN (by assumption) ?_
 | (refine rIXk (by assumption) (by assumption) ?_; intro p hp)
 | (refine rIX (by assumption) (by omega) (by omega) ?_; intro p a ha hp)
 | refine rLDi (by assumption) ?_
 | (refine rLD (by assumption) ?_; intro c hc)
 | refine rADD (by omega) ?_
 | refine rSUB (by omega) ?_
 | refine rLSS ?_
 | refine rLEQ ?_
 | refine rGTR ?_
 | refine rGEQ ?_
 | refine rEQL ?_
 | refine rNEQ ?_
 | refine rNOT ?_
 | (refine rBRK ?_ ?_ <;> intro hb)
 | (refine rBRKn ?_ ?_ <;> intro hb)
 | (refine rBRKnb ?_ ?_ <;> intro hb)
 | (refine rBRKb ?_ ?_ <;> intro hb)
 | (refine rSPL ?_ ?_ <;> intro hb)
 | (refine rSPLn ?_ ?_ <;> intro hb)
 | (refine rSPLnb ?_ ?_ <;> intro hb)
 | (refine rSPLb ?_ ?_ <;> intro hb)
 | (exfalso; omega))
  · rw [decide_eq_false hb]; exact ⟨tabOk_no, rfl⟩
  · have e : n = (n.toNat : Int) := by omega
    rw [e, Int.toNat_natCast]
    refine ACalls.mono (least_ok (by omega)) ?_
    rintro r H1 ⟨h1, rfl⟩
    rw [decide_eq_true (by omega)]
    exact ⟨⟨_, rfl, h1⟩, rfl⟩
theorem leastF_sq (n : Nat) : isSquareB (leastF n) = true := by
  simp only [isSquareB, List.all_eq_true, decide_eq_true_eq, leastF, tabT_len]
  exact tabT_sq
theorem greatestSigns_ok {n : Int} : ACalls Try.prog 34 [I n] H fun r H' => TabOk (decide (1 ≤ n ∧ n ≤ 6)) (mirF (leastF n.toNat)) r ∧ H' = H := by
  apply impl_GreatestSigns.start
  unfold impl_GreatestSigns.start_vc
  repeat' (with_reducible first
 | refine rTT ?_
 | (refine ACalls.mono (isSide_ok) ?_; rintro r H' ⟨rfl, rfl⟩)
 | refine rRFL ?_
 | refine rLEN (by assumption) ?_
 | (refine rIXk (by assumption) (by assumption) ?_; intro p hp)
 | (refine rIX (by assumption) (by omega) (by omega) ?_; intro p a ha hp)
 | refine rLDi (by assumption) ?_
 | (refine rLD (by assumption) ?_; intro c hc)
 | refine rADD (by omega) ?_
 | refine rSUB (by omega) ?_
 | refine rLSS ?_
 | refine rLEQ ?_
 | refine rGTR ?_
 | refine rGEQ ?_
 | refine rEQL ?_
 | refine rNEQ ?_
 | refine rNOT ?_
 | (refine rBRK ?_ ?_ <;> intro hb)
 | (refine rBRKn ?_ ?_ <;> intro hb)
 | (refine rBRKnb ?_ ?_ <;> intro hb)
 | (refine rBRKb ?_ ?_ <;> intro hb)
 | (refine rSPL ?_ ?_ <;> intro hb)
 | (refine rSPLn ?_ ?_ <;> intro hb)
 | (refine rSPLnb ?_ ?_ <;> intro hb)
 | (refine rSPLb ?_ ?_ <;> intro hb)
 | (exfalso; omega))
  · rw [decide_eq_false hb]; exact ⟨tabOk_no, rfl⟩
  · have e : n = (n.toNat : Int) := by omega
    rw [e, Int.toNat_natCast]
    refine ACalls.mono (least_ok (by omega)) ?_
    rintro r H1 ⟨h1, rfl⟩
    refine ACalls.mono (mirrored_ok h1 (by rw [leastF, tabT_len]; omega) (leastF_sq _)) ?_
    rintro r2 H1 ⟨h2, rfl⟩
    rw [decide_eq_true (by omega)]
    exact ⟨⟨_, rfl, h2⟩, rfl⟩
theorem mirrorMatrix_ok (hv : IsTab v t) (hl : t.length ≤ 100000) : ACalls Try.prog 89 [v] H fun r H' => TabOk (goodB t) (mirF t) r ∧ H' = H := by
  apply impl_MirrorMatrix.start
  unfold impl_MirrorMatrix.start_vc
  apply impl_changed.start
  unfold impl_changed.start_vc
  refine ACalls.mono (isSign_ok hv (by omega)) ?_
  rintro r H1 ⟨rfl, rfl⟩
  repeat' (with_reducible first
 | refine rTT ?_
 | refine rRFL ?_
 | refine rLEN (by assumption) ?_
 | (refine rIXk (by assumption) (by assumption) ?_; intro p hp)
 | (refine rIX (by assumption) (by omega) (by omega) ?_; intro p a ha hp)
 | refine rLDi (by assumption) ?_
 | (refine rLD (by assumption) ?_; intro c hc)
 | refine rADD (by omega) ?_
 | refine rSUB (by omega) ?_
 | refine rLSS ?_
 | refine rLEQ ?_
 | refine rGTR ?_
 | refine rGEQ ?_
 | refine rEQL ?_
 | refine rNEQ ?_
 | refine rNOT ?_
 | (refine rBRK ?_ ?_ <;> intro hb)
 | (refine rBRKn ?_ ?_ <;> intro hb)
 | (refine rBRKnb ?_ ?_ <;> intro hb)
 | (refine rBRKb ?_ ?_ <;> intro hb)
 | (refine rSPL ?_ ?_ <;> intro hb)
 | (refine rSPLn ?_ ?_ <;> intro hb)
 | (refine rSPLnb ?_ ?_ <;> intro hb)
 | (refine rSPLb ?_ ?_ <;> intro hb)
 | (exfalso; omega))
  · exact ⟨_, rfl, _, rfl, by rw [hb]; exact tabOk_no, rfl⟩
  · refine rCALL ?_
    refine ACalls.mono (mirrored_ok hv hl (goodB_sq hb)) ?_
    rintro r H2 ⟨h1, rfl⟩
    exact ⟨_, rfl, _, rfl, by rw [hb]; exact ⟨_, rfl, h1⟩, rfl⟩
theorem dualOf_ok (hv : IsTab v t) (hl : t.length ≤ 100000) : ACalls Try.prog 32 [v] H fun r H' => TabOk (goodB t) (mirF t) r ∧ H' = H := by
  apply impl_DualOf.start
  unfold impl_DualOf.start_vc
  refine ACalls.mono (mirrorMatrix_ok hv hl) ?_
  rintro r H1 ⟨⟨h, rfl, h1⟩, rfl⟩
  exact ⟨_, rfl, _, rfl, ⟨_, rfl, h1⟩, rfl⟩
end

end Go.Proofs.Ytccioplhchmilaa.AL
