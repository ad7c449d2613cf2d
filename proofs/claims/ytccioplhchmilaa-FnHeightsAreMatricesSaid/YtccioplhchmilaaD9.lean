/-
  Contracts: tables of heights, as the reference tells them.
-/
import Derived.Test.YtccioplhchmilaaD8
set_option linter.unusedVariables false
set_option maxRecDepth 100000
namespace Go.Proofs.Ytccioplhchmilaa.AL
open Go Go.Proofs

/-! spec.heSame (slots: 0 a, 1 b, 2 a, 3 b, 5 i, 6 row) -/
namespace spec_heSame
def lv : List (Nat × List Nat) := [(4, [1, 12, 13, 14])]
noncomputable def K4 : List KF := [.lp (cB (cB (cR (cL (cR (cR (bodyOf Try.f97))))))), .bl 0, .sq (cR (cR (cR (bodyOf Try.f97))))]
def L4 (Q : AVal → Heap → Prop) (v1 v12 v13 v14 : AVal) (H : Heap) : Prop := At Try.prog 97 27 K4 Q (slotsOf [(1, v1), (12, v12), (13, v13), (14, v14)]) H
theorem L4_frz {Q : AVal → Heap → Prop} {v1 v12 v13 v14 w1 w12 w13 w14 : AVal} {H Hf Hk : Heap} {k : Nat} (hs : Split H Hf Hk) (hp : PurL Hf k [(1, v1, w1), (12, v12, w12), (13, v13, w13), (14, v14, w14)]) (h : L4 Q w1 w12 w13 w14 Hk) : L4 Q v1 v12 v13 v14 H := at_frz (ks := K4) hs hp h
def start_vc (Q : AVal → Heap → Prop) (a0 a1 : AVal) (H : Heap) : Prop :=
LENK a0 fun x1 =>
LENK a1 fun x2 =>
BINK .neq x1 x2 fun x3 =>
BRK x3 (Q (AVal.bool false) H) (LENK a0 fun x4 =>
spec_heSame.L4 Q a1 a0 x4 (AVal.int .i64 0) H)
theorem start_eq (Q : AVal → Heap → Prop) (a0 a1 : AVal) (H : Heap) : vs Try.prog lv 97 27 Try.f97.results.toList Q true 1000 [.sq (bodyOf Try.f97)] (entry [a0, a1]) H = start_vc Q a0 a1 H := by kernel_rfl
theorem start {Q : AVal → Heap → Prop} {a0 a1 : AVal} {H : Heap} (h : start_vc Q a0 a1 H) : ACalls Try.prog 97 [a0, a1] H Q := acalls_vs (lv := lv) mixed Try.func97 rfl (by kernel_rfl) (by kernel_rfl) (start_eq Q a0 a1 H ▸ h)
def step4_vc (Q : AVal → Heap → Prop) (v1 v12 v13 v14 : AVal) (H : Heap) : Prop :=
BINK .lss v14 v13 fun x1 =>
BRK x1 (TT ∧ IXK 1 v12 v14 fun x2 =>
TT ∧ TT ∧ LDK false 1 H x2 fun x3 =>
TT ∧ IXK 1 v1 v14 fun x4 =>
TT ∧ TT ∧ LDK false 1 H x4 fun x5 =>
ACalls Try.prog 133 [x3, x5] H fun x6 H7 =>
NOTK x6 fun x8 =>
BRK x8 (Q (AVal.bool false) H7) (BINK .add v14 (AVal.int .i64 1) fun x9 =>
spec_heSame.L4 Q v1 v12 v13 x9 H7)) (Q (AVal.bool true) H)
theorem step4_eq (Q : AVal → Heap → Prop) (v1 v12 v13 v14 : AVal) (H : Heap) : vs Try.prog lv 97 27 Try.f97.results.toList Q true 1000 (.sq (cB (cB (cR (cL (cR (cR (bodyOf Try.f97))))))) :: K4) (slotsOf [(1, v1), (12, v12), (13, v13), (14, v14)]) H = step4_vc Q v1 v12 v13 v14 H := by kernel_rfl
theorem step4 {Q : AVal → Heap → Prop} {v1 v12 v13 v14 : AVal} {H : Heap} (h : step4_vc Q v1 v12 v13 v14 H) : L4 Q v1 v12 v13 v14 H := at_lp_vs (lv := lv) (ks := K4.tail) mixed Try.func97 (step4_eq Q v1 v12 v13 v14 H ▸ h)
end spec_heSame

/-! spec.heGood (slots: 0 h, 1 h, 3 _, 4 row, 5 m) -/
namespace spec_heGood
def lv : List (Nat × List Nat) := [(4, [0, 10, 11, 12])]
noncomputable def K4 : List KF := [.lp (cB (cB (cR (cL (cR (cR (bodyOf Try.f84))))))), .bl 0, .sq (cR (cR (cR (bodyOf Try.f84))))]
def L4 (Q : AVal → Heap → Prop) (v0 v10 v11 v12 : AVal) (H : Heap) : Prop := At Try.prog 84 37 K4 Q (slotsOf [(0, v0), (10, v10), (11, v11), (12, v12)]) H
theorem L4_frz {Q : AVal → Heap → Prop} {v0 v10 v11 v12 w0 w10 w11 w12 : AVal} {H Hf Hk : Heap} {k : Nat} (hs : Split H Hf Hk) (hp : PurL Hf k [(0, v0, w0), (10, v10, w10), (11, v11, w11), (12, v12, w12)]) (h : L4 Q w0 w10 w11 w12 Hk) : L4 Q v0 v10 v11 v12 H := at_frz (ks := K4) hs hp h
def start_vc (Q : AVal → Heap → Prop) (a0 : AVal) (H : Heap) : Prop :=
LENK a0 fun x1 =>
ACalls Try.prog 54 [x1, (AVal.int .i64 2), (AVal.int .i64 7)] H fun x2 H3 =>
NOTK x2 fun x4 =>
BRK x4 (Q (AVal.bool false) H3) (LENK a0 fun x5 =>
spec_heGood.L4 Q a0 a0 x5 (AVal.int .i64 0) H3)
theorem start_eq (Q : AVal → Heap → Prop) (a0 : AVal) (H : Heap) : vs Try.prog lv 84 37 Try.f84.results.toList Q true 1000 [.sq (bodyOf Try.f84)] (entry [a0]) H = start_vc Q a0 H := by kernel_rfl
theorem start {Q : AVal → Heap → Prop} {a0 : AVal} {H : Heap} (h : start_vc Q a0 H) : ACalls Try.prog 84 [a0] H Q := acalls_vs (lv := lv) mixed Try.func84 rfl (by kernel_rfl) (by kernel_rfl) (start_eq Q a0 H ▸ h)
def step4_vc (Q : AVal → Heap → Prop) (v0 v10 v11 v12 : AVal) (H : Heap) : Prop :=
BINK .lss v12 v11 fun x1 =>
BRK x1 (TT ∧ IXK 1 v10 v12 fun x2 =>
TT ∧ TT ∧ LDK false 1 H x2 fun x3 =>
LENK x3 fun x4 =>
LENK v0 fun x5 =>
BINK .neq x4 x5 fun x6 =>
SPL x6 (Q (AVal.bool false) H) (ACalls Try.prog 116 [x3, (AVal.int .i64 0), (AVal.int .i64 6)] H fun x7 H8 =>
NOTK x7 fun x9 =>
BRK x9 (Q (AVal.bool false) H8) (BINK .add v12 (AVal.int .i64 1) fun x10 =>
spec_heGood.L4 Q v0 v10 v11 x10 H8))) (ACalls Try.prog 74 [v0] H fun x11 H12 =>
ACalls Try.prog 53 [x11] H12 fun x13 H14 =>
SPL x13 (ACalls Try.prog 61 [x11] H14 fun x15 H16 =>
ACalls Try.prog 97 [x15, v0] H16 fun x17 H18 =>
Q x17 H18) (Q (AVal.bool false) H14))
theorem step4_eq (Q : AVal → Heap → Prop) (v0 v10 v11 v12 : AVal) (H : Heap) : vs Try.prog lv 84 37 Try.f84.results.toList Q true 1000 (.sq (cB (cB (cR (cL (cR (cR (bodyOf Try.f84))))))) :: K4) (slotsOf [(0, v0), (10, v10), (11, v11), (12, v12)]) H = step4_vc Q v0 v10 v11 v12 H := by kernel_rfl
theorem step4 {Q : AVal → Heap → Prop} {v0 v10 v11 v12 : AVal} {H : Heap} (h : step4_vc Q v0 v10 v11 v12 H) : L4 Q v0 v10 v11 v12 H := at_lp_vs (lv := lv) (ks := K4.tail) mixed Try.func84 (step4_eq Q v0 v10 v11 v12 H ▸ h)
end spec_heGood

/-! spec.FromHeights (slots: 0 h, 1 h) -/
namespace spec_FromHeights
def lv : List (Nat × List Nat) := []
def start_vc (Q : AVal → Heap → Prop) (a0 : AVal) (H : Heap) : Prop :=
ACalls Try.prog 84 [a0] H fun x1 H2 =>
NOTK x1 fun x3 =>
BRK x3 (Q (AVal.tup [AVal.nilS, (AVal.bool false)]) H2) (ACalls Try.prog 74 [a0] H2 fun x4 H5 =>
Q (AVal.tup [x4, (AVal.bool true)]) H5)
theorem start_eq (Q : AVal → Heap → Prop) (a0 : AVal) (H : Heap) : vs Try.prog lv 27 9 Try.f27.results.toList Q true 1000 [.sq (bodyOf Try.f27)] (entry [a0]) H = start_vc Q a0 H := by kernel_rfl
theorem start {Q : AVal → Heap → Prop} {a0 : AVal} {H : Heap} (h : start_vc Q a0 H) : ACalls Try.prog 27 [a0] H Q := acalls_vs (lv := lv) mixed Try.func27 rfl (by kernel_rfl) (by kernel_rfl) (start_eq Q a0 H ▸ h)
end spec_FromHeights

/-! spec.AreHeights (slots: 0 h, 1 h) -/
namespace spec_AreHeights
def lv : List (Nat × List Nat) := []
def start_vc (Q : AVal → Heap → Prop) (a0 : AVal) (H : Heap) : Prop :=
ACalls Try.prog 84 [a0] H fun x1 H2 =>
Q x1 H2
theorem start_eq (Q : AVal → Heap → Prop) (a0 : AVal) (H : Heap) : vs Try.prog lv 28 5 Try.f28.results.toList Q true 1000 [.sq (bodyOf Try.f28)] (entry [a0]) H = start_vc Q a0 H := by kernel_rfl
theorem start {Q : AVal → Heap → Prop} {a0 : AVal} {H : Heap} (h : start_vc Q a0 H) : ACalls Try.prog 28 [a0] H Q := acalls_vs (lv := lv) mixed Try.func28 rfl (by kernel_rfl) (by kernel_rfl) (start_eq Q a0 H ▸ h)
end spec_AreHeights


theorem heSame_loop {a b : List (List Int)} {v u : AVal} (hv : IsTab v a) (hu : IsTab u b) (hl : a.length ≤ 1000000) (hr : ∀ r ∈ a, r.length ≤ 1000000) (he : a.length = b.length) {H : Heap} {Q : AVal → Heap → Prop} : ∀ (n k : Nat), k + n = a.length → Q (.bool (decide (a.drop k = b.drop k))) H →
    spec_heSame.L4 Q u v (I a.length) (I k) H := by
  intro n
  induction n with
  | zero =>
    intro k hk hq
    apply spec_heSame.step4
    unfold spec_heSame.step4_vc
    repeat' (first
    | with_reducible refine rTT ?_
    | with_reducible refine rRFL ?_
    | with_reducible refine rLEN (by assumption) ?_
    | (with_reducible refine rIXk (by assumption) (by assumption) ?_; intro p hp)
    | (with_reducible refine rIX (by assumption) (by omega) (by omega) ?_; intro p a ha hp)
    | with_reducible refine rLDi (by assumption) ?_
    | (with_reducible refine rLD (by assumption) ?_; intro c hc)
    | with_reducible refine rADD (by omega) ?_
    | with_reducible refine rSUB (by omega) ?_
    | with_reducible refine rLSS ?_
    | with_reducible refine rLEQ ?_
    | with_reducible refine rGTR ?_
    | with_reducible refine rGEQ ?_
    | with_reducible refine rEQL ?_
    | with_reducible refine rNEQ ?_
    | with_reducible refine rNOT ?_
    | (with_reducible refine rBRK ?_ ?_ <;> intro hb)
    | (with_reducible refine rBRKn ?_ ?_ <;> intro hb)
    | (with_reducible refine rBRKnb ?_ ?_ <;> intro hb)
    | (with_reducible refine rBRKb ?_ ?_ <;> intro hb)
    | (with_reducible refine rSPL ?_ ?_ <;> intro hb)
    | (with_reducible refine rSPLn ?_ ?_ <;> intro hb)
    | (with_reducible refine rSPLnb ?_ ?_ <;> intro hb)
    | (with_reducible refine rSPLb ?_ ?_ <;> intro hb)
    | (exfalso; omega))
    rw [List.drop_eq_nil_of_le (by omega), List.drop_eq_nil_of_le (by omega)] at hq
    exact hq
  | succ n ih =>
    intro k hk hq
    obtain ⟨a1, ha1⟩ := ex_get (l := a) (k := k) (by omega)
    obtain ⟨b1, hb1⟩ := ex_get (l := b) (k := k) (by omega)
    apply spec_heSame.step4
    unfold spec_heSame.step4_vc
    repeat' (first
    | with_reducible refine rTT ?_
    | with_reducible refine rRFL ?_
    | with_reducible refine rLEN (by assumption) ?_
    | (with_reducible refine rIXk (by assumption) (by assumption) ?_; intro p hp)
    | (with_reducible refine rIX (by assumption) (by omega) (by omega) ?_; intro p a ha hp)
    | with_reducible refine rLDi (by assumption) ?_
    | (with_reducible refine rLD (by assumption) ?_; intro c hc)
    | with_reducible refine rADD (by omega) ?_
    | with_reducible refine rSUB (by omega) ?_
    | with_reducible refine rLSS ?_
    | with_reducible refine rLEQ ?_
    | with_reducible refine rGTR ?_
    | with_reducible refine rGEQ ?_
    | with_reducible refine rEQL ?_
    | with_reducible refine rNEQ ?_
    | with_reducible refine rNOT ?_
    | (with_reducible refine rBRK ?_ ?_ <;> intro hb)
    | (with_reducible refine rBRKn ?_ ?_ <;> intro hb)
    | (with_reducible refine rBRKnb ?_ ?_ <;> intro hb)
    | (with_reducible refine rBRKb ?_ ?_ <;> intro hb)
    | (with_reducible refine rSPL ?_ ?_ <;> intro hb)
    | (with_reducible refine rSPLn ?_ ?_ <;> intro hb)
    | (with_reducible refine rSPLnb ?_ ?_ <;> intro hb)
    | (with_reducible refine rSPLb ?_ ?_ <;> intro hb)
    | (exfalso; omega))
    rw [drop_some ha1, drop_some hb1] at hq
    refine ACalls.mono (l1Same_ok (by assumption) (by assumption) (hr _ (List.mem_of_getElem? ha1))) ?_
    rintro r H' ⟨rfl, rfl⟩
    repeat' (first
    | with_reducible refine rTT ?_
    | with_reducible refine rRFL ?_
    | with_reducible refine rLEN (by assumption) ?_
    | (with_reducible refine rIXk (by assumption) (by assumption) ?_; intro p hp)
    | (with_reducible refine rIX (by assumption) (by omega) (by omega) ?_; intro p a ha hp)
    | with_reducible refine rLDi (by assumption) ?_
    | (with_reducible refine rLD (by assumption) ?_; intro c hc)
    | with_reducible refine rADD (by omega) ?_
    | with_reducible refine rSUB (by omega) ?_
    | with_reducible refine rLSS ?_
    | with_reducible refine rLEQ ?_
    | with_reducible refine rGTR ?_
    | with_reducible refine rGEQ ?_
    | with_reducible refine rEQL ?_
    | with_reducible refine rNEQ ?_
    | with_reducible refine rNOT ?_
    | (with_reducible refine rBRK ?_ ?_ <;> intro hb)
    | (with_reducible refine rBRKn ?_ ?_ <;> intro hb)
    | (with_reducible refine rBRKnb ?_ ?_ <;> intro hb)
    | (with_reducible refine rBRKb ?_ ?_ <;> intro hb)
    | (with_reducible refine rSPL ?_ ?_ <;> intro hb)
    | (with_reducible refine rSPLn ?_ ?_ <;> intro hb)
    | (with_reducible refine rSPLnb ?_ ?_ <;> intro hb)
    | (with_reducible refine rSPLb ?_ ?_ <;> intro hb)
    | (exfalso; omega))
    · rw [decide_eq_false (by simp; intro h; exact absurd h hb)] at hq
      exact hq
    · refine ih (k + 1) (by omega) ?_
      simpa [hb] using hq
theorem heSame_ok {a b : List (List Int)} {v u : AVal} (hv : IsTab v a) (hu : IsTab u b) (hl : a.length ≤ 1000000) (hr : ∀ r ∈ a, r.length ≤ 1000000) {H : Heap} : ACalls Try.prog 97 [v, u] H fun r H' => r = .bool (decide (a = b)) ∧ H' = H := by
  apply spec_heSame.start
  unfold spec_heSame.start_vc
  repeat' (first
    | with_reducible refine rTT ?_
    | with_reducible refine rRFL ?_
    | with_reducible refine rLEN (by assumption) ?_
    | (with_reducible refine rIXk (by assumption) (by assumption) ?_; intro p hp)
    | (with_reducible refine rIX (by assumption) (by omega) (by omega) ?_; intro p a ha hp)
    | with_reducible refine rLDi (by assumption) ?_
    | (with_reducible refine rLD (by assumption) ?_; intro c hc)
    | with_reducible refine rADD (by omega) ?_
    | with_reducible refine rSUB (by omega) ?_
    | with_reducible refine rLSS ?_
    | with_reducible refine rLEQ ?_
    | with_reducible refine rGTR ?_
    | with_reducible refine rGEQ ?_
    | with_reducible refine rEQL ?_
    | with_reducible refine rNEQ ?_
    | with_reducible refine rNOT ?_
    | (with_reducible refine rBRK ?_ ?_ <;> intro hb)
    | (with_reducible refine rBRKn ?_ ?_ <;> intro hb)
    | (with_reducible refine rBRKnb ?_ ?_ <;> intro hb)
    | (with_reducible refine rBRKb ?_ ?_ <;> intro hb)
    | (with_reducible refine rSPL ?_ ?_ <;> intro hb)
    | (with_reducible refine rSPLn ?_ ?_ <;> intro hb)
    | (with_reducible refine rSPLnb ?_ ?_ <;> intro hb)
    | (with_reducible refine rSPLb ?_ ?_ <;> intro hb)
    | (exfalso; omega))
  · exact ⟨by rw [decide_eq_false (fun h => by rw [h] at hb; exact hb rfl)], rfl⟩
  · exact heSame_loop hv hu hl hr (by omega) a.length 0 (by omega) ⟨rfl, rfl⟩

/-- The matrix of heights, by the reference. -/
def heFromF (t : List (List Int)) : List (List Int) := fromT (tabT (t.length - 1) (t.length - 1) (heCorn t))
def heRest (t : List (List Int)) : Bool := goodB (heFromF t) && decide (heightsF (heFromF t) = t)
def heRowB (n : Nat) (r : List Int) : Bool := decide (r.length = n) && r.all fun x => decide (0 ≤ x ∧ x ≤ 6)
def heGoodB (t : List (List Int)) : Bool := decide (2 ≤ t.length ∧ t.length ≤ 7) && (t.all (heRowB t.length) && heRest t)
theorem heRest_ok {t : List (List Int)} {v : AVal} (hv : IsTab v t) (h2 : 2 ≤ t.length) (h7 : t.length ≤ 7) (hs : isSquareB t = true) {H : Heap} {Q : AVal → Heap → Prop} (hq : Q (.bool (heRest t)) H) :
    ACalls Try.prog 74 [v] H fun x11 H12 => ACalls Try.prog 53 [x11] H12 fun x13 H14 =>
      SPL x13 (ACalls Try.prog 61 [x11] H14 fun x15 H16 => ACalls Try.prog 97 [x15, v] H16 fun x17 H18 => Q x17 H18) (Q (AVal.bool false) H14) := by
  refine ACalls.mono (heFrom_ok (n := t.length - 1) hv (by omega) hs (by omega) (by omega)) ?_
  rintro x11 H1 ⟨h11, rfl⟩
  have hlen : (heFromF t).length = t.length - 1 := by simp [heFromF, fromT_len, tabT]
  have hsq : isSquareB (heFromF t) = true := fromT_sq _
  have h11 : IsTab x11 (heFromF t) := h11
  refine ACalls.mono (sgGood_ok h11 (by omega) (fun r hr => by rw [sq_len hsq hr]; omega)) ?_
  rintro r H2 ⟨rfl, rfl⟩
  unfold heRest at hq
  refine rSPLb (fun hb => ?_) (fun hb => ?_)
  · refine ACalls.mono (heOf_ok h11 (by omega) hsq) ?_
    rintro x15 H3 ⟨h15, rfl⟩
    rw [heights_eq (by omega)] at h15
    have hl15 : (heightsF (heFromF t)).length = (heFromF t).length + 1 := by simp [heightsF, tabT]
    refine ACalls.mono (heSame_ok h15 hv (by omega) ?_) ?_
    · intro x hx
      simp only [heightsF, tabT, List.mem_map] at hx
      obtain ⟨i, _, rfl⟩ := hx
      simp [tabRow]; omega
    · rintro r H4 ⟨rfl, rfl⟩
      rw [hb] at hq; exact hq
  · rw [hb] at hq; exact hq

end Go.Proofs.Ytccioplhchmilaa.AL
