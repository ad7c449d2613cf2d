/-
  Contracts: comparing heights.
-/
import Derived.Test.YtccioplhchmilaaE1
set_option linter.unusedVariables false
set_option maxRecDepth 100000
namespace Go.Proofs.Ytccioplhchmilaa.AL
open Go Go.Proofs

/-! impl.arePair (slots: 0 m, 1 k, 2 m, 3 k) -/
namespace impl_arePair
def lv : List (Nat × List Nat) := []
def start_vc (Q : AVal → Heap → Prop) (a0 a1 : AVal) (H : Heap) : Prop :=
ACalls Try.prog 40 [a0] H fun x1 H2 =>
SPL x1 (ACalls Try.prog 40 [a1] H2 fun x3 H4 =>
SPL x3 (LENK a0 fun x5 =>
LENK a1 fun x6 =>
BINK .eql x5 x6 fun x7 =>
Q x7 H4) (Q (AVal.bool false) H4)) (Q (AVal.bool false) H2)
theorem start_eq (Q : AVal → Heap → Prop) (a0 a1 : AVal) (H : Heap) : vs Try.prog lv 64 18 Try.f64.results.toList Q true 1000 [.sq (bodyOf Try.f64)] (entry [a0, a1]) H = start_vc Q a0 a1 H := by kernel_rfl
theorem start {Q : AVal → Heap → Prop} {a0 a1 : AVal} {H : Heap} (h : start_vc Q a0 a1 H) : ACalls Try.prog 64 [a0, a1] H Q := acalls_vs (lv := lv) mixed Try.func64 rfl (by kernel_rfl) (by kernel_rfl) (start_eq Q a0 a1 H ▸ h)
end impl_arePair

/-! impl.isBelow (slots: 0 m, 1 k, 2 m, 3 k, 5 a, 6 b, 7 i, 8 row, 9 j, 10 n) -/
namespace impl_isBelow
def lv : List (Nat × List Nat) := [(3, [6, 15, 16, 17]), (6, [6, 7, 15, 16, 17, 22, 23, 24])]
noncomputable def K3 : List KF := [.lp (cB (cB (cR (cL (cR (cR (bodyOf Try.f86))))))), .bl 0, .sq (cR (cR (cR (bodyOf Try.f86))))]
def L3 (Q : AVal → Heap → Prop) (v6 v15 v16 v17 : AVal) (H : Heap) : Prop := At Try.prog 86 40 K3 Q (slotsOf [(6, v6), (15, v15), (16, v16), (17, v17)]) H
theorem L3_frz {Q : AVal → Heap → Prop} {v6 v15 v16 v17 w6 w15 w16 w17 : AVal} {H Hf Hk : Heap} {k : Nat} (hs : Split H Hf Hk) (hp : PurL Hf k [(6, v6, w6), (15, v15, w15), (16, v16, w16), (17, v17, w17)]) (h : L3 Q w6 w15 w16 w17 Hk) : L3 Q v6 v15 v16 v17 H := at_frz (ks := K3) hs hp h
noncomputable def K6 : List KF := [.lp (cB (cB (cR (cR (cB (cL (cR (cR (cB (cB (cR (cL (cR (cR (bodyOf Try.f86))))))))))))))), .bl 2, .bl 1, .sq (cR (cR (cR (cB (cB (cR (cL (cR (cR (bodyOf Try.f86)))))))))), .lp (cB (cB (cR (cL (cR (cR (bodyOf Try.f86))))))), .bl 0, .sq (cR (cR (cR (bodyOf Try.f86))))]
def L6 (Q : AVal → Heap → Prop) (v6 v7 v15 v16 v17 v22 v23 v24 : AVal) (H : Heap) : Prop := At Try.prog 86 40 K6 Q (slotsOf [(6, v6), (7, v7), (15, v15), (16, v16), (17, v17), (22, v22), (23, v23), (24, v24)]) H
theorem L6_frz {Q : AVal → Heap → Prop} {v6 v7 v15 v16 v17 v22 v23 v24 w6 w7 w15 w16 w17 w22 w23 w24 : AVal} {H Hf Hk : Heap} {k : Nat} (hs : Split H Hf Hk) (hp : PurL Hf k [(6, v6, w6), (7, v7, w7), (15, v15, w15), (16, v16, w16), (17, v17, w17), (22, v22, w22), (23, v23, w23), (24, v24, w24)]) (h : L6 Q w6 w7 w15 w16 w17 w22 w23 w24 Hk) : L6 Q v6 v7 v15 v16 v17 v22 v23 v24 H := at_frz (ks := K6) hs hp h
def start_vc (Q : AVal → Heap → Prop) (a0 a1 : AVal) (H : Heap) : Prop :=
ACalls Try.prog 56 [a0] H fun x1 H2 =>
ACalls Try.prog 56 [a1] H2 fun x3 H4 =>
LENK x1 fun x5 =>
impl_isBelow.L3 Q x3 x1 x5 (AVal.int .i64 0) H4
theorem start_eq (Q : AVal → Heap → Prop) (a0 a1 : AVal) (H : Heap) : vs Try.prog lv 86 40 Try.f86.results.toList Q true 1000 [.sq (bodyOf Try.f86)] (entry [a0, a1]) H = start_vc Q a0 a1 H := by kernel_rfl
theorem start {Q : AVal → Heap → Prop} {a0 a1 : AVal} {H : Heap} (h : start_vc Q a0 a1 H) : ACalls Try.prog 86 [a0, a1] H Q := acalls_vs (lv := lv) mixed Try.func86 rfl (by kernel_rfl) (by kernel_rfl) (start_eq Q a0 a1 H ▸ h)
def step3_vc (Q : AVal → Heap → Prop) (v6 v15 v16 v17 : AVal) (H : Heap) : Prop :=
BINK .lss v17 v16 fun x1 =>
BRK x1 (TT ∧ IXK 1 v15 v17 fun x2 =>
TT ∧ TT ∧ LDK false 1 H x2 fun x3 =>
LENK x3 fun x4 =>
impl_isBelow.L6 Q v6 v17 v15 v16 v17 x3 x4 (AVal.int .i64 0) H) (Q (AVal.bool true) H)
theorem step3_eq (Q : AVal → Heap → Prop) (v6 v15 v16 v17 : AVal) (H : Heap) : vs Try.prog lv 86 40 Try.f86.results.toList Q true 1000 (.sq (cB (cB (cR (cL (cR (cR (bodyOf Try.f86))))))) :: K3) (slotsOf [(6, v6), (15, v15), (16, v16), (17, v17)]) H = step3_vc Q v6 v15 v16 v17 H := by kernel_rfl
theorem step3 {Q : AVal → Heap → Prop} {v6 v15 v16 v17 : AVal} {H : Heap} (h : step3_vc Q v6 v15 v16 v17 H) : L3 Q v6 v15 v16 v17 H := at_lp_vs (lv := lv) (ks := K3.tail) mixed Try.func86 (step3_eq Q v6 v15 v16 v17 H ▸ h)
def step6_vc (Q : AVal → Heap → Prop) (v6 v7 v15 v16 v17 v22 v23 v24 : AVal) (H : Heap) : Prop :=
BINK .lss v24 v23 fun x1 =>
BRK x1 (TT ∧ IXK 1 v22 v24 fun x2 =>
TT ∧ TT ∧ LDK false 1 H x2 fun x3 =>
TT ∧ IXK 1 v6 v7 fun x4 =>
TT ∧ TT ∧ LDK false 1 H x4 fun x5 =>
TT ∧ IXK 1 x5 v24 fun x6 =>
TT ∧ TT ∧ LDK false 1 H x6 fun x7 =>
BINK .gtr x3 x7 fun x8 =>
BRK x8 (Q (AVal.bool false) H) (BINK .add v24 (AVal.int .i64 1) fun x9 =>
impl_isBelow.L6 Q v6 v7 v15 v16 v17 v22 v23 x9 H)) (BINK .add v17 (AVal.int .i64 1) fun x10 =>
impl_isBelow.L3 Q v6 v15 v16 x10 H)
theorem step6_eq (Q : AVal → Heap → Prop) (v6 v7 v15 v16 v17 v22 v23 v24 : AVal) (H : Heap) : vs Try.prog lv 86 40 Try.f86.results.toList Q true 1000 (.sq (cB (cB (cR (cR (cB (cL (cR (cR (cB (cB (cR (cL (cR (cR (bodyOf Try.f86))))))))))))))) :: K6) (slotsOf [(6, v6), (7, v7), (15, v15), (16, v16), (17, v17), (22, v22), (23, v23), (24, v24)]) H = step6_vc Q v6 v7 v15 v16 v17 v22 v23 v24 H := by kernel_rfl
theorem step6 {Q : AVal → Heap → Prop} {v6 v7 v15 v16 v17 v22 v23 v24 : AVal} {H : Heap} (h : step6_vc Q v6 v7 v15 v16 v17 v22 v23 v24 H) : L6 Q v6 v7 v15 v16 v17 v22 v23 v24 H := at_lp_vs (lv := lv) (ks := K6.tail) mixed Try.func86 (step6_eq Q v6 v7 v15 v16 v17 v22 v23 v24 H ▸ h)
end impl_isBelow

/-! impl.IsBelow (slots: 0 m, 1 k, 2 m, 3 k) -/
namespace impl_IsBelow
def lv : List (Nat × List Nat) := []
def start_vc (Q : AVal → Heap → Prop) (a0 a1 : AVal) (H : Heap) : Prop :=
ACalls Try.prog 64 [a0, a1] H fun x1 H2 =>
NOTK x1 fun x3 =>
BRK x3 (Q (AVal.tup [(AVal.bool false), (AVal.bool false)]) H2) (ACalls Try.prog 86 [a0, a1] H2 fun x4 H5 =>
Q (AVal.tup [x4, (AVal.bool true)]) H5)
theorem start_eq (Q : AVal → Heap → Prop) (a0 a1 : AVal) (H : Heap) : vs Try.prog lv 30 13 Try.f30.results.toList Q true 1000 [.sq (bodyOf Try.f30)] (entry [a0, a1]) H = start_vc Q a0 a1 H := by kernel_rfl
theorem start {Q : AVal → Heap → Prop} {a0 a1 : AVal} {H : Heap} (h : start_vc Q a0 a1 H) : ACalls Try.prog 30 [a0, a1] H Q := acalls_vs (lv := lv) mixed Try.func30 rfl (by kernel_rfl) (by kernel_rfl) (start_eq Q a0 a1 H ▸ h)
end impl_IsBelow

/-! spec.hePair (slots: 0 m, 1 k, 2 m, 3 k) -/
namespace spec_hePair
def lv : List (Nat × List Nat) := []
def start_vc (Q : AVal → Heap → Prop) (a0 a1 : AVal) (H : Heap) : Prop :=
ACalls Try.prog 53 [a0] H fun x1 H2 =>
SPL x1 (ACalls Try.prog 53 [a1] H2 fun x3 H4 =>
SPL x3 (LENK a0 fun x5 =>
LENK a1 fun x6 =>
BINK .eql x5 x6 fun x7 =>
Q x7 H4) (Q (AVal.bool false) H4)) (Q (AVal.bool false) H2)
theorem start_eq (Q : AVal → Heap → Prop) (a0 a1 : AVal) (H : Heap) : vs Try.prog lv 87 18 Try.f87.results.toList Q true 1000 [.sq (bodyOf Try.f87)] (entry [a0, a1]) H = start_vc Q a0 a1 H := by kernel_rfl
theorem start {Q : AVal → Heap → Prop} {a0 a1 : AVal} {H : Heap} (h : start_vc Q a0 a1 H) : ACalls Try.prog 87 [a0, a1] H Q := acalls_vs (lv := lv) mixed Try.func87 rfl (by kernel_rfl) (by kernel_rfl) (start_eq Q a0 a1 H ▸ h)
end spec_hePair

/-! spec.heBelow (slots: 0 a, 1 b, 2 a, 3 b, 5 i, 6 row, 7 j, 8 x) -/
namespace spec_heBelow
def lv : List (Nat × List Nat) := [(2, [1, 9, 10, 11]), (5, [1, 5, 9, 10, 11, 16, 17, 18])]
noncomputable def K2 : List KF := [.lp (cB (cB (cR (cL (cR (bodyOf Try.f88)))))), .bl 0, .sq (cR (cR (bodyOf Try.f88)))]
def L2 (Q : AVal → Heap → Prop) (v1 v9 v10 v11 : AVal) (H : Heap) : Prop := At Try.prog 88 34 K2 Q (slotsOf [(1, v1), (9, v9), (10, v10), (11, v11)]) H
theorem L2_frz {Q : AVal → Heap → Prop} {v1 v9 v10 v11 w1 w9 w10 w11 : AVal} {H Hf Hk : Heap} {k : Nat} (hs : Split H Hf Hk) (hp : PurL Hf k [(1, v1, w1), (9, v9, w9), (10, v10, w10), (11, v11, w11)]) (h : L2 Q w1 w9 w10 w11 Hk) : L2 Q v1 v9 v10 v11 H := at_frz (ks := K2) hs hp h
noncomputable def K5 : List KF := [.lp (cB (cB (cR (cR (cB (cL (cR (cR (cB (cB (cR (cL (cR (bodyOf Try.f88)))))))))))))), .bl 2, .bl 1, .sq (cR (cR (cR (cB (cB (cR (cL (cR (bodyOf Try.f88))))))))), .lp (cB (cB (cR (cL (cR (bodyOf Try.f88)))))), .bl 0, .sq (cR (cR (bodyOf Try.f88)))]
def L5 (Q : AVal → Heap → Prop) (v1 v5 v9 v10 v11 v16 v17 v18 : AVal) (H : Heap) : Prop := At Try.prog 88 34 K5 Q (slotsOf [(1, v1), (5, v5), (9, v9), (10, v10), (11, v11), (16, v16), (17, v17), (18, v18)]) H
theorem L5_frz {Q : AVal → Heap → Prop} {v1 v5 v9 v10 v11 v16 v17 v18 w1 w5 w9 w10 w11 w16 w17 w18 : AVal} {H Hf Hk : Heap} {k : Nat} (hs : Split H Hf Hk) (hp : PurL Hf k [(1, v1, w1), (5, v5, w5), (9, v9, w9), (10, v10, w10), (11, v11, w11), (16, v16, w16), (17, v17, w17), (18, v18, w18)]) (h : L5 Q w1 w5 w9 w10 w11 w16 w17 w18 Hk) : L5 Q v1 v5 v9 v10 v11 v16 v17 v18 H := at_frz (ks := K5) hs hp h
def start_vc (Q : AVal → Heap → Prop) (a0 a1 : AVal) (H : Heap) : Prop :=
LENK a0 fun x1 =>
spec_heBelow.L2 Q a1 a0 x1 (AVal.int .i64 0) H
theorem start_eq (Q : AVal → Heap → Prop) (a0 a1 : AVal) (H : Heap) : vs Try.prog lv 88 34 Try.f88.results.toList Q true 1000 [.sq (bodyOf Try.f88)] (entry [a0, a1]) H = start_vc Q a0 a1 H := by kernel_rfl
theorem start {Q : AVal → Heap → Prop} {a0 a1 : AVal} {H : Heap} (h : start_vc Q a0 a1 H) : ACalls Try.prog 88 [a0, a1] H Q := acalls_vs (lv := lv) mixed Try.func88 rfl (by kernel_rfl) (by kernel_rfl) (start_eq Q a0 a1 H ▸ h)
def step2_vc (Q : AVal → Heap → Prop) (v1 v9 v10 v11 : AVal) (H : Heap) : Prop :=
BINK .lss v11 v10 fun x1 =>
BRK x1 (TT ∧ IXK 1 v9 v11 fun x2 =>
TT ∧ TT ∧ LDK false 1 H x2 fun x3 =>
LENK x3 fun x4 =>
spec_heBelow.L5 Q v1 v11 v9 v10 v11 x3 x4 (AVal.int .i64 0) H) (Q (AVal.bool true) H)
theorem step2_eq (Q : AVal → Heap → Prop) (v1 v9 v10 v11 : AVal) (H : Heap) : vs Try.prog lv 88 34 Try.f88.results.toList Q true 1000 (.sq (cB (cB (cR (cL (cR (bodyOf Try.f88)))))) :: K2) (slotsOf [(1, v1), (9, v9), (10, v10), (11, v11)]) H = step2_vc Q v1 v9 v10 v11 H := by kernel_rfl
theorem step2 {Q : AVal → Heap → Prop} {v1 v9 v10 v11 : AVal} {H : Heap} (h : step2_vc Q v1 v9 v10 v11 H) : L2 Q v1 v9 v10 v11 H := at_lp_vs (lv := lv) (ks := K2.tail) mixed Try.func88 (step2_eq Q v1 v9 v10 v11 H ▸ h)
def step5_vc (Q : AVal → Heap → Prop) (v1 v5 v9 v10 v11 v16 v17 v18 : AVal) (H : Heap) : Prop :=
BINK .lss v18 v17 fun x1 =>
BRK x1 (TT ∧ IXK 1 v16 v18 fun x2 =>
TT ∧ TT ∧ LDK false 1 H x2 fun x3 =>
TT ∧ IXK 1 v1 v5 fun x4 =>
TT ∧ TT ∧ LDK false 1 H x4 fun x5 =>
TT ∧ IXK 1 x5 v18 fun x6 =>
TT ∧ TT ∧ LDK false 1 H x6 fun x7 =>
BINK .gtr x3 x7 fun x8 =>
BRK x8 (Q (AVal.bool false) H) (BINK .add v18 (AVal.int .i64 1) fun x9 =>
spec_heBelow.L5 Q v1 v5 v9 v10 v11 v16 v17 x9 H)) (BINK .add v11 (AVal.int .i64 1) fun x10 =>
spec_heBelow.L2 Q v1 v9 v10 x10 H)
theorem step5_eq (Q : AVal → Heap → Prop) (v1 v5 v9 v10 v11 v16 v17 v18 : AVal) (H : Heap) : vs Try.prog lv 88 34 Try.f88.results.toList Q true 1000 (.sq (cB (cB (cR (cR (cB (cL (cR (cR (cB (cB (cR (cL (cR (bodyOf Try.f88)))))))))))))) :: K5) (slotsOf [(1, v1), (5, v5), (9, v9), (10, v10), (11, v11), (16, v16), (17, v17), (18, v18)]) H = step5_vc Q v1 v5 v9 v10 v11 v16 v17 v18 H := by kernel_rfl
theorem step5 {Q : AVal → Heap → Prop} {v1 v5 v9 v10 v11 v16 v17 v18 : AVal} {H : Heap} (h : step5_vc Q v1 v5 v9 v10 v11 v16 v17 v18 H) : L5 Q v1 v5 v9 v10 v11 v16 v17 v18 H := at_lp_vs (lv := lv) (ks := K5.tail) mixed Try.func88 (step5_eq Q v1 v5 v9 v10 v11 v16 v17 v18 H ▸ h)
end spec_heBelow

/-! spec.IsBelow (slots: 0 m, 1 k, 2 m, 3 k) -/
namespace spec_IsBelow
def lv : List (Nat × List Nat) := []
def start_vc (Q : AVal → Heap → Prop) (a0 a1 : AVal) (H : Heap) : Prop :=
ACalls Try.prog 87 [a0, a1] H fun x1 H2 =>
NOTK x1 fun x3 =>
BRK x3 (Q (AVal.tup [(AVal.bool false), (AVal.bool false)]) H2) (ACalls Try.prog 61 [a0] H2 fun x4 H5 =>
ACalls Try.prog 61 [a1] H5 fun x6 H7 =>
ACalls Try.prog 88 [x4, x6] H7 fun x8 H9 =>
Q (AVal.tup [x8, (AVal.bool true)]) H9)
theorem start_eq (Q : AVal → Heap → Prop) (a0 a1 : AVal) (H : Heap) : vs Try.prog lv 31 15 Try.f31.results.toList Q true 1000 [.sq (bodyOf Try.f31)] (entry [a0, a1]) H = start_vc Q a0 a1 H := by kernel_rfl
theorem start {Q : AVal → Heap → Prop} {a0 a1 : AVal} {H : Heap} (h : start_vc Q a0 a1 H) : ACalls Try.prog 31 [a0, a1] H Q := acalls_vs (lv := lv) mixed Try.func31 rfl (by kernel_rfl) (by kernel_rfl) (start_eq Q a0 a1 H ▸ h)
end spec_IsBelow


def rowBelow : List Int → List Int → Bool
  | x :: r, y :: s => decide (x ≤ y) && rowBelow r s
  | _, _ => true
def belowB : List (List Int) → List (List Int) → Bool
  | r :: a, s :: b => rowBelow r s && belowB a b
  | _, _ => true

theorem isBelow_in {a b : List (List Int)} {v u vr : AVal} {r s : List Int} {i : Nat} (hv : IsTab v a) (hu : IsTab u b) (hvr : IsInts vr r) (hs : b[i]? = some s) (hrs : r.length = s.length) (hl : r.length ≤ 1000000) (hal : a.length ≤ 1000000) (hi : i < a.length) {H : Heap} {Q : AVal → Heap → Prop}
    (hno : rowBelow r s = false → Q (.bool false) H) (hyes : rowBelow r s = true → impl_isBelow.L3 Q u v (I a.length) (I (i + 1 : Nat)) H) : ∀ (n k : Nat), k + n = r.length → rowBelow r s = rowBelow (r.drop k) (s.drop k) →
    impl_isBelow.L6 Q u (I i) v (I a.length) (I i) vr (I r.length) (I k) H := by
  intro n
  induction n with
  | zero =>
    intro k hk he
    apply impl_isBelow.step6
    unfold impl_isBelow.step6_vc
    repeat' (first
    | with_reducible refine rTT ?_
    | with_reducible refine rRFL ?_
    | with_reducible refine rLEN (by assumption) ?_
    | (with_reducible refine rIXk (by assumption) (by assumption) ?_; intro p hp)
    | (with_reducible refine rIX (by assumption) (by omega) (by omega) ?_; intro p a ha hp)
    | with_reducible refine rLDi (by assumption) ?_
    | (with_reducible refine rLD (by assumption) ?_; intro c hc)
    | with_reducible refine rADD (by omega) ?_
    | with_reducible refine rSUB (by omega) ?_
    | with_reducible refine rLSS ?_
    | with_reducible refine rLEQ ?_
    | with_reducible refine rGTR ?_
    | with_reducible refine rGEQ ?_
    | with_reducible refine rEQL ?_
    | with_reducible refine rNEQ ?_
    | with_reducible refine rNOT ?_
    | (with_reducible refine rBRK ?_ ?_ <;> intro hb)
    | (with_reducible refine rBRKn ?_ ?_ <;> intro hb)
    | (with_reducible refine rBRKnb ?_ ?_ <;> intro hb)
    | (with_reducible refine rBRKb ?_ ?_ <;> intro hb)
    | (with_reducible refine rSPL ?_ ?_ <;> intro hb)
    | (with_reducible refine rSPLn ?_ ?_ <;> intro hb)
    | (with_reducible refine rSPLnb ?_ ?_ <;> intro hb)
    | (with_reducible refine rSPLb ?_ ?_ <;> intro hb)
    | (exfalso; omega))
    rw [List.drop_eq_nil_of_le (by omega)] at he
    exact hyes he
  | succ n ih =>
    intro k hk he
    obtain ⟨x, hx⟩ := ex_get (l := r) (k := k) (by omega)
    obtain ⟨y, hy⟩ := ex_get (l := s) (k := k) (by omega)
    rw [drop_some hx, drop_some hy, rowBelow] at he
    apply impl_isBelow.step6
    unfold impl_isBelow.step6_vc
    repeat' (first
    | with_reducible refine rTT ?_
    | with_reducible refine rRFL ?_
    | with_reducible refine rLEN (by assumption) ?_
    | (with_reducible refine rIXk (by assumption) (by assumption) ?_; intro p hp)
    | (with_reducible refine rIX (by assumption) (by omega) (by omega) ?_; intro p a ha hp)
    | with_reducible refine rLDi (by assumption) ?_
    | (with_reducible refine rLD (by assumption) ?_; intro c hc)
    | with_reducible refine rADD (by omega) ?_
    | with_reducible refine rSUB (by omega) ?_
    | with_reducible refine rLSS ?_
    | with_reducible refine rLEQ ?_
    | with_reducible refine rGTR ?_
    | with_reducible refine rGEQ ?_
    | with_reducible refine rEQL ?_
    | with_reducible refine rNEQ ?_
    | with_reducible refine rNOT ?_
    | (with_reducible refine rBRK ?_ ?_ <;> intro hb)
    | (with_reducible refine rBRKn ?_ ?_ <;> intro hb)
    | (with_reducible refine rBRKnb ?_ ?_ <;> intro hb)
    | (with_reducible refine rBRKb ?_ ?_ <;> intro hb)
    | (with_reducible refine rSPL ?_ ?_ <;> intro hb)
    | (with_reducible refine rSPLn ?_ ?_ <;> intro hb)
    | (with_reducible refine rSPLnb ?_ ?_ <;> intro hb)
    | (with_reducible refine rSPLb ?_ ?_ <;> intro hb)
    | (exfalso; omega))
    · rw [decide_eq_false (by omega), Bool.false_and] at he
      exact hno he
    · rw [decide_eq_true (by omega), Bool.true_and] at he
      exact ih (k + 1) (by omega) he
theorem isBelow_out {a b : List (List Int)} {v u : AVal} (hv : IsTab v a) (hu : IsTab u b) (hal : a.length ≤ 1000000) (hab : a.length = b.length) (hrs : ∀ (i : Nat) (r s : List Int), a[i]? = some r → b[i]? = some s → r.length = s.length ∧ r.length ≤ 1000000) {H : Heap} {Q : AVal → Heap → Prop} : ∀ (n k : Nat), k + n = a.length → Q (.bool (belowB (a.drop k) (b.drop k))) H →
    impl_isBelow.L3 Q u v (I a.length) (I k) H := by
  intro n
  induction n with
  | zero =>
    intro k hk hq
    rw [List.drop_eq_nil_of_le (by omega)] at hq
    apply impl_isBelow.step3
    unfold impl_isBelow.step3_vc
    repeat' (first
    | with_reducible refine rTT ?_
    | with_reducible refine rRFL ?_
    | with_reducible refine rLEN (by assumption) ?_
    | (with_reducible refine rIXk (by assumption) (by assumption) ?_; intro p hp)
    | (with_reducible refine rIX (by assumption) (by omega) (by omega) ?_; intro p a ha hp)
    | with_reducible refine rLDi (by assumption) ?_
    | (with_reducible refine rLD (by assumption) ?_; intro c hc)
    | with_reducible refine rADD (by omega) ?_
    | with_reducible refine rSUB (by omega) ?_
    | with_reducible refine rLSS ?_
    | with_reducible refine rLEQ ?_
    | with_reducible refine rGTR ?_
    | with_reducible refine rGEQ ?_
    | with_reducible refine rEQL ?_
    | with_reducible refine rNEQ ?_
    | with_reducible refine rNOT ?_
    | (with_reducible refine rBRK ?_ ?_ <;> intro hb)
    | (with_reducible refine rBRKn ?_ ?_ <;> intro hb)
    | (with_reducible refine rBRKnb ?_ ?_ <;> intro hb)
    | (with_reducible refine rBRKb ?_ ?_ <;> intro hb)
    | (with_reducible refine rSPL ?_ ?_ <;> intro hb)
    | (with_reducible refine rSPLn ?_ ?_ <;> intro hb)
    | (with_reducible refine rSPLnb ?_ ?_ <;> intro hb)
    | (with_reducible refine rSPLb ?_ ?_ <;> intro hb)
    | (exfalso; omega))
    exact hq
  | succ n ih =>
    intro k hk hq
    obtain ⟨r, hr⟩ := ex_get (l := a) (k := k) (by omega)
    obtain ⟨s, hs⟩ := ex_get (l := b) (k := k) (by omega)
    rw [drop_some hr, drop_some hs, belowB] at hq
    obtain ⟨e1, e2⟩ := hrs k r s hr hs
    apply impl_isBelow.step3
    unfold impl_isBelow.step3_vc
    repeat' (first
    | with_reducible refine rTT ?_
    | with_reducible refine rRFL ?_
    | with_reducible refine rLEN (by assumption) ?_
    | (with_reducible refine rIXk (by assumption) (by assumption) ?_; intro p hp)
    | (with_reducible refine rIX (by assumption) (by omega) (by omega) ?_; intro p a ha hp)
    | with_reducible refine rLDi (by assumption) ?_
    | (with_reducible refine rLD (by assumption) ?_; intro c hc)
    | with_reducible refine rADD (by omega) ?_
    | with_reducible refine rSUB (by omega) ?_
    | with_reducible refine rLSS ?_
    | with_reducible refine rLEQ ?_
    | with_reducible refine rGTR ?_
    | with_reducible refine rGEQ ?_
    | with_reducible refine rEQL ?_
    | with_reducible refine rNEQ ?_
    | with_reducible refine rNOT ?_
    | (with_reducible refine rBRK ?_ ?_ <;> intro hb)
    | (with_reducible refine rBRKn ?_ ?_ <;> intro hb)
    | (with_reducible refine rBRKnb ?_ ?_ <;> intro hb)
    | (with_reducible refine rBRKb ?_ ?_ <;> intro hb)
    | (with_reducible refine rSPL ?_ ?_ <;> intro hb)
    | (with_reducible refine rSPLn ?_ ?_ <;> intro hb)
    | (with_reducible refine rSPLnb ?_ ?_ <;> intro hb)
    | (with_reducible refine rSPLb ?_ ?_ <;> intro hb)
    | (exfalso; omega))
    refine isBelow_in hv hu (by assumption) hs e1 e2 hal (by omega) (fun h => ?_) (fun h => ?_) r.length 0 (by omega) rfl
    · rw [h] at hq; exact hq
    · rw [h] at hq; exact ih (k + 1) (by omega) hq

theorem heBelow_in {a b : List (List Int)} {v u vr : AVal} {r s : List Int} {i : Nat} (hv : IsTab v a) (hu : IsTab u b) (hvr : IsInts vr r) (hs : b[i]? = some s) (hrs : r.length = s.length) (hl : r.length ≤ 1000000) (hal : a.length ≤ 1000000) (hi : i < a.length) {H : Heap} {Q : AVal → Heap → Prop}
    (hno : rowBelow r s = false → Q (.bool false) H) (hyes : rowBelow r s = true → spec_heBelow.L2 Q u v (I a.length) (I (i + 1 : Nat)) H) : ∀ (n k : Nat), k + n = r.length → rowBelow r s = rowBelow (r.drop k) (s.drop k) →
    spec_heBelow.L5 Q u (I i) v (I a.length) (I i) vr (I r.length) (I k) H := by
  intro n
  induction n with
  | zero =>
    intro k hk he
    apply spec_heBelow.step5
    unfold spec_heBelow.step5_vc
    repeat' (first
    | with_reducible refine rTT ?_
    | with_reducible refine rRFL ?_
    | with_reducible refine rLEN (by assumption) ?_
    | (with_reducible refine rIXk (by assumption) (by assumption) ?_; intro p hp)
    | (with_reducible refine rIX (by assumption) (by omega) (by omega) ?_; intro p a ha hp)
    | with_reducible refine rLDi (by assumption) ?_
    | (with_reducible refine rLD (by assumption) ?_; intro c hc)
    | with_reducible refine rADD (by omega) ?_
    | with_reducible refine rSUB (by omega) ?_
    | with_reducible refine rLSS ?_
    | with_reducible refine rLEQ ?_
    | with_reducible refine rGTR ?_
    | with_reducible refine rGEQ ?_
    | with_reducible refine rEQL ?_
    | with_reducible refine rNEQ ?_
    | with_reducible refine rNOT ?_
    | (with_reducible refine rBRK ?_ ?_ <;> intro hb)
    | (with_reducible refine rBRKn ?_ ?_ <;> intro hb)
    | (with_reducible refine rBRKnb ?_ ?_ <;> intro hb)
    | (with_reducible refine rBRKb ?_ ?_ <;> intro hb)
    | (with_reducible refine rSPL ?_ ?_ <;> intro hb)
    | (with_reducible refine rSPLn ?_ ?_ <;> intro hb)
    | (with_reducible refine rSPLnb ?_ ?_ <;> intro hb)
    | (with_reducible refine rSPLb ?_ ?_ <;> intro hb)
    | (exfalso; omega))
    rw [List.drop_eq_nil_of_le (by omega)] at he
    exact hyes he
  | succ n ih =>
    intro k hk he
    obtain ⟨x, hx⟩ := ex_get (l := r) (k := k) (by omega)
    obtain ⟨y, hy⟩ := ex_get (l := s) (k := k) (by omega)
    rw [drop_some hx, drop_some hy, rowBelow] at he
    apply spec_heBelow.step5
    unfold spec_heBelow.step5_vc
    repeat' (first
    | with_reducible refine rTT ?_
    | with_reducible refine rRFL ?_
    | with_reducible refine rLEN (by assumption) ?_
    | (with_reducible refine rIXk (by assumption) (by assumption) ?_; intro p hp)
    | (with_reducible refine rIX (by assumption) (by omega) (by omega) ?_; intro p a ha hp)
    | with_reducible refine rLDi (by assumption) ?_
    | (with_reducible refine rLD (by assumption) ?_; intro c hc)
    | with_reducible refine rADD (by omega) ?_
    | with_reducible refine rSUB (by omega) ?_
    | with_reducible refine rLSS ?_
    | with_reducible refine rLEQ ?_
    | with_reducible refine rGTR ?_
    | with_reducible refine rGEQ ?_
    | with_reducible refine rEQL ?_
    | with_reducible refine rNEQ ?_
    | with_reducible refine rNOT ?_
    | (with_reducible refine rBRK ?_ ?_ <;> intro hb)
    | (with_reducible refine rBRKn ?_ ?_ <;> intro hb)
    | (with_reducible refine rBRKnb ?_ ?_ <;> intro hb)
    | (with_reducible refine rBRKb ?_ ?_ <;> intro hb)
    | (with_reducible refine rSPL ?_ ?_ <;> intro hb)
    | (with_reducible refine rSPLn ?_ ?_ <;> intro hb)
    | (with_reducible refine rSPLnb ?_ ?_ <;> intro hb)
    | (with_reducible refine rSPLb ?_ ?_ <;> intro hb)
    | (exfalso; omega))
    · rw [decide_eq_false (by omega), Bool.false_and] at he
      exact hno he
    · rw [decide_eq_true (by omega), Bool.true_and] at he
      exact ih (k + 1) (by omega) he
theorem heBelow_out {a b : List (List Int)} {v u : AVal} (hv : IsTab v a) (hu : IsTab u b) (hal : a.length ≤ 1000000) (hab : a.length = b.length) (hrs : ∀ (i : Nat) (r s : List Int), a[i]? = some r → b[i]? = some s → r.length = s.length ∧ r.length ≤ 1000000) {H : Heap} {Q : AVal → Heap → Prop} : ∀ (n k : Nat), k + n = a.length → Q (.bool (belowB (a.drop k) (b.drop k))) H →
    spec_heBelow.L2 Q u v (I a.length) (I k) H := by
  intro n
  induction n with
  | zero =>
    intro k hk hq
    rw [List.drop_eq_nil_of_le (by omega)] at hq
    apply spec_heBelow.step2
    unfold spec_heBelow.step2_vc
    repeat' (first
    | with_reducible refine rTT ?_
    | with_reducible refine rRFL ?_
    | with_reducible refine rLEN (by assumption) ?_
    | (with_reducible refine rIXk (by assumption) (by assumption) ?_; intro p hp)
    | (with_reducible refine rIX (by assumption) (by omega) (by omega) ?_; intro p a ha hp)
    | with_reducible refine rLDi (by assumption) ?_
    | (with_reducible refine rLD (by assumption) ?_; intro c hc)
    | with_reducible refine rADD (by omega) ?_
    | with_reducible refine rSUB (by omega) ?_
    | with_reducible refine rLSS ?_
    | with_reducible refine rLEQ ?_
    | with_reducible refine rGTR ?_
    | with_reducible refine rGEQ ?_
    | with_reducible refine rEQL ?_
    | with_reducible refine rNEQ ?_
    | with_reducible refine rNOT ?_
    | (with_reducible refine rBRK ?_ ?_ <;> intro hb)
    | (with_reducible refine rBRKn ?_ ?_ <;> intro hb)
    | (with_reducible refine rBRKnb ?_ ?_ <;> intro hb)
    | (with_reducible refine rBRKb ?_ ?_ <;> intro hb)
    | (with_reducible refine rSPL ?_ ?_ <;> intro hb)
    | (with_reducible refine rSPLn ?_ ?_ <;> intro hb)
    | (with_reducible refine rSPLnb ?_ ?_ <;> intro hb)
    | (with_reducible refine rSPLb ?_ ?_ <;> intro hb)
    | (exfalso; omega))
    exact hq
  | succ n ih =>
    intro k hk hq
    obtain ⟨r, hr⟩ := ex_get (l := a) (k := k) (by omega)
    obtain ⟨s, hs⟩ := ex_get (l := b) (k := k) (by omega)
    rw [drop_some hr, drop_some hs, belowB] at hq
    obtain ⟨e1, e2⟩ := hrs k r s hr hs
    apply spec_heBelow.step2
    unfold spec_heBelow.step2_vc
    repeat' (first
    | with_reducible refine rTT ?_
    | with_reducible refine rRFL ?_
    | with_reducible refine rLEN (by assumption) ?_
    | (with_reducible refine rIXk (by assumption) (by assumption) ?_; intro p hp)
    | (with_reducible refine rIX (by assumption) (by omega) (by omega) ?_; intro p a ha hp)
    | with_reducible refine rLDi (by assumption) ?_
    | (with_reducible refine rLD (by assumption) ?_; intro c hc)
    | with_reducible refine rADD (by omega) ?_
    | with_reducible refine rSUB (by omega) ?_
    | with_reducible refine rLSS ?_
    | with_reducible refine rLEQ ?_
    | with_reducible refine rGTR ?_
    | with_reducible refine rGEQ ?_
    | with_reducible refine rEQL ?_
    | with_reducible refine rNEQ ?_
    | with_reducible refine rNOT ?_
    | (with_reducible refine rBRK ?_ ?_ <;> intro hb)
    | (with_reducible refine rBRKn ?_ ?_ <;> intro hb)
    | (with_reducible refine rBRKnb ?_ ?_ <;> intro hb)
    | (with_reducible refine rBRKb ?_ ?_ <;> intro hb)
    | (with_reducible refine rSPL ?_ ?_ <;> intro hb)
    | (with_reducible refine rSPLn ?_ ?_ <;> intro hb)
    | (with_reducible refine rSPLnb ?_ ?_ <;> intro hb)
    | (with_reducible refine rSPLb ?_ ?_ <;> intro hb)
    | (exfalso; omega))
    refine heBelow_in hv hu (by assumption) hs e1 e2 hal (by omega) (fun h => ?_) (fun h => ?_) r.length 0 (by omega) rfl
    · rw [h] at hq; exact hq
    · rw [h] at hq; exact ih (k + 1) (by omega) hq

end Go.Proofs.Ytccioplhchmilaa.AL
