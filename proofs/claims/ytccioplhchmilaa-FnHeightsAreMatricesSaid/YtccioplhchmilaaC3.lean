/-
  Contracts: equal lists and tables; sign matrices, as the reference tells them.
-/
import Derived.Test.YtccioplhchmilaaC2
set_option linter.unusedVariables false
set_option maxRecDepth 100000
namespace Go.Proofs.Ytccioplhchmilaa.AL
open Go Go.Proofs

/-! spec.l1All (slots: 0 l, 1 lo, 2 hi, 3 l, 4 lo, 5 hi, 7 _, 8 n) -/
namespace spec_l1All
def lv : List (Nat × List Nat) := [(2, [1, 2, 9, 10, 11])]
noncomputable def K2 : List KF := [.lp (cB (cB (cR (cL (cR (bodyOf Try.f116)))))), .bl 0, .sq (cR (cR (bodyOf Try.f116)))]
def L2 (Q : AVal → Heap → Prop) (v1 v2 v9 v10 v11 : AVal) (H : Heap) : Prop := At Try.prog 116 21 K2 Q (slotsOf [(1, v1), (2, v2), (9, v9), (10, v10), (11, v11)]) H
theorem L2_frz {Q : AVal → Heap → Prop} {v1 v2 v9 v10 v11 w1 w2 w9 w10 w11 : AVal} {H Hf Hk : Heap} {k : Nat} (hs : Split H Hf Hk) (hp : PurL Hf k [(1, v1, w1), (2, v2, w2), (9, v9, w9), (10, v10, w10), (11, v11, w11)]) (h : L2 Q w1 w2 w9 w10 w11 Hk) : L2 Q v1 v2 v9 v10 v11 H := at_frz (ks := K2) hs hp h
def start_vc (Q : AVal → Heap → Prop) (a0 a1 a2 : AVal) (H : Heap) : Prop :=
LENK a0 fun x1 =>
spec_l1All.L2 Q a1 a2 a0 x1 (AVal.int .i64 0) H
theorem start_eq (Q : AVal → Heap → Prop) (a0 a1 a2 : AVal) (H : Heap) : vs Try.prog lv 116 21 Try.f116.results.toList Q true 1000 [.sq (bodyOf Try.f116)] (entry [a0, a1, a2]) H = start_vc Q a0 a1 a2 H := by kernel_rfl
theorem start {Q : AVal → Heap → Prop} {a0 a1 a2 : AVal} {H : Heap} (h : start_vc Q a0 a1 a2 H) : ACalls Try.prog 116 [a0, a1, a2] H Q := acalls_vs (lv := lv) mixed Try.func116 rfl (by kernel_rfl) (by kernel_rfl) (start_eq Q a0 a1 a2 H ▸ h)
def step2_vc (Q : AVal → Heap → Prop) (v1 v2 v9 v10 v11 : AVal) (H : Heap) : Prop :=
BINK .lss v11 v10 fun x1 =>
BRK x1 (TT ∧ IXK 1 v9 v11 fun x2 =>
TT ∧ TT ∧ LDK false 1 H x2 fun x3 =>
ACalls Try.prog 54 [x3, v1, v2] H fun x4 H5 =>
NOTK x4 fun x6 =>
BRK x6 (Q (AVal.bool false) H5) (BINK .add v11 (AVal.int .i64 1) fun x7 =>
spec_l1All.L2 Q v1 v2 v9 v10 x7 H5)) (Q (AVal.bool true) H)
theorem step2_eq (Q : AVal → Heap → Prop) (v1 v2 v9 v10 v11 : AVal) (H : Heap) : vs Try.prog lv 116 21 Try.f116.results.toList Q true 1000 (.sq (cB (cB (cR (cL (cR (bodyOf Try.f116)))))) :: K2) (slotsOf [(1, v1), (2, v2), (9, v9), (10, v10), (11, v11)]) H = step2_vc Q v1 v2 v9 v10 v11 H := by kernel_rfl
theorem step2 {Q : AVal → Heap → Prop} {v1 v2 v9 v10 v11 : AVal} {H : Heap} (h : step2_vc Q v1 v2 v9 v10 v11 H) : L2 Q v1 v2 v9 v10 v11 H := at_lp_vs (lv := lv) (ks := K2.tail) mixed Try.func116 (step2_eq Q v1 v2 v9 v10 v11 H ▸ h)
end spec_l1All

/-! spec.l1Same (slots: 0 a, 1 b, 2 a, 3 b, 5 i) -/
namespace spec_l1Same
def lv : List (Nat × List Nat) := [(4, [0, 1, 12, 13])]
noncomputable def K4 : List KF := [.lp (cB (cB (cR (cL (cR (cR (bodyOf Try.f133))))))), .bl 0, .sq (cR (cR (cR (bodyOf Try.f133))))]
def L4 (Q : AVal → Heap → Prop) (v0 v1 v12 v13 : AVal) (H : Heap) : Prop := At Try.prog 133 26 K4 Q (slotsOf [(0, v0), (1, v1), (12, v12), (13, v13)]) H
theorem L4_frz {Q : AVal → Heap → Prop} {v0 v1 v12 v13 w0 w1 w12 w13 : AVal} {H Hf Hk : Heap} {k : Nat} (hs : Split H Hf Hk) (hp : PurL Hf k [(0, v0, w0), (1, v1, w1), (12, v12, w12), (13, v13, w13)]) (h : L4 Q w0 w1 w12 w13 Hk) : L4 Q v0 v1 v12 v13 H := at_frz (ks := K4) hs hp h
def start_vc (Q : AVal → Heap → Prop) (a0 a1 : AVal) (H : Heap) : Prop :=
LENK a0 fun x1 =>
LENK a1 fun x2 =>
BINK .neq x1 x2 fun x3 =>
BRK x3 (Q (AVal.bool false) H) (LENK a0 fun x4 =>
spec_l1Same.L4 Q a0 a1 x4 (AVal.int .i64 0) H)
theorem start_eq (Q : AVal → Heap → Prop) (a0 a1 : AVal) (H : Heap) : vs Try.prog lv 133 26 Try.f133.results.toList Q true 1000 [.sq (bodyOf Try.f133)] (entry [a0, a1]) H = start_vc Q a0 a1 H := by kernel_rfl
theorem start {Q : AVal → Heap → Prop} {a0 a1 : AVal} {H : Heap} (h : start_vc Q a0 a1 H) : ACalls Try.prog 133 [a0, a1] H Q := acalls_vs (lv := lv) mixed Try.func133 rfl (by kernel_rfl) (by kernel_rfl) (start_eq Q a0 a1 H ▸ h)
def step4_vc (Q : AVal → Heap → Prop) (v0 v1 v12 v13 : AVal) (H : Heap) : Prop :=
BINK .lss v13 v12 fun x1 =>
BRK x1 (TT ∧ TT ∧ IXK 1 v0 v13 fun x2 =>
TT ∧ TT ∧ LDK false 1 H x2 fun x3 =>
TT ∧ IXK 1 v1 v13 fun x4 =>
TT ∧ TT ∧ LDK false 1 H x4 fun x5 =>
BINK .neq x3 x5 fun x6 =>
BRK x6 (Q (AVal.bool false) H) (BINK .add v13 (AVal.int .i64 1) fun x7 =>
spec_l1Same.L4 Q v0 v1 v12 x7 H)) (Q (AVal.bool true) H)
theorem step4_eq (Q : AVal → Heap → Prop) (v0 v1 v12 v13 : AVal) (H : Heap) : vs Try.prog lv 133 26 Try.f133.results.toList Q true 1000 (.sq (cB (cB (cR (cL (cR (cR (bodyOf Try.f133))))))) :: K4) (slotsOf [(0, v0), (1, v1), (12, v12), (13, v13)]) H = step4_vc Q v0 v1 v12 v13 H := by kernel_rfl
theorem step4 {Q : AVal → Heap → Prop} {v0 v1 v12 v13 : AVal} {H : Heap} (h : step4_vc Q v0 v1 v12 v13 H) : L4 Q v0 v1 v12 v13 H := at_lp_vs (lv := lv) (ks := K4.tail) mixed Try.func133 (step4_eq Q v0 v1 v12 v13 H ▸ h)
end spec_l1Same

/-! spec.l1Least (slots: 0 a, 1 b, 2 a, 3 b) -/
namespace spec_l1Least
def lv : List (Nat × List Nat) := []
def start_vc (Q : AVal → Heap → Prop) (a0 a1 : AVal) (H : Heap) : Prop :=
BINK .lss a0 a1 fun x1 =>
BRK x1 (Q a0 H) (Q a1 H)
theorem start_eq (Q : AVal → Heap → Prop) (a0 a1 : AVal) (H : Heap) : vs Try.prog lv 135 10 Try.f135.results.toList Q true 1000 [.sq (bodyOf Try.f135)] (entry [a0, a1]) H = start_vc Q a0 a1 H := by kernel_rfl
theorem start {Q : AVal → Heap → Prop} {a0 a1 : AVal} {H : Heap} (h : start_vc Q a0 a1 H) : ACalls Try.prog 135 [a0, a1] H Q := acalls_vs (lv := lv) mixed Try.func135 rfl (by kernel_rfl) (by kernel_rfl) (start_eq Q a0 a1 H ▸ h)
end spec_l1Least

/-! spec.sgRows (slots: 0 m, 1 m, 3 _, 4 row, 5 sum, 6 _, 7 x) -/
namespace spec_sgRows
def lv : List (Nat × List Nat) := [(2, [8, 9, 10]), (6, [5, 8, 9, 10, 14, 15, 16])]
noncomputable def K2 : List KF := [.lp (cB (cB (cR (cL (cR (bodyOf Try.f104)))))), .bl 0, .sq (cR (cR (bodyOf Try.f104)))]
def L2 (Q : AVal → Heap → Prop) (v8 v9 v10 : AVal) (H : Heap) : Prop := At Try.prog 104 33 K2 Q (slotsOf [(8, v8), (9, v9), (10, v10)]) H
theorem L2_frz {Q : AVal → Heap → Prop} {v8 v9 v10 w8 w9 w10 : AVal} {H Hf Hk : Heap} {k : Nat} (hs : Split H Hf Hk) (hp : PurL Hf k [(8, v8, w8), (9, v9, w9), (10, v10, w10)]) (h : L2 Q w8 w9 w10 Hk) : L2 Q v8 v9 v10 H := at_frz (ks := K2) hs hp h
noncomputable def K6 : List KF := [.lp (cB (cB (cR (cL (cR (cR (cB (cL (cR (cR (cB (cB (cR (cL (cR (bodyOf Try.f104)))))))))))))))), .bl 2, .sq (cR (cR (cR (cB (cL (cR (cR (cB (cB (cR (cL (cR (bodyOf Try.f104))))))))))))), .bl 1, .sq (cR (cR (cR (cB (cB (cR (cL (cR (bodyOf Try.f104))))))))), .lp (cB (cB (cR (cL (cR (bodyOf Try.f104)))))), .bl 0, .sq (cR (cR (bodyOf Try.f104)))]
def L6 (Q : AVal → Heap → Prop) (v5 v8 v9 v10 v14 v15 v16 : AVal) (H : Heap) : Prop := At Try.prog 104 33 K6 Q (slotsOf [(5, v5), (8, v8), (9, v9), (10, v10), (14, v14), (15, v15), (16, v16)]) H
theorem L6_frz {Q : AVal → Heap → Prop} {v5 v8 v9 v10 v14 v15 v16 w5 w8 w9 w10 w14 w15 w16 : AVal} {H Hf Hk : Heap} {k : Nat} (hs : Split H Hf Hk) (hp : PurL Hf k [(5, v5, w5), (8, v8, w8), (9, v9, w9), (10, v10, w10), (14, v14, w14), (15, v15, w15), (16, v16, w16)]) (h : L6 Q w5 w8 w9 w10 w14 w15 w16 Hk) : L6 Q v5 v8 v9 v10 v14 v15 v16 H := at_frz (ks := K6) hs hp h
def start_vc (Q : AVal → Heap → Prop) (a0 : AVal) (H : Heap) : Prop :=
LENK a0 fun x1 =>
spec_sgRows.L2 Q a0 x1 (AVal.int .i64 0) H
theorem start_eq (Q : AVal → Heap → Prop) (a0 : AVal) (H : Heap) : vs Try.prog lv 104 33 Try.f104.results.toList Q true 1000 [.sq (bodyOf Try.f104)] (entry [a0]) H = start_vc Q a0 H := by kernel_rfl
theorem start {Q : AVal → Heap → Prop} {a0 : AVal} {H : Heap} (h : start_vc Q a0 H) : ACalls Try.prog 104 [a0] H Q := acalls_vs (lv := lv) mixed Try.func104 rfl (by kernel_rfl) (by kernel_rfl) (start_eq Q a0 H ▸ h)
def step2_vc (Q : AVal → Heap → Prop) (v8 v9 v10 : AVal) (H : Heap) : Prop :=
BINK .lss v10 v9 fun x1 =>
BRK x1 (TT ∧ IXK 1 v8 v10 fun x2 =>
TT ∧ TT ∧ LDK false 1 H x2 fun x3 =>
LENK x3 fun x4 =>
spec_sgRows.L6 Q (AVal.int .i64 0) v8 v9 v10 x3 x4 (AVal.int .i64 0) H) (Q (AVal.bool true) H)
theorem step2_eq (Q : AVal → Heap → Prop) (v8 v9 v10 : AVal) (H : Heap) : vs Try.prog lv 104 33 Try.f104.results.toList Q true 1000 (.sq (cB (cB (cR (cL (cR (bodyOf Try.f104)))))) :: K2) (slotsOf [(8, v8), (9, v9), (10, v10)]) H = step2_vc Q v8 v9 v10 H := by kernel_rfl
theorem step2 {Q : AVal → Heap → Prop} {v8 v9 v10 : AVal} {H : Heap} (h : step2_vc Q v8 v9 v10 H) : L2 Q v8 v9 v10 H := at_lp_vs (lv := lv) (ks := K2.tail) mixed Try.func104 (step2_eq Q v8 v9 v10 H ▸ h)
def step6_vc (Q : AVal → Heap → Prop) (v5 v8 v9 v10 v14 v15 v16 : AVal) (H : Heap) : Prop :=
BINK .lss v16 v15 fun x1 =>
BRK x1 (TT ∧ IXK 1 v14 v16 fun x2 =>
TT ∧ TT ∧ LDK false 1 H x2 fun x3 =>
ACalls Try.prog 54 [x3, (AVal.int .i64 (-1)), (AVal.int .i64 1)] H fun x4 H5 =>
NOTK x4 fun x6 =>
BRK x6 (Q (AVal.bool false) H5) (BINK .add v5 x3 fun x7 =>
ACalls Try.prog 54 [x7, (AVal.int .i64 0), (AVal.int .i64 1)] H5 fun x8 H9 =>
NOTK x8 fun x10 =>
BRK x10 (Q (AVal.bool false) H9) (BINK .add v16 (AVal.int .i64 1) fun x11 =>
spec_sgRows.L6 Q x7 v8 v9 v10 v14 v15 x11 H9))) (BINK .neq v5 (AVal.int .i64 1) fun x12 =>
BRK x12 (Q (AVal.bool false) H) (BINK .add v10 (AVal.int .i64 1) fun x13 =>
spec_sgRows.L2 Q v8 v9 x13 H))
theorem step6_eq (Q : AVal → Heap → Prop) (v5 v8 v9 v10 v14 v15 v16 : AVal) (H : Heap) : vs Try.prog lv 104 33 Try.f104.results.toList Q true 1000 (.sq (cB (cB (cR (cL (cR (cR (cB (cL (cR (cR (cB (cB (cR (cL (cR (bodyOf Try.f104)))))))))))))))) :: K6) (slotsOf [(5, v5), (8, v8), (9, v9), (10, v10), (14, v14), (15, v15), (16, v16)]) H = step6_vc Q v5 v8 v9 v10 v14 v15 v16 H := by kernel_rfl
theorem step6 {Q : AVal → Heap → Prop} {v5 v8 v9 v10 v14 v15 v16 : AVal} {H : Heap} (h : step6_vc Q v5 v8 v9 v10 v14 v15 v16 H) : L6 Q v5 v8 v9 v10 v14 v15 v16 H := at_lp_vs (lv := lv) (ks := K6.tail) mixed Try.func104 (step6_eq Q v5 v8 v9 v10 v14 v15 v16 H ▸ h)
end spec_sgRows

/-! spec.sgTurn (slots: 0 m, 1 m, 3 out, 4 j, 5 row, 6 _, 7 r) -/
namespace spec_sgTurn
def lv : List (Nat × List Nat) := [(3, [0, 3, 9, 10]), (7, [0, 3, 4, 5, 9, 10, 13, 14, 15])]
noncomputable def K3 : List KF := [.lp (cB (cB (cR (cL (cR (cR (bodyOf Try.f105))))))), .bl 0, .sq (cR (cR (cR (bodyOf Try.f105))))]
def L3 (Q : AVal → Heap → Prop) (v0 v3 v9 v10 : AVal) (H : Heap) : Prop := At Try.prog 105 33 K3 Q (slotsOf [(0, v0), (3, v3), (9, v9), (10, v10)]) H
theorem L3_frz {Q : AVal → Heap → Prop} {v0 v3 v9 v10 w0 w3 w9 w10 : AVal} {H Hf Hk : Heap} {k : Nat} (hs : Split H Hf Hk) (hp : PurL Hf k [(0, v0, w0), (3, v3, w3), (9, v9, w9), (10, v10, w10)]) (h : L3 Q w0 w3 w9 w10 Hk) : L3 Q v0 v3 v9 v10 H := at_frz (ks := K3) hs hp h
noncomputable def K7 : List KF := [.lp (cB (cB (cR (cL (cR (cR (cB (cL (cR (cR (cB (cB (cR (cL (cR (cR (bodyOf Try.f105))))))))))))))))), .bl 2, .sq (cR (cR (cR (cB (cL (cR (cR (cB (cB (cR (cL (cR (cR (bodyOf Try.f105)))))))))))))), .bl 1, .sq (cR (cR (cR (cB (cB (cR (cL (cR (cR (bodyOf Try.f105)))))))))), .lp (cB (cB (cR (cL (cR (cR (bodyOf Try.f105))))))), .bl 0, .sq (cR (cR (cR (bodyOf Try.f105))))]
def L7 (Q : AVal → Heap → Prop) (v0 v3 v4 v5 v9 v10 v13 v14 v15 : AVal) (H : Heap) : Prop := At Try.prog 105 33 K7 Q (slotsOf [(0, v0), (3, v3), (4, v4), (5, v5), (9, v9), (10, v10), (13, v13), (14, v14), (15, v15)]) H
theorem L7_frz {Q : AVal → Heap → Prop} {v0 v3 v4 v5 v9 v10 v13 v14 v15 w0 w3 w4 w5 w9 w10 w13 w14 w15 : AVal} {H Hf Hk : Heap} {k : Nat} (hs : Split H Hf Hk) (hp : PurL Hf k [(0, v0, w0), (3, v3, w3), (4, v4, w4), (5, v5, w5), (9, v9, w9), (10, v10, w10), (13, v13, w13), (14, v14, w14), (15, v15, w15)]) (h : L7 Q w0 w3 w4 w5 w9 w10 w13 w14 w15 Hk) : L7 Q v0 v3 v4 v5 v9 v10 v13 v14 v15 H := at_frz (ks := K7) hs hp h
def start_vc (Q : AVal → Heap → Prop) (a0 : AVal) (H : Heap) : Prop :=
LENK a0 fun x1 =>
spec_sgTurn.L3 Q a0 AVal.nilS x1 (AVal.int .i64 0) H
theorem start_eq (Q : AVal → Heap → Prop) (a0 : AVal) (H : Heap) : vs Try.prog lv 105 33 Try.f105.results.toList Q true 1000 [.sq (bodyOf Try.f105)] (entry [a0]) H = start_vc Q a0 H := by kernel_rfl
theorem start {Q : AVal → Heap → Prop} {a0 : AVal} {H : Heap} (h : start_vc Q a0 H) : ACalls Try.prog 105 [a0] H Q := acalls_vs (lv := lv) mixed Try.func105 rfl (by kernel_rfl) (by kernel_rfl) (start_eq Q a0 H ▸ h)
def step3_vc (Q : AVal → Heap → Prop) (v0 v3 v9 v10 : AVal) (H : Heap) : Prop :=
BINK .lss v10 v9 fun x1 =>
BRK x1 (LENK v0 fun x2 =>
spec_sgTurn.L7 Q v0 v3 v10 AVal.nilS v9 v10 v0 x2 (AVal.int .i64 0) H) (Q v3 H)
theorem step3_eq (Q : AVal → Heap → Prop) (v0 v3 v9 v10 : AVal) (H : Heap) : vs Try.prog lv 105 33 Try.f105.results.toList Q true 1000 (.sq (cB (cB (cR (cL (cR (cR (bodyOf Try.f105))))))) :: K3) (slotsOf [(0, v0), (3, v3), (9, v9), (10, v10)]) H = step3_vc Q v0 v3 v9 v10 H := by kernel_rfl
theorem step3 {Q : AVal → Heap → Prop} {v0 v3 v9 v10 : AVal} {H : Heap} (h : step3_vc Q v0 v3 v9 v10 H) : L3 Q v0 v3 v9 v10 H := at_lp_vs (lv := lv) (ks := K3.tail) mixed Try.func105 (step3_eq Q v0 v3 v9 v10 H ▸ h)
def step7_vc (Q : AVal → Heap → Prop) (v0 v3 v4 v5 v9 v10 v13 v14 v15 : AVal) (H : Heap) : Prop :=
BINK .lss v15 v14 fun x1 =>
BRK x1 (TT ∧ IXK 1 v13 v15 fun x2 =>
TT ∧ TT ∧ LDK false 1 H x2 fun x3 =>
TT ∧ IXK 1 x3 v4 fun x4 =>
TT ∧ TT ∧ LDK false 1 H x4 fun x5 =>
TT ∧ TT ∧ TT ∧ BSK 1 [x5] H fun x6 H7 =>
TT ∧ TT ∧ APK 1 H7 v5 x6 fun x8 H9 =>
BINK .add v15 (AVal.int .i64 1) fun x10 =>
spec_sgTurn.L7 Q v0 v3 v4 x8 v9 v10 v13 v14 x10 H9) (TT ∧ TT ∧ TT ∧ BSK 1 [v5] H fun x11 H12 =>
TT ∧ TT ∧ APK 1 H12 v3 x11 fun x13 H14 =>
BINK .add v10 (AVal.int .i64 1) fun x15 =>
spec_sgTurn.L3 Q v0 x13 v9 x15 H14)
theorem step7_eq (Q : AVal → Heap → Prop) (v0 v3 v4 v5 v9 v10 v13 v14 v15 : AVal) (H : Heap) : vs Try.prog lv 105 33 Try.f105.results.toList Q true 1000 (.sq (cB (cB (cR (cL (cR (cR (cB (cL (cR (cR (cB (cB (cR (cL (cR (cR (bodyOf Try.f105))))))))))))))))) :: K7) (slotsOf [(0, v0), (3, v3), (4, v4), (5, v5), (9, v9), (10, v10), (13, v13), (14, v14), (15, v15)]) H = step7_vc Q v0 v3 v4 v5 v9 v10 v13 v14 v15 H := by kernel_rfl
theorem step7 {Q : AVal → Heap → Prop} {v0 v3 v4 v5 v9 v10 v13 v14 v15 : AVal} {H : Heap} (h : step7_vc Q v0 v3 v4 v5 v9 v10 v13 v14 v15 H) : L7 Q v0 v3 v4 v5 v9 v10 v13 v14 v15 H := at_lp_vs (lv := lv) (ks := K7.tail) mixed Try.func105 (step7_eq Q v0 v3 v4 v5 v9 v10 v13 v14 v15 H ▸ h)
end spec_sgTurn

/-! spec.sgSquare (slots: 0 m, 1 m, 3 _, 4 row) -/
namespace spec_sgSquare
def lv : List (Nat × List Nat) := [(4, [0, 9, 10, 11])]
noncomputable def K4 : List KF := [.lp (cB (cB (cR (cL (cR (cR (bodyOf Try.f103))))))), .bl 0, .sq (cR (cR (cR (bodyOf Try.f103))))]
def L4 (Q : AVal → Heap → Prop) (v0 v9 v10 v11 : AVal) (H : Heap) : Prop := At Try.prog 103 21 K4 Q (slotsOf [(0, v0), (9, v9), (10, v10), (11, v11)]) H
theorem L4_frz {Q : AVal → Heap → Prop} {v0 v9 v10 v11 w0 w9 w10 w11 : AVal} {H Hf Hk : Heap} {k : Nat} (hs : Split H Hf Hk) (hp : PurL Hf k [(0, v0, w0), (9, v9, w9), (10, v10, w10), (11, v11, w11)]) (h : L4 Q w0 w9 w10 w11 Hk) : L4 Q v0 v9 v10 v11 H := at_frz (ks := K4) hs hp h
def start_vc (Q : AVal → Heap → Prop) (a0 : AVal) (H : Heap) : Prop :=
LENK a0 fun x1 =>
ACalls Try.prog 54 [x1, (AVal.int .i64 1), (AVal.int .i64 6)] H fun x2 H3 =>
NOTK x2 fun x4 =>
BRK x4 (Q (AVal.bool false) H3) (LENK a0 fun x5 =>
spec_sgSquare.L4 Q a0 a0 x5 (AVal.int .i64 0) H3)
theorem start_eq (Q : AVal → Heap → Prop) (a0 : AVal) (H : Heap) : vs Try.prog lv 103 21 Try.f103.results.toList Q true 1000 [.sq (bodyOf Try.f103)] (entry [a0]) H = start_vc Q a0 H := by kernel_rfl
theorem start {Q : AVal → Heap → Prop} {a0 : AVal} {H : Heap} (h : start_vc Q a0 H) : ACalls Try.prog 103 [a0] H Q := acalls_vs (lv := lv) mixed Try.func103 rfl (by kernel_rfl) (by kernel_rfl) (start_eq Q a0 H ▸ h)
def step4_vc (Q : AVal → Heap → Prop) (v0 v9 v10 v11 : AVal) (H : Heap) : Prop :=
BINK .lss v11 v10 fun x1 =>
BRK x1 (TT ∧ IXK 1 v9 v11 fun x2 =>
TT ∧ TT ∧ LDK false 1 H x2 fun x3 =>
LENK x3 fun x4 =>
LENK v0 fun x5 =>
BINK .neq x4 x5 fun x6 =>
BRK x6 (Q (AVal.bool false) H) (BINK .add v11 (AVal.int .i64 1) fun x7 =>
spec_sgSquare.L4 Q v0 v9 v10 x7 H)) (Q (AVal.bool true) H)
theorem step4_eq (Q : AVal → Heap → Prop) (v0 v9 v10 v11 : AVal) (H : Heap) : vs Try.prog lv 103 21 Try.f103.results.toList Q true 1000 (.sq (cB (cB (cR (cL (cR (cR (bodyOf Try.f103))))))) :: K4) (slotsOf [(0, v0), (9, v9), (10, v10), (11, v11)]) H = step4_vc Q v0 v9 v10 v11 H := by kernel_rfl
theorem step4 {Q : AVal → Heap → Prop} {v0 v9 v10 v11 : AVal} {H : Heap} (h : step4_vc Q v0 v9 v10 v11 H) : L4 Q v0 v9 v10 v11 H := at_lp_vs (lv := lv) (ks := K4.tail) mixed Try.func103 (step4_eq Q v0 v9 v10 v11 H ▸ h)
end spec_sgSquare

/-! spec.sgGood (slots: 0 m, 1 m) -/
namespace spec_sgGood
def lv : List (Nat × List Nat) := []
def start_vc (Q : AVal → Heap → Prop) (a0 : AVal) (H : Heap) : Prop :=
ACalls Try.prog 103 [a0] H fun x1 H2 =>
SPL x1 (ACalls Try.prog 104 [a0] H2 fun x3 H4 =>
SPL x3 (ACalls Try.prog 105 [a0] H4 fun x5 H6 =>
ACalls Try.prog 104 [x5] H6 fun x7 H8 =>
Q x7 H8) (Q (AVal.bool false) H4)) (Q (AVal.bool false) H2)
theorem start_eq (Q : AVal → Heap → Prop) (a0 : AVal) (H : Heap) : vs Try.prog lv 53 14 Try.f53.results.toList Q true 1000 [.sq (bodyOf Try.f53)] (entry [a0]) H = start_vc Q a0 H := by kernel_rfl
theorem start {Q : AVal → Heap → Prop} {a0 : AVal} {H : Heap} (h : start_vc Q a0 H) : ACalls Try.prog 53 [a0] H Q := acalls_vs (lv := lv) mixed Try.func53 rfl (by kernel_rfl) (by kernel_rfl) (start_eq Q a0 H ▸ h)
end spec_sgGood

/-! spec.sgAt (slots: 0 c, 1 i, 2 j, 3 c, 4 i, 5 j) -/
namespace spec_sgAt
def lv : List (Nat × List Nat) := []
def start_vc (Q : AVal → Heap → Prop) (a0 a1 a2 : AVal) (H : Heap) : Prop :=
BINK .lss a1 (AVal.int .i64 0) fun x1 =>
SPL x1 (Q (AVal.int .i64 0) H) (BINK .lss a2 (AVal.int .i64 0) fun x2 =>
BRK x2 (Q (AVal.int .i64 0) H) (TT ∧ IXK 1 a0 a1 fun x3 =>
TT ∧ TT ∧ LDK false 1 H x3 fun x4 =>
TT ∧ IXK 1 x4 a2 fun x5 =>
TT ∧ TT ∧ LDK false 1 H x5 fun x6 =>
Q x6 H))
theorem start_eq (Q : AVal → Heap → Prop) (a0 a1 a2 : AVal) (H : Heap) : vs Try.prog lv 115 20 Try.f115.results.toList Q true 1000 [.sq (bodyOf Try.f115)] (entry [a0, a1, a2]) H = start_vc Q a0 a1 a2 H := by kernel_rfl
theorem start {Q : AVal → Heap → Prop} {a0 a1 a2 : AVal} {H : Heap} (h : start_vc Q a0 a1 a2 H) : ACalls Try.prog 115 [a0, a1, a2] H Q := acalls_vs (lv := lv) mixed Try.func115 rfl (by kernel_rfl) (by kernel_rfl) (start_eq Q a0 a1 a2 H ▸ h)
end spec_sgAt

/-! laws.big (slots: 0 code, 1 more, 2 code, 3 more) -/
namespace laws_big
def lv : List (Nat × List Nat) := []
def start_vc (Q : AVal → Heap → Prop) (a0 a1 : AVal) (H : Heap) : Prop :=
LENK a0 fun x1 =>
BINK .gtr x1 (AVal.int .i64 1048576) fun x2 =>
SPL x2 (Q (AVal.bool true) H) (LENK a1 fun x3 =>
LENK a0 fun x4 =>
BINK .sub (AVal.int .i64 1048576) x4 fun x5 =>
BINK .gtr x3 x5 fun x6 =>
Q x6 H)
theorem start_eq (Q : AVal → Heap → Prop) (a0 a1 : AVal) (H : Heap) : vs Try.prog lv 6 16 Try.f6.results.toList Q true 1000 [.sq (bodyOf Try.f6)] (entry [a0, a1]) H = start_vc Q a0 a1 H := by kernel_rfl
theorem start {Q : AVal → Heap → Prop} {a0 a1 : AVal} {H : Heap} (h : start_vc Q a0 a1 H) : ACalls Try.prog 6 [a0, a1] H Q := acalls_vs (lv := lv) mixed Try.func6 rfl (by kernel_rfl) (by kernel_rfl) (start_eq Q a0 a1 H ▸ h)
end laws_big

/-! laws.hSame (slots: 0 a, 1 b, 2 a, 3 b, 5 i) -/
namespace laws_hSame
def lv : List (Nat × List Nat) := [(4, [0, 1, 12, 13])]
noncomputable def K4 : List KF := [.lp (cB (cB (cR (cL (cR (cR (bodyOf Try.f63))))))), .bl 0, .sq (cR (cR (cR (bodyOf Try.f63))))]
def L4 (Q : AVal → Heap → Prop) (v0 v1 v12 v13 : AVal) (H : Heap) : Prop := At Try.prog 63 26 K4 Q (slotsOf [(0, v0), (1, v1), (12, v12), (13, v13)]) H
theorem L4_frz {Q : AVal → Heap → Prop} {v0 v1 v12 v13 w0 w1 w12 w13 : AVal} {H Hf Hk : Heap} {k : Nat} (hs : Split H Hf Hk) (hp : PurL Hf k [(0, v0, w0), (1, v1, w1), (12, v12, w12), (13, v13, w13)]) (h : L4 Q w0 w1 w12 w13 Hk) : L4 Q v0 v1 v12 v13 H := at_frz (ks := K4) hs hp h
def start_vc (Q : AVal → Heap → Prop) (a0 a1 : AVal) (H : Heap) : Prop :=
LENK a0 fun x1 =>
LENK a1 fun x2 =>
BINK .neq x1 x2 fun x3 =>
BRK x3 (Q (AVal.bool false) H) (LENK a0 fun x4 =>
laws_hSame.L4 Q a0 a1 x4 (AVal.int .i64 0) H)
theorem start_eq (Q : AVal → Heap → Prop) (a0 a1 : AVal) (H : Heap) : vs Try.prog lv 63 26 Try.f63.results.toList Q true 1000 [.sq (bodyOf Try.f63)] (entry [a0, a1]) H = start_vc Q a0 a1 H := by kernel_rfl
theorem start {Q : AVal → Heap → Prop} {a0 a1 : AVal} {H : Heap} (h : start_vc Q a0 a1 H) : ACalls Try.prog 63 [a0, a1] H Q := acalls_vs (lv := lv) mixed Try.func63 rfl (by kernel_rfl) (by kernel_rfl) (start_eq Q a0 a1 H ▸ h)
def step4_vc (Q : AVal → Heap → Prop) (v0 v1 v12 v13 : AVal) (H : Heap) : Prop :=
BINK .lss v13 v12 fun x1 =>
BRK x1 (TT ∧ TT ∧ IXK 1 v0 v13 fun x2 =>
TT ∧ TT ∧ LDK false 1 H x2 fun x3 =>
TT ∧ IXK 1 v1 v13 fun x4 =>
TT ∧ TT ∧ LDK false 1 H x4 fun x5 =>
BINK .neq x3 x5 fun x6 =>
BRK x6 (Q (AVal.bool false) H) (BINK .add v13 (AVal.int .i64 1) fun x7 =>
laws_hSame.L4 Q v0 v1 v12 x7 H)) (Q (AVal.bool true) H)
theorem step4_eq (Q : AVal → Heap → Prop) (v0 v1 v12 v13 : AVal) (H : Heap) : vs Try.prog lv 63 26 Try.f63.results.toList Q true 1000 (.sq (cB (cB (cR (cL (cR (cR (bodyOf Try.f63))))))) :: K4) (slotsOf [(0, v0), (1, v1), (12, v12), (13, v13)]) H = step4_vc Q v0 v1 v12 v13 H := by kernel_rfl
theorem step4 {Q : AVal → Heap → Prop} {v0 v1 v12 v13 : AVal} {H : Heap} (h : step4_vc Q v0 v1 v12 v13 H) : L4 Q v0 v1 v12 v13 H := at_lp_vs (lv := lv) (ks := K4.tail) mixed Try.func63 (step4_eq Q v0 v1 v12 v13 H ▸ h)
end laws_hSame

/-! laws.hRows (slots: 0 a, 1 b, 2 a, 3 b, 5 i) -/
namespace laws_hRows
def lv : List (Nat × List Nat) := [(4, [0, 1, 12, 13])]
noncomputable def K4 : List KF := [.lp (cB (cB (cR (cL (cR (cR (bodyOf Try.f12))))))), .bl 0, .sq (cR (cR (cR (bodyOf Try.f12))))]
def L4 (Q : AVal → Heap → Prop) (v0 v1 v12 v13 : AVal) (H : Heap) : Prop := At Try.prog 12 27 K4 Q (slotsOf [(0, v0), (1, v1), (12, v12), (13, v13)]) H
theorem L4_frz {Q : AVal → Heap → Prop} {v0 v1 v12 v13 w0 w1 w12 w13 : AVal} {H Hf Hk : Heap} {k : Nat} (hs : Split H Hf Hk) (hp : PurL Hf k [(0, v0, w0), (1, v1, w1), (12, v12, w12), (13, v13, w13)]) (h : L4 Q w0 w1 w12 w13 Hk) : L4 Q v0 v1 v12 v13 H := at_frz (ks := K4) hs hp h
def start_vc (Q : AVal → Heap → Prop) (a0 a1 : AVal) (H : Heap) : Prop :=
LENK a0 fun x1 =>
LENK a1 fun x2 =>
BINK .neq x1 x2 fun x3 =>
BRK x3 (Q (AVal.bool false) H) (LENK a0 fun x4 =>
laws_hRows.L4 Q a0 a1 x4 (AVal.int .i64 0) H)
theorem start_eq (Q : AVal → Heap → Prop) (a0 a1 : AVal) (H : Heap) : vs Try.prog lv 12 27 Try.f12.results.toList Q true 1000 [.sq (bodyOf Try.f12)] (entry [a0, a1]) H = start_vc Q a0 a1 H := by kernel_rfl
theorem start {Q : AVal → Heap → Prop} {a0 a1 : AVal} {H : Heap} (h : start_vc Q a0 a1 H) : ACalls Try.prog 12 [a0, a1] H Q := acalls_vs (lv := lv) mixed Try.func12 rfl (by kernel_rfl) (by kernel_rfl) (start_eq Q a0 a1 H ▸ h)
def step4_vc (Q : AVal → Heap → Prop) (v0 v1 v12 v13 : AVal) (H : Heap) : Prop :=
BINK .lss v13 v12 fun x1 =>
BRK x1 (TT ∧ TT ∧ IXK 1 v0 v13 fun x2 =>
TT ∧ TT ∧ LDK false 1 H x2 fun x3 =>
TT ∧ IXK 1 v1 v13 fun x4 =>
TT ∧ TT ∧ LDK false 1 H x4 fun x5 =>
ACalls Try.prog 63 [x3, x5] H fun x6 H7 =>
NOTK x6 fun x8 =>
BRK x8 (Q (AVal.bool false) H7) (BINK .add v13 (AVal.int .i64 1) fun x9 =>
laws_hRows.L4 Q v0 v1 v12 x9 H7)) (Q (AVal.bool true) H)
theorem step4_eq (Q : AVal → Heap → Prop) (v0 v1 v12 v13 : AVal) (H : Heap) : vs Try.prog lv 12 27 Try.f12.results.toList Q true 1000 (.sq (cB (cB (cR (cL (cR (cR (bodyOf Try.f12))))))) :: K4) (slotsOf [(0, v0), (1, v1), (12, v12), (13, v13)]) H = step4_vc Q v0 v1 v12 v13 H := by kernel_rfl
theorem step4 {Q : AVal → Heap → Prop} {v0 v1 v12 v13 : AVal} {H : Heap} (h : step4_vc Q v0 v1 v12 v13 H) : L4 Q v0 v1 v12 v13 H := at_lp_vs (lv := lv) (ks := K4.tail) mixed Try.func12 (step4_eq Q v0 v1 v12 v13 H ▸ h)
end laws_hRows

theorem hSame_loop {a b : List Int} {v u : AVal} (hv : IsInts v a) (hu : IsInts u b) (hl : a.length ≤ 1000000) (he : a.length = b.length) {H : Heap} {Q : AVal → Heap → Prop} : ∀ (n k : Nat), k + n = a.length → Q (.bool (decide (a.drop k = b.drop k))) H →
    laws_hSame.L4 Q v u (I a.length) (I k) H := by
  intro n
  induction n with
  | zero =>
    intro k hk hq
    apply laws_hSame.step4
    unfold laws_hSame.step4_vc
    repeat' (first
    | with_reducible refine rTT ?_
    | with_reducible refine rRFL ?_
    | with_reducible refine rLEN (by assumption) ?_
    | (with_reducible refine rIXk (by assumption) (by assumption) ?_; intro p hp)
    | (with_reducible refine rIX (by assumption) (by omega) (by omega) ?_; intro p a ha hp)
    | with_reducible refine rLDi (by assumption) ?_
    | (with_reducible refine rLD (by assumption) ?_; intro c hc)
    | with_reducible refine rADD (by omega) ?_
    | with_reducible refine rSUB (by omega) ?_
    | with_reducible refine rLSS ?_
    | with_reducible refine rLEQ ?_
    | with_reducible refine rGTR ?_
    | with_reducible refine rGEQ ?_
    | with_reducible refine rEQL ?_
    | with_reducible refine rNEQ ?_
    | with_reducible refine rNOT ?_
    | (with_reducible refine rBRK ?_ ?_ <;> intro hb)
    | (with_reducible refine rBRKn ?_ ?_ <;> intro hb)
    | (with_reducible refine rBRKnb ?_ ?_ <;> intro hb)
    | (with_reducible refine rBRKb ?_ ?_ <;> intro hb)
    | (with_reducible refine rSPL ?_ ?_ <;> intro hb)
    | (with_reducible refine rSPLn ?_ ?_ <;> intro hb)
    | (with_reducible refine rSPLnb ?_ ?_ <;> intro hb)
    | (with_reducible refine rSPLb ?_ ?_ <;> intro hb)
    | (exfalso; omega))
    rw [List.drop_eq_nil_of_le (by omega), List.drop_eq_nil_of_le (by omega)] at hq
    exact hq
  | succ n ih =>
    intro k hk hq
    obtain ⟨a1, ha1⟩ := ex_get (l := a) (k := k) (by omega)
    obtain ⟨b1, hb1⟩ := ex_get (l := b) (k := k) (by omega)
    apply laws_hSame.step4
    unfold laws_hSame.step4_vc
    repeat' (first
    | with_reducible refine rTT ?_
    | with_reducible refine rRFL ?_
    | with_reducible refine rLEN (by assumption) ?_
    | (with_reducible refine rIXk (by assumption) (by assumption) ?_; intro p hp)
    | (with_reducible refine rIX (by assumption) (by omega) (by omega) ?_; intro p a ha hp)
    | with_reducible refine rLDi (by assumption) ?_
    | (with_reducible refine rLD (by assumption) ?_; intro c hc)
    | with_reducible refine rADD (by omega) ?_
    | with_reducible refine rSUB (by omega) ?_
    | with_reducible refine rLSS ?_
    | with_reducible refine rLEQ ?_
    | with_reducible refine rGTR ?_
    | with_reducible refine rGEQ ?_
    | with_reducible refine rEQL ?_
    | with_reducible refine rNEQ ?_
    | with_reducible refine rNOT ?_
    | (with_reducible refine rBRK ?_ ?_ <;> intro hb)
    | (with_reducible refine rBRKn ?_ ?_ <;> intro hb)
    | (with_reducible refine rBRKnb ?_ ?_ <;> intro hb)
    | (with_reducible refine rBRKb ?_ ?_ <;> intro hb)
    | (with_reducible refine rSPL ?_ ?_ <;> intro hb)
    | (with_reducible refine rSPLn ?_ ?_ <;> intro hb)
    | (with_reducible refine rSPLnb ?_ ?_ <;> intro hb)
    | (with_reducible refine rSPLb ?_ ?_ <;> intro hb)
    | (exfalso; omega))
    · rw [drop_some ha1, drop_some hb1, decide_eq_false (by simp; intro h; exact absurd h hb)] at hq
      exact hq
    · rw [drop_some ha1, drop_some hb1] at hq
      have hab : a1 = b1 := Decidable.not_not.1 hb
      refine ih (k + 1) (by omega) ?_
      simpa [hab] using hq
theorem hSame_ok {a b : List Int} {v u : AVal} (hv : IsInts v a) (hu : IsInts u b) (hl : a.length ≤ 1000000) {H : Heap} : ACalls Try.prog 63 [v, u] H fun r H' => r = .bool (decide (a = b)) ∧ H' = H := by
  apply laws_hSame.start
  unfold laws_hSame.start_vc
  repeat' (first
    | with_reducible refine rTT ?_
    | with_reducible refine rRFL ?_
    | with_reducible refine rLEN (by assumption) ?_
    | (with_reducible refine rIXk (by assumption) (by assumption) ?_; intro p hp)
    | (with_reducible refine rIX (by assumption) (by omega) (by omega) ?_; intro p a ha hp)
    | with_reducible refine rLDi (by assumption) ?_
    | (with_reducible refine rLD (by assumption) ?_; intro c hc)
    | with_reducible refine rADD (by omega) ?_
    | with_reducible refine rSUB (by omega) ?_
    | with_reducible refine rLSS ?_
    | with_reducible refine rLEQ ?_
    | with_reducible refine rGTR ?_
    | with_reducible refine rGEQ ?_
    | with_reducible refine rEQL ?_
    | with_reducible refine rNEQ ?_
    | with_reducible refine rNOT ?_
    | (with_reducible refine rBRK ?_ ?_ <;> intro hb)
    | (with_reducible refine rBRKn ?_ ?_ <;> intro hb)
    | (with_reducible refine rBRKnb ?_ ?_ <;> intro hb)
    | (with_reducible refine rBRKb ?_ ?_ <;> intro hb)
    | (with_reducible refine rSPL ?_ ?_ <;> intro hb)
    | (with_reducible refine rSPLn ?_ ?_ <;> intro hb)
    | (with_reducible refine rSPLnb ?_ ?_ <;> intro hb)
    | (with_reducible refine rSPLb ?_ ?_ <;> intro hb)
    | (exfalso; omega))
  · exact ⟨by rw [decide_eq_false (fun h => by rw [h] at hb; exact hb rfl)], rfl⟩
  · exact hSame_loop hv hu hl (by omega) a.length 0 (by omega) ⟨rfl, rfl⟩
theorem l1Same_loop {a b : List Int} {v u : AVal} (hv : IsInts v a) (hu : IsInts u b) (hl : a.length ≤ 1000000) (he : a.length = b.length) {H : Heap} {Q : AVal → Heap → Prop} : ∀ (n k : Nat), k + n = a.length → Q (.bool (decide (a.drop k = b.drop k))) H →
    spec_l1Same.L4 Q v u (I a.length) (I k) H := by
  intro n
  induction n with
  | zero =>
    intro k hk hq
    apply spec_l1Same.step4
    unfold spec_l1Same.step4_vc
    repeat' (first
    | with_reducible refine rTT ?_
    | with_reducible refine rRFL ?_
    | with_reducible refine rLEN (by assumption) ?_
    | (with_reducible refine rIXk (by assumption) (by assumption) ?_; intro p hp)
    | (with_reducible refine rIX (by assumption) (by omega) (by omega) ?_; intro p a ha hp)
    | with_reducible refine rLDi (by assumption) ?_
    | (with_reducible refine rLD (by assumption) ?_; intro c hc)
    | with_reducible refine rADD (by omega) ?_
    | with_reducible refine rSUB (by omega) ?_
    | with_reducible refine rLSS ?_
    | with_reducible refine rLEQ ?_
    | with_reducible refine rGTR ?_
    | with_reducible refine rGEQ ?_
    | with_reducible refine rEQL ?_
    | with_reducible refine rNEQ ?_
    | with_reducible refine rNOT ?_
    | (with_reducible refine rBRK ?_ ?_ <;> intro hb)
    | (with_reducible refine rBRKn ?_ ?_ <;> intro hb)
    | (with_reducible refine rBRKnb ?_ ?_ <;> intro hb)
    | (with_reducible refine rBRKb ?_ ?_ <;> intro hb)
    | (with_reducible refine rSPL ?_ ?_ <;> intro hb)
    | (with_reducible refine rSPLn ?_ ?_ <;> intro hb)
    | (with_reducible refine rSPLnb ?_ ?_ <;> intro hb)
    | (with_reducible refine rSPLb ?_ ?_ <;> intro hb)
    | (exfalso; omega))
    rw [List.drop_eq_nil_of_le (by omega), List.drop_eq_nil_of_le (by omega)] at hq
    exact hq
  | succ n ih =>
    intro k hk hq
    obtain ⟨a1, ha1⟩ := ex_get (l := a) (k := k) (by omega)
    obtain ⟨b1, hb1⟩ := ex_get (l := b) (k := k) (by omega)
    apply spec_l1Same.step4
    unfold spec_l1Same.step4_vc
    repeat' (first
    | with_reducible refine rTT ?_
    | with_reducible refine rRFL ?_
    | with_reducible refine rLEN (by assumption) ?_
    | (with_reducible refine rIXk (by assumption) (by assumption) ?_; intro p hp)
    | (with_reducible refine rIX (by assumption) (by omega) (by omega) ?_; intro p a ha hp)
    | with_reducible refine rLDi (by assumption) ?_
    | (with_reducible refine rLD (by assumption) ?_; intro c hc)
    | with_reducible refine rADD (by omega) ?_
    | with_reducible refine rSUB (by omega) ?_
    | with_reducible refine rLSS ?_
    | with_reducible refine rLEQ ?_
    | with_reducible refine rGTR ?_
    | with_reducible refine rGEQ ?_
    | with_reducible refine rEQL ?_
    | with_reducible refine rNEQ ?_
    | with_reducible refine rNOT ?_
    | (with_reducible refine rBRK ?_ ?_ <;> intro hb)
    | (with_reducible refine rBRKn ?_ ?_ <;> intro hb)
    | (with_reducible refine rBRKnb ?_ ?_ <;> intro hb)
    | (with_reducible refine rBRKb ?_ ?_ <;> intro hb)
    | (with_reducible refine rSPL ?_ ?_ <;> intro hb)
    | (with_reducible refine rSPLn ?_ ?_ <;> intro hb)
    | (with_reducible refine rSPLnb ?_ ?_ <;> intro hb)
    | (with_reducible refine rSPLb ?_ ?_ <;> intro hb)
    | (exfalso; omega))
    · rw [drop_some ha1, drop_some hb1, decide_eq_false (by simp; intro h; exact absurd h hb)] at hq
      exact hq
    · rw [drop_some ha1, drop_some hb1] at hq
      have hab : a1 = b1 := Decidable.not_not.1 hb
      refine ih (k + 1) (by omega) ?_
      simpa [hab] using hq
theorem l1Same_ok {a b : List Int} {v u : AVal} (hv : IsInts v a) (hu : IsInts u b) (hl : a.length ≤ 1000000) {H : Heap} : ACalls Try.prog 133 [v, u] H fun r H' => r = .bool (decide (a = b)) ∧ H' = H := by
  apply spec_l1Same.start
  unfold spec_l1Same.start_vc
  repeat' (first
    | with_reducible refine rTT ?_
    | with_reducible refine rRFL ?_
    | with_reducible refine rLEN (by assumption) ?_
    | (with_reducible refine rIXk (by assumption) (by assumption) ?_; intro p hp)
    | (with_reducible refine rIX (by assumption) (by omega) (by omega) ?_; intro p a ha hp)
    | with_reducible refine rLDi (by assumption) ?_
    | (with_reducible refine rLD (by assumption) ?_; intro c hc)
    | with_reducible refine rADD (by omega) ?_
    | with_reducible refine rSUB (by omega) ?_
    | with_reducible refine rLSS ?_
    | with_reducible refine rLEQ ?_
    | with_reducible refine rGTR ?_
    | with_reducible refine rGEQ ?_
    | with_reducible refine rEQL ?_
    | with_reducible refine rNEQ ?_
    | with_reducible refine rNOT ?_
    | (with_reducible refine rBRK ?_ ?_ <;> intro hb)
    | (with_reducible refine rBRKn ?_ ?_ <;> intro hb)
    | (with_reducible refine rBRKnb ?_ ?_ <;> intro hb)
    | (with_reducible refine rBRKb ?_ ?_ <;> intro hb)
    | (with_reducible refine rSPL ?_ ?_ <;> intro hb)
    | (with_reducible refine rSPLn ?_ ?_ <;> intro hb)
    | (with_reducible refine rSPLnb ?_ ?_ <;> intro hb)
    | (with_reducible refine rSPLb ?_ ?_ <;> intro hb)
    | (exfalso; omega))
  · exact ⟨by rw [decide_eq_false (fun h => by rw [h] at hb; exact hb rfl)], rfl⟩
  · exact l1Same_loop hv hu hl (by omega) a.length 0 (by omega) ⟨rfl, rfl⟩
theorem hRows_loop {a b : List (List Int)} {v u : AVal} (hv : IsTab v a) (hu : IsTab u b) (hl : a.length ≤ 1000000) (hr : ∀ r ∈ a, r.length ≤ 1000000) (he : a.length = b.length) {H : Heap} {Q : AVal → Heap → Prop} : ∀ (n k : Nat), k + n = a.length → Q (.bool (decide (a.drop k = b.drop k))) H →
    laws_hRows.L4 Q v u (I a.length) (I k) H := by
  intro n
  induction n with
  | zero =>
    intro k hk hq
    apply laws_hRows.step4
    unfold laws_hRows.step4_vc
    repeat' (first
    | with_reducible refine rTT ?_
    | with_reducible refine rRFL ?_
    | with_reducible refine rLEN (by assumption) ?_
    | (with_reducible refine rIXk (by assumption) (by assumption) ?_; intro p hp)
    | (with_reducible refine rIX (by assumption) (by omega) (by omega) ?_; intro p a ha hp)
    | with_reducible refine rLDi (by assumption) ?_
    | (with_reducible refine rLD (by assumption) ?_; intro c hc)
    | with_reducible refine rADD (by omega) ?_
    | with_reducible refine rSUB (by omega) ?_
    | with_reducible refine rLSS ?_
    | with_reducible refine rLEQ ?_
    | with_reducible refine rGTR ?_
    | with_reducible refine rGEQ ?_
    | with_reducible refine rEQL ?_
    | with_reducible refine rNEQ ?_
    | with_reducible refine rNOT ?_
    | (with_reducible refine rBRK ?_ ?_ <;> intro hb)
    | (with_reducible refine rBRKn ?_ ?_ <;> intro hb)
    | (with_reducible refine rBRKnb ?_ ?_ <;> intro hb)
    | (with_reducible refine rBRKb ?_ ?_ <;> intro hb)
    | (with_reducible refine rSPL ?_ ?_ <;> intro hb)
    | (with_reducible refine rSPLn ?_ ?_ <;> intro hb)
    | (with_reducible refine rSPLnb ?_ ?_ <;> intro hb)
    | (with_reducible refine rSPLb ?_ ?_ <;> intro hb)
    | (exfalso; omega))
    rw [List.drop_eq_nil_of_le (by omega), List.drop_eq_nil_of_le (by omega)] at hq
    exact hq
  | succ n ih =>
    intro k hk hq
    obtain ⟨a1, ha1⟩ := ex_get (l := a) (k := k) (by omega)
    obtain ⟨b1, hb1⟩ := ex_get (l := b) (k := k) (by omega)
    apply laws_hRows.step4
    unfold laws_hRows.step4_vc
    repeat' (first
    | with_reducible refine rTT ?_
    | with_reducible refine rRFL ?_
    | with_reducible refine rLEN (by assumption) ?_
    | (with_reducible refine rIXk (by assumption) (by assumption) ?_; intro p hp)
    | (with_reducible refine rIX (by assumption) (by omega) (by omega) ?_; intro p a ha hp)
    | with_reducible refine rLDi (by assumption) ?_
    | (with_reducible refine rLD (by assumption) ?_; intro c hc)
    | with_reducible refine rADD (by omega) ?_
    | with_reducible refine rSUB (by omega) ?_
    | with_reducible refine rLSS ?_
    | with_reducible refine rLEQ ?_
    | with_reducible refine rGTR ?_
    | with_reducible refine rGEQ ?_
    | with_reducible refine rEQL ?_
    | with_reducible refine rNEQ ?_
    | with_reducible refine rNOT ?_
    | (with_reducible refine rBRK ?_ ?_ <;> intro hb)
    | (with_reducible refine rBRKn ?_ ?_ <;> intro hb)
    | (with_reducible refine rBRKnb ?_ ?_ <;> intro hb)
    | (with_reducible refine rBRKb ?_ ?_ <;> intro hb)
    | (with_reducible refine rSPL ?_ ?_ <;> intro hb)
    | (with_reducible refine rSPLn ?_ ?_ <;> intro hb)
    | (with_reducible refine rSPLnb ?_ ?_ <;> intro hb)
    | (with_reducible refine rSPLb ?_ ?_ <;> intro hb)
    | (exfalso; omega))
    rw [drop_some ha1, drop_some hb1] at hq
    refine ACalls.mono (hSame_ok (by assumption) (by assumption) (hr _ (List.mem_of_getElem? ha1))) ?_
    rintro r H' ⟨rfl, rfl⟩
    repeat' (first
    | with_reducible refine rTT ?_
    | with_reducible refine rRFL ?_
    | with_reducible refine rLEN (by assumption) ?_
    | (with_reducible refine rIXk (by assumption) (by assumption) ?_; intro p hp)
    | (with_reducible refine rIX (by assumption) (by omega) (by omega) ?_; intro p a ha hp)
    | with_reducible refine rLDi (by assumption) ?_
    | (with_reducible refine rLD (by assumption) ?_; intro c hc)
    | with_reducible refine rADD (by omega) ?_
    | with_reducible refine rSUB (by omega) ?_
    | with_reducible refine rLSS ?_
    | with_reducible refine rLEQ ?_
    | with_reducible refine rGTR ?_
    | with_reducible refine rGEQ ?_
    | with_reducible refine rEQL ?_
    | with_reducible refine rNEQ ?_
    | with_reducible refine rNOT ?_
    | (with_reducible refine rBRK ?_ ?_ <;> intro hb)
    | (with_reducible refine rBRKn ?_ ?_ <;> intro hb)
    | (with_reducible refine rBRKnb ?_ ?_ <;> intro hb)
    | (with_reducible refine rBRKb ?_ ?_ <;> intro hb)
    | (with_reducible refine rSPL ?_ ?_ <;> intro hb)
    | (with_reducible refine rSPLn ?_ ?_ <;> intro hb)
    | (with_reducible refine rSPLnb ?_ ?_ <;> intro hb)
    | (with_reducible refine rSPLb ?_ ?_ <;> intro hb)
    | (exfalso; omega))
    · rw [decide_eq_false (by simp; intro h; exact absurd h hb)] at hq
      exact hq
    · refine ih (k + 1) (by omega) ?_
      simpa [hb] using hq
theorem hRows_ok {a b : List (List Int)} {v u : AVal} (hv : IsTab v a) (hu : IsTab u b) (hl : a.length ≤ 1000000) (hr : ∀ r ∈ a, r.length ≤ 1000000) {H : Heap} : ACalls Try.prog 12 [v, u] H fun r H' => r = .bool (decide (a = b)) ∧ H' = H := by
  apply laws_hRows.start
  unfold laws_hRows.start_vc
  repeat' (first
    | with_reducible refine rTT ?_
    | with_reducible refine rRFL ?_
    | with_reducible refine rLEN (by assumption) ?_
    | (with_reducible refine rIXk (by assumption) (by assumption) ?_; intro p hp)
    | (with_reducible refine rIX (by assumption) (by omega) (by omega) ?_; intro p a ha hp)
    | with_reducible refine rLDi (by assumption) ?_
    | (with_reducible refine rLD (by assumption) ?_; intro c hc)
    | with_reducible refine rADD (by omega) ?_
    | with_reducible refine rSUB (by omega) ?_
    | with_reducible refine rLSS ?_
    | with_reducible refine rLEQ ?_
    | with_reducible refine rGTR ?_
    | with_reducible refine rGEQ ?_
    | with_reducible refine rEQL ?_
    | with_reducible refine rNEQ ?_
    | with_reducible refine rNOT ?_
    | (with_reducible refine rBRK ?_ ?_ <;> intro hb)
    | (with_reducible refine rBRKn ?_ ?_ <;> intro hb)
    | (with_reducible refine rBRKnb ?_ ?_ <;> intro hb)
    | (with_reducible refine rBRKb ?_ ?_ <;> intro hb)
    | (with_reducible refine rSPL ?_ ?_ <;> intro hb)
    | (with_reducible refine rSPLn ?_ ?_ <;> intro hb)
    | (with_reducible refine rSPLnb ?_ ?_ <;> intro hb)
    | (with_reducible refine rSPLb ?_ ?_ <;> intro hb)
    | (exfalso; omega))
  · exact ⟨by rw [decide_eq_false (fun h => by rw [h] at hb; exact hb rfl)], rfl⟩
  · exact hRows_loop hv hu hl hr (by omega) a.length 0 (by omega) ⟨rfl, rfl⟩
theorem big_ok {α β : Type} {R : AVal → α → Prop} {S : AVal → β → Prop} {a : List α} {b : List β} {v u : AVal} (hv : IsSl R v a) (hu : IsSl S u b) (ha : a.length ≤ 9223372036854775807) (hb' : b.length ≤ 9223372036854775807) {H : Heap} :
    ACalls Try.prog 6 [v, u] H fun r H' => r = .bool (decide (a.length + b.length > 1048576)) ∧ H' = H := by
  apply laws_big.start
  unfold laws_big.start_vc
  repeat' (first
    | with_reducible refine rTT ?_
    | with_reducible refine rRFL ?_
    | with_reducible refine rLEN (by assumption) ?_
    | (with_reducible refine rIXk (by assumption) (by assumption) ?_; intro p hp)
    | (with_reducible refine rIX (by assumption) (by omega) (by omega) ?_; intro p a ha hp)
    | with_reducible refine rLDi (by assumption) ?_
    | (with_reducible refine rLD (by assumption) ?_; intro c hc)
    | with_reducible refine rADD (by omega) ?_
    | with_reducible refine rSUB (by omega) ?_
    | with_reducible refine rLSS ?_
    | with_reducible refine rLEQ ?_
    | with_reducible refine rGTR ?_
    | with_reducible refine rGEQ ?_
    | with_reducible refine rEQL ?_
    | with_reducible refine rNEQ ?_
    | with_reducible refine rNOT ?_
    | (with_reducible refine rBRK ?_ ?_ <;> intro hb)
    | (with_reducible refine rBRKn ?_ ?_ <;> intro hb)
    | (with_reducible refine rBRKnb ?_ ?_ <;> intro hb)
    | (with_reducible refine rBRKb ?_ ?_ <;> intro hb)
    | (with_reducible refine rSPL ?_ ?_ <;> intro hb)
    | (with_reducible refine rSPLn ?_ ?_ <;> intro hb)
    | (with_reducible refine rSPLnb ?_ ?_ <;> intro hb)
    | (with_reducible refine rSPLb ?_ ?_ <;> intro hb)
    | (exfalso; omega))
  · exact ⟨by rw [decide_eq_true (by omega)], rfl⟩
  · exact ⟨by congr 1; simp only [decide_eq_decide]; omega, rfl⟩

theorem l1All_loop {l : List Int} {lo hi : Int} {v : AVal} (hv : IsInts v l) (hl : l.length ≤ 1000000) {H : Heap} {Q : AVal → Heap → Prop} : ∀ (n k : Nat), k + n = l.length → Q (.bool ((l.drop k).all fun n => decide (lo ≤ n ∧ n ≤ hi))) H →
    spec_l1All.L2 Q (I lo) (I hi) v (I l.length) (I k) H := by
  intro n
  induction n with
  | zero =>
    intro k hk hq
    apply spec_l1All.step2
    unfold spec_l1All.step2_vc
    repeat' (first
    | with_reducible refine rTT ?_
    | with_reducible refine rRFL ?_
    | with_reducible refine rLEN (by assumption) ?_
    | (with_reducible refine rIXk (by assumption) (by assumption) ?_; intro p hp)
    | (with_reducible refine rIX (by assumption) (by omega) (by omega) ?_; intro p a ha hp)
    | with_reducible refine rLDi (by assumption) ?_
    | (with_reducible refine rLD (by assumption) ?_; intro c hc)
    | with_reducible refine rADD (by omega) ?_
    | with_reducible refine rSUB (by omega) ?_
    | with_reducible refine rLSS ?_
    | with_reducible refine rLEQ ?_
    | with_reducible refine rGTR ?_
    | with_reducible refine rGEQ ?_
    | with_reducible refine rEQL ?_
    | with_reducible refine rNEQ ?_
    | with_reducible refine rNOT ?_
    | (with_reducible refine rBRK ?_ ?_ <;> intro hb)
    | (with_reducible refine rBRKn ?_ ?_ <;> intro hb)
    | (with_reducible refine rBRKnb ?_ ?_ <;> intro hb)
    | (with_reducible refine rBRKb ?_ ?_ <;> intro hb)
    | (with_reducible refine rSPL ?_ ?_ <;> intro hb)
    | (with_reducible refine rSPLn ?_ ?_ <;> intro hb)
    | (with_reducible refine rSPLnb ?_ ?_ <;> intro hb)
    | (with_reducible refine rSPLb ?_ ?_ <;> intro hb)
    | (exfalso; omega))
    rw [List.drop_eq_nil_of_le (by omega)] at hq
    exact hq
  | succ n ih =>
    intro k hk hq
    apply spec_l1All.step2
    unfold spec_l1All.step2_vc
    repeat' (first
    | with_reducible refine rTT ?_
    | (with_reducible refine ACalls.mono (l1In_ok) ?_; rintro r H' ⟨rfl, rfl⟩)
    | with_reducible refine rRFL ?_
    | with_reducible refine rLEN (by assumption) ?_
    | (with_reducible refine rIXk (by assumption) (by assumption) ?_; intro p hp)
    | (with_reducible refine rIX (by assumption) (by omega) (by omega) ?_; intro p a ha hp)
    | with_reducible refine rLDi (by assumption) ?_
    | (with_reducible refine rLD (by assumption) ?_; intro c hc)
    | with_reducible refine rADD (by omega) ?_
    | with_reducible refine rSUB (by omega) ?_
    | with_reducible refine rLSS ?_
    | with_reducible refine rLEQ ?_
    | with_reducible refine rGTR ?_
    | with_reducible refine rGEQ ?_
    | with_reducible refine rEQL ?_
    | with_reducible refine rNEQ ?_
    | with_reducible refine rNOT ?_
    | (with_reducible refine rBRK ?_ ?_ <;> intro hb)
    | (with_reducible refine rBRKn ?_ ?_ <;> intro hb)
    | (with_reducible refine rBRKnb ?_ ?_ <;> intro hb)
    | (with_reducible refine rBRKb ?_ ?_ <;> intro hb)
    | (with_reducible refine rSPL ?_ ?_ <;> intro hb)
    | (with_reducible refine rSPLn ?_ ?_ <;> intro hb)
    | (with_reducible refine rSPLnb ?_ ?_ <;> intro hb)
    | (with_reducible refine rSPLb ?_ ?_ <;> intro hb)
    | (exfalso; omega))
    · rw [drop_someI ha, List.all_cons, decide_eq_false hb, Bool.false_and] at hq
      exact hq
    · rw [drop_someI ha, List.all_cons, decide_eq_true hb, Bool.true_and] at hq
      exact ih (k + 1) (by omega) hq
theorem l1All_ok {l : List Int} {lo hi : Int} {v : AVal} (hv : IsInts v l) (hl : l.length ≤ 1000000) {H : Heap} : ACalls Try.prog 116 [v, I lo, I hi] H fun r H' => r = .bool (l.all fun n => decide (lo ≤ n ∧ n ≤ hi)) ∧ H' = H := by
  apply spec_l1All.start
  unfold spec_l1All.start_vc
  repeat' (first
    | with_reducible refine rTT ?_
    | with_reducible refine rRFL ?_
    | with_reducible refine rLEN (by assumption) ?_
    | (with_reducible refine rIXk (by assumption) (by assumption) ?_; intro p hp)
    | (with_reducible refine rIX (by assumption) (by omega) (by omega) ?_; intro p a ha hp)
    | with_reducible refine rLDi (by assumption) ?_
    | (with_reducible refine rLD (by assumption) ?_; intro c hc)
    | with_reducible refine rADD (by omega) ?_
    | with_reducible refine rSUB (by omega) ?_
    | with_reducible refine rLSS ?_
    | with_reducible refine rLEQ ?_
    | with_reducible refine rGTR ?_
    | with_reducible refine rGEQ ?_
    | with_reducible refine rEQL ?_
    | with_reducible refine rNEQ ?_
    | with_reducible refine rNOT ?_
    | (with_reducible refine rBRK ?_ ?_ <;> intro hb)
    | (with_reducible refine rBRKn ?_ ?_ <;> intro hb)
    | (with_reducible refine rBRKnb ?_ ?_ <;> intro hb)
    | (with_reducible refine rBRKb ?_ ?_ <;> intro hb)
    | (with_reducible refine rSPL ?_ ?_ <;> intro hb)
    | (with_reducible refine rSPLn ?_ ?_ <;> intro hb)
    | (with_reducible refine rSPLnb ?_ ?_ <;> intro hb)
    | (with_reducible refine rSPLb ?_ ?_ <;> intro hb)
    | (exfalso; omega))
  exact l1All_loop hv hl l.length 0 (by omega) ⟨rfl, rfl⟩

theorem l1Least_ok {a b : Int} {H : Heap} : ACalls Try.prog 135 [I a, I b] H fun r H' => r = I (if a < b then a else b) ∧ H' = H := by
  apply spec_l1Least.start
  unfold spec_l1Least.start_vc
  repeat' (first
    | with_reducible refine rTT ?_
    | with_reducible refine rRFL ?_
    | with_reducible refine rLEN (by assumption) ?_
    | (with_reducible refine rIXk (by assumption) (by assumption) ?_; intro p hp)
    | (with_reducible refine rIX (by assumption) (by omega) (by omega) ?_; intro p a ha hp)
    | with_reducible refine rLDi (by assumption) ?_
    | (with_reducible refine rLD (by assumption) ?_; intro c hc)
    | with_reducible refine rADD (by omega) ?_
    | with_reducible refine rSUB (by omega) ?_
    | with_reducible refine rLSS ?_
    | with_reducible refine rLEQ ?_
    | with_reducible refine rGTR ?_
    | with_reducible refine rGEQ ?_
    | with_reducible refine rEQL ?_
    | with_reducible refine rNEQ ?_
    | with_reducible refine rNOT ?_
    | (with_reducible refine rBRK ?_ ?_ <;> intro hb)
    | (with_reducible refine rBRKn ?_ ?_ <;> intro hb)
    | (with_reducible refine rBRKnb ?_ ?_ <;> intro hb)
    | (with_reducible refine rBRKb ?_ ?_ <;> intro hb)
    | (with_reducible refine rSPL ?_ ?_ <;> intro hb)
    | (with_reducible refine rSPLn ?_ ?_ <;> intro hb)
    | (with_reducible refine rSPLnb ?_ ?_ <;> intro hb)
    | (with_reducible refine rSPLb ?_ ?_ <;> intro hb)
    | (exfalso; omega))
  · exact ⟨by rw [if_pos hb], rfl⟩
  · exact ⟨by rw [if_neg hb], rfl⟩

theorem sgSquare_loop {t : List (List Int)} {v : AVal} (hv : IsTab v t) (hl : t.length ≤ 6) (hr : ∀ r ∈ t, r.length ≤ 1000000) {H : Heap} {Q : AVal → Heap → Prop} : ∀ (n k : Nat), k + n = t.length → Q (.bool ((t.drop k).all fun r => decide (r.length = t.length))) H →
    spec_sgSquare.L4 Q v v (I t.length) (I k) H := by
  intro n
  induction n with
  | zero =>
    intro k hk hq
    apply spec_sgSquare.step4
    unfold spec_sgSquare.step4_vc
    repeat' (first
    | with_reducible refine rTT ?_
    | with_reducible refine rRFL ?_
    | with_reducible refine rLEN (by assumption) ?_
    | (with_reducible refine rIXk (by assumption) (by assumption) ?_; intro p hp)
    | (with_reducible refine rIX (by assumption) (by omega) (by omega) ?_; intro p a ha hp)
    | with_reducible refine rLDi (by assumption) ?_
    | (with_reducible refine rLD (by assumption) ?_; intro c hc)
    | with_reducible refine rADD (by omega) ?_
    | with_reducible refine rSUB (by omega) ?_
    | with_reducible refine rLSS ?_
    | with_reducible refine rLEQ ?_
    | with_reducible refine rGTR ?_
    | with_reducible refine rGEQ ?_
    | with_reducible refine rEQL ?_
    | with_reducible refine rNEQ ?_
    | with_reducible refine rNOT ?_
    | (with_reducible refine rBRK ?_ ?_ <;> intro hb)
    | (with_reducible refine rBRKn ?_ ?_ <;> intro hb)
    | (with_reducible refine rBRKnb ?_ ?_ <;> intro hb)
    | (with_reducible refine rBRKb ?_ ?_ <;> intro hb)
    | (with_reducible refine rSPL ?_ ?_ <;> intro hb)
    | (with_reducible refine rSPLn ?_ ?_ <;> intro hb)
    | (with_reducible refine rSPLnb ?_ ?_ <;> intro hb)
    | (with_reducible refine rSPLb ?_ ?_ <;> intro hb)
    | (exfalso; omega))
    rw [List.drop_eq_nil_of_le (by omega)] at hq
    exact hq
  | succ n ih =>
    intro k hk hq
    apply spec_sgSquare.step4
    unfold spec_sgSquare.step4_vc
    repeat' (first
    | with_reducible refine rTT ?_
    | with_reducible refine rRFL ?_
    | with_reducible refine rLEN (by assumption) ?_
    | (with_reducible refine rIXk (by assumption) (by assumption) ?_; intro p hp)
    | (with_reducible refine rIX (by assumption) (by omega) (by omega) ?_; intro p a ha hp)
    | with_reducible refine rLDi (by assumption) ?_
    | (with_reducible refine rLD (by assumption) ?_; intro c hc)
    | with_reducible refine rADD (by omega) ?_
    | with_reducible refine rSUB (by omega) ?_
    | with_reducible refine rLSS ?_
    | with_reducible refine rLEQ ?_
    | with_reducible refine rGTR ?_
    | with_reducible refine rGEQ ?_
    | with_reducible refine rEQL ?_
    | with_reducible refine rNEQ ?_
    | with_reducible refine rNOT ?_
    | (with_reducible refine rBRK ?_ ?_ <;> intro hb)
    | (with_reducible refine rBRKn ?_ ?_ <;> intro hb)
    | (with_reducible refine rBRKnb ?_ ?_ <;> intro hb)
    | (with_reducible refine rBRKb ?_ ?_ <;> intro hb)
    | (with_reducible refine rSPL ?_ ?_ <;> intro hb)
    | (with_reducible refine rSPLn ?_ ?_ <;> intro hb)
    | (with_reducible refine rSPLnb ?_ ?_ <;> intro hb)
    | (with_reducible refine rSPLb ?_ ?_ <;> intro hb)
    | (exfalso; omega))
    · rw [drop_someI ha, List.all_cons, decide_eq_false (by omega), Bool.false_and] at hq
      exact hq
    · rw [drop_someI ha, List.all_cons, decide_eq_true (by omega), Bool.true_and] at hq
      exact ih (k + 1) (by omega) hq
theorem sgSquare_ok {t : List (List Int)} {v : AVal} (hv : IsTab v t) (hl : t.length ≤ 1000000) (hr : ∀ r ∈ t, r.length ≤ 1000000) {H : Heap} : ACalls Try.prog 103 [v] H fun r H' => r = .bool (decide (1 ≤ t.length ∧ t.length ≤ 6) && isSquareB t) ∧ H' = H := by
  apply spec_sgSquare.start
  unfold spec_sgSquare.start_vc
  repeat' (first
    | with_reducible refine rTT ?_
    | (with_reducible refine ACalls.mono (l1In_ok) ?_; rintro r H' ⟨rfl, rfl⟩)
    | with_reducible refine rRFL ?_
    | with_reducible refine rLEN (by assumption) ?_
    | (with_reducible refine rIXk (by assumption) (by assumption) ?_; intro p hp)
    | (with_reducible refine rIX (by assumption) (by omega) (by omega) ?_; intro p a ha hp)
    | with_reducible refine rLDi (by assumption) ?_
    | (with_reducible refine rLD (by assumption) ?_; intro c hc)
    | with_reducible refine rADD (by omega) ?_
    | with_reducible refine rSUB (by omega) ?_
    | with_reducible refine rLSS ?_
    | with_reducible refine rLEQ ?_
    | with_reducible refine rGTR ?_
    | with_reducible refine rGEQ ?_
    | with_reducible refine rEQL ?_
    | with_reducible refine rNEQ ?_
    | with_reducible refine rNOT ?_
    | (with_reducible refine rBRK ?_ ?_ <;> intro hb)
    | (with_reducible refine rBRKn ?_ ?_ <;> intro hb)
    | (with_reducible refine rBRKnb ?_ ?_ <;> intro hb)
    | (with_reducible refine rBRKb ?_ ?_ <;> intro hb)
    | (with_reducible refine rSPL ?_ ?_ <;> intro hb)
    | (with_reducible refine rSPLn ?_ ?_ <;> intro hb)
    | (with_reducible refine rSPLnb ?_ ?_ <;> intro hb)
    | (with_reducible refine rSPLb ?_ ?_ <;> intro hb)
    | (exfalso; omega))
  · exact ⟨by rw [decide_eq_false (by omega)]; rfl, rfl⟩
  · exact sgSquare_loop hv (by omega) hr t.length 0 (by omega) ⟨by rw [decide_eq_true (by omega)]; rfl, rfl⟩

/-! ### Rows -/
theorem sgRows_in {t : List (List Int)} {v vr : AVal} {row : List Int} {H : Heap} {Q : AVal → Heap → Prop} (hv : IsTab v t) (hr : IsInts vr row) (hl : row.length ≤ 1000000) (htl : t.length ≤ 1000000) {j : Nat} (hj : j < t.length) (hno : alternateB row = false → Q (.bool false) H)
    (hyes : alternateB row = true → spec_sgRows.L2 Q v (I t.length) (I (j + 1 : Nat)) H) : ∀ (n k : Nat) (s : Int), k + n = row.length → alternateG (row.drop k) s = alternateB row →
    spec_sgRows.L6 Q (I s) v (I t.length) (I j) vr (I row.length) (I k) H := by
  intro n
  induction n with
  | zero =>
    intro k s hk hq
    apply spec_sgRows.step6
    unfold spec_sgRows.step6_vc
    rw [List.drop_eq_nil_of_le (by omega)] at hq
    simp only [alternateG] at hq
    repeat' (first
    | with_reducible refine rTT ?_
    | with_reducible refine rRFL ?_
    | with_reducible refine rLEN (by assumption) ?_
    | (with_reducible refine rIXk (by assumption) (by assumption) ?_; intro p hp)
    | (with_reducible refine rIX (by assumption) (by omega) (by omega) ?_; intro p a ha hp)
    | with_reducible refine rLDi (by assumption) ?_
    | (with_reducible refine rLD (by assumption) ?_; intro c hc)
    | with_reducible refine rADD (by omega) ?_
    | with_reducible refine rSUB (by omega) ?_
    | with_reducible refine rLSS ?_
    | with_reducible refine rLEQ ?_
    | with_reducible refine rGTR ?_
    | with_reducible refine rGEQ ?_
    | with_reducible refine rEQL ?_
    | with_reducible refine rNEQ ?_
    | with_reducible refine rNOT ?_
    | (with_reducible refine rBRK ?_ ?_ <;> intro hb)
    | (with_reducible refine rBRKn ?_ ?_ <;> intro hb)
    | (with_reducible refine rBRKnb ?_ ?_ <;> intro hb)
    | (with_reducible refine rBRKb ?_ ?_ <;> intro hb)
    | (with_reducible refine rSPL ?_ ?_ <;> intro hb)
    | (with_reducible refine rSPLn ?_ ?_ <;> intro hb)
    | (with_reducible refine rSPLnb ?_ ?_ <;> intro hb)
    | (with_reducible refine rSPLb ?_ ?_ <;> intro hb)
    | (exfalso; omega))
    · exact hno (by rw [← hq]; exact decide_eq_false hb)
    · exact hyes (by rw [← hq]; exact decide_eq_true (Decidable.not_not.1 hb))
  | succ n ih =>
    intro k s hk hq
    apply spec_sgRows.step6
    unfold spec_sgRows.step6_vc
    repeat' (first
    | with_reducible refine rTT ?_
    | (with_reducible refine ACalls.mono (l1In_ok) ?_; rintro r H' ⟨rfl, rfl⟩)
    | with_reducible refine rRFL ?_
    | with_reducible refine rLEN (by assumption) ?_
    | (with_reducible refine rIXk (by assumption) (by assumption) ?_; intro p hp)
    | (with_reducible refine rIX (by assumption) (by omega) (by omega) ?_; intro p a ha hp)
    | with_reducible refine rLDi (by assumption) ?_
    | (with_reducible refine rLD (by assumption) ?_; intro c hc)
    | with_reducible refine rADD (by omega) ?_
    | with_reducible refine rSUB (by omega) ?_
    | with_reducible refine rLSS ?_
    | with_reducible refine rLEQ ?_
    | with_reducible refine rGTR ?_
    | with_reducible refine rGEQ ?_
    | with_reducible refine rEQL ?_
    | with_reducible refine rNEQ ?_
    | with_reducible refine rNOT ?_
    | (with_reducible refine rBRK ?_ ?_ <;> intro hb)
    | (with_reducible refine rBRKn ?_ ?_ <;> intro hb)
    | (with_reducible refine rBRKnb ?_ ?_ <;> intro hb)
    | (with_reducible refine rBRKb ?_ ?_ <;> intro hb)
    | (with_reducible refine rSPL ?_ ?_ <;> intro hb)
    | (with_reducible refine rSPLn ?_ ?_ <;> intro hb)
    | (with_reducible refine rSPLnb ?_ ?_ <;> intro hb)
    | (with_reducible refine rSPLb ?_ ?_ <;> intro hb)
    | (exfalso; omega))
    · rw [drop_someI ha] at hq
      simp only [alternateG, decide_eq_false hb, Bool.false_and] at hq
      exact hno hq.symm
    · rw [drop_someI ha] at hq
      refine rADDw ?_
      repeat' (first
    | with_reducible refine rTT ?_
    | (with_reducible refine ACalls.mono (l1In_ok) ?_; rintro r H' ⟨rfl, rfl⟩)
    | with_reducible refine rRFL ?_
    | with_reducible refine rLEN (by assumption) ?_
    | (with_reducible refine rIXk (by assumption) (by assumption) ?_; intro p hp)
    | (with_reducible refine rIX (by assumption) (by omega) (by omega) ?_; intro p a ha hp)
    | with_reducible refine rLDi (by assumption) ?_
    | (with_reducible refine rLD (by assumption) ?_; intro c hc)
    | with_reducible refine rADD (by omega) ?_
    | with_reducible refine rSUB (by omega) ?_
    | with_reducible refine rLSS ?_
    | with_reducible refine rLEQ ?_
    | with_reducible refine rGTR ?_
    | with_reducible refine rGEQ ?_
    | with_reducible refine rEQL ?_
    | with_reducible refine rNEQ ?_
    | with_reducible refine rNOT ?_
    | (with_reducible refine rBRK ?_ ?_ <;> intro hb)
    | (with_reducible refine rBRKn ?_ ?_ <;> intro hb)
    | (with_reducible refine rBRKnb ?_ ?_ <;> intro hb)
    | (with_reducible refine rBRKb ?_ ?_ <;> intro hb)
    | (with_reducible refine rSPL ?_ ?_ <;> intro hb)
    | (with_reducible refine rSPLn ?_ ?_ <;> intro hb)
    | (with_reducible refine rSPLnb ?_ ?_ <;> intro hb)
    | (with_reducible refine rSPLb ?_ ?_ <;> intro hb)
    | (exfalso; omega))
      · simp only [alternateG, decide_eq_false hb, Bool.and_false, Bool.false_and] at hq
        exact hno hq.symm
      · simp only [alternateG, decide_eq_true ‹-1 ≤ a ∧ a ≤ 1›, decide_eq_true ‹0 ≤ w64 (s + a) ∧ w64 (s + a) ≤ 1›, Bool.true_and] at hq
        exact ih (k + 1) _ (by omega) hq
theorem sgRows_loop {t : List (List Int)} {v : AVal} (hv : IsTab v t) (hl : t.length ≤ 1000000) (hr : ∀ r ∈ t, r.length ≤ 1000000) {H : Heap} {Q : AVal → Heap → Prop} : ∀ (n k : Nat), k + n = t.length → Q (.bool ((t.drop k).all alternateB)) H →
    spec_sgRows.L2 Q v (I t.length) (I k) H := by
  intro n
  induction n with
  | zero =>
    intro k hk hq
    apply spec_sgRows.step2
    unfold spec_sgRows.step2_vc
    repeat' (first
    | with_reducible refine rTT ?_
    | with_reducible refine rRFL ?_
    | with_reducible refine rLEN (by assumption) ?_
    | (with_reducible refine rIXk (by assumption) (by assumption) ?_; intro p hp)
    | (with_reducible refine rIX (by assumption) (by omega) (by omega) ?_; intro p a ha hp)
    | with_reducible refine rLDi (by assumption) ?_
    | (with_reducible refine rLD (by assumption) ?_; intro c hc)
    | with_reducible refine rADD (by omega) ?_
    | with_reducible refine rSUB (by omega) ?_
    | with_reducible refine rLSS ?_
    | with_reducible refine rLEQ ?_
    | with_reducible refine rGTR ?_
    | with_reducible refine rGEQ ?_
    | with_reducible refine rEQL ?_
    | with_reducible refine rNEQ ?_
    | with_reducible refine rNOT ?_
    | (with_reducible refine rBRK ?_ ?_ <;> intro hb)
    | (with_reducible refine rBRKn ?_ ?_ <;> intro hb)
    | (with_reducible refine rBRKnb ?_ ?_ <;> intro hb)
    | (with_reducible refine rBRKb ?_ ?_ <;> intro hb)
    | (with_reducible refine rSPL ?_ ?_ <;> intro hb)
    | (with_reducible refine rSPLn ?_ ?_ <;> intro hb)
    | (with_reducible refine rSPLnb ?_ ?_ <;> intro hb)
    | (with_reducible refine rSPLb ?_ ?_ <;> intro hb)
    | (exfalso; omega))
    rw [List.drop_eq_nil_of_le (by omega)] at hq
    exact hq
  | succ n ih =>
    intro k hk hq
    apply spec_sgRows.step2
    unfold spec_sgRows.step2_vc
    repeat' (first
    | with_reducible refine rTT ?_
    | with_reducible refine rRFL ?_
    | with_reducible refine rLEN (by assumption) ?_
    | (with_reducible refine rIXk (by assumption) (by assumption) ?_; intro p hp)
    | (with_reducible refine rIX (by assumption) (by omega) (by omega) ?_; intro p a ha hp)
    | with_reducible refine rLDi (by assumption) ?_
    | (with_reducible refine rLD (by assumption) ?_; intro c hc)
    | with_reducible refine rADD (by omega) ?_
    | with_reducible refine rSUB (by omega) ?_
    | with_reducible refine rLSS ?_
    | with_reducible refine rLEQ ?_
    | with_reducible refine rGTR ?_
    | with_reducible refine rGEQ ?_
    | with_reducible refine rEQL ?_
    | with_reducible refine rNEQ ?_
    | with_reducible refine rNOT ?_
    | (with_reducible refine rBRK ?_ ?_ <;> intro hb)
    | (with_reducible refine rBRKn ?_ ?_ <;> intro hb)
    | (with_reducible refine rBRKnb ?_ ?_ <;> intro hb)
    | (with_reducible refine rBRKb ?_ ?_ <;> intro hb)
    | (with_reducible refine rSPL ?_ ?_ <;> intro hb)
    | (with_reducible refine rSPLn ?_ ?_ <;> intro hb)
    | (with_reducible refine rSPLnb ?_ ?_ <;> intro hb)
    | (with_reducible refine rSPLb ?_ ?_ <;> intro hb)
    | (exfalso; omega))
    rw [drop_someI ha, List.all_cons] at hq
    refine sgRows_in hv hc (hr _ (List.mem_of_getElem? ha)) hl (j := k) (by omega) (fun h => ?_) (fun h => ?_) a.length 0 0 (by omega) rfl
    · rw [h] at hq; exact hq
    · rw [h] at hq; exact ih (k + 1) (by omega) hq
theorem sgRows_ok {t : List (List Int)} {v : AVal} (hv : IsTab v t) (hl : t.length ≤ 1000000) (hr : ∀ r ∈ t, r.length ≤ 1000000) {H : Heap} : ACalls Try.prog 104 [v] H fun r H' => r = .bool (t.all alternateB) ∧ H' = H := by
  apply spec_sgRows.start
  unfold spec_sgRows.start_vc
  repeat' (first
    | with_reducible refine rTT ?_
    | with_reducible refine rRFL ?_
    | with_reducible refine rLEN (by assumption) ?_
    | (with_reducible refine rIXk (by assumption) (by assumption) ?_; intro p hp)
    | (with_reducible refine rIX (by assumption) (by omega) (by omega) ?_; intro p a ha hp)
    | with_reducible refine rLDi (by assumption) ?_
    | (with_reducible refine rLD (by assumption) ?_; intro c hc)
    | with_reducible refine rADD (by omega) ?_
    | with_reducible refine rSUB (by omega) ?_
    | with_reducible refine rLSS ?_
    | with_reducible refine rLEQ ?_
    | with_reducible refine rGTR ?_
    | with_reducible refine rGEQ ?_
    | with_reducible refine rEQL ?_
    | with_reducible refine rNEQ ?_
    | with_reducible refine rNOT ?_
    | (with_reducible refine rBRK ?_ ?_ <;> intro hb)
    | (with_reducible refine rBRKn ?_ ?_ <;> intro hb)
    | (with_reducible refine rBRKnb ?_ ?_ <;> intro hb)
    | (with_reducible refine rBRKb ?_ ?_ <;> intro hb)
    | (with_reducible refine rSPL ?_ ?_ <;> intro hb)
    | (with_reducible refine rSPLn ?_ ?_ <;> intro hb)
    | (with_reducible refine rSPLnb ?_ ?_ <;> intro hb)
    | (with_reducible refine rSPLb ?_ ?_ <;> intro hb)
    | (exfalso; omega))
  exact sgRows_loop hv hl hr t.length 0 (by omega) ⟨rfl, rfl⟩

end Go.Proofs.Ytccioplhchmilaa.AL
