/-
  Contracts: corner sums and heights, as the reference tells them.
-/
import Derived.Test.YtccioplhchmilaaD2
set_option linter.unusedVariables false
set_option maxRecDepth 100000
namespace Go.Proofs.Ytccioplhchmilaa.AL
open Go Go.Proofs

/-! spec.sgCorners (slots: 0 m, 1 m, 3 out, 4 i, 5 row, 6 j, 7 x) -/
namespace spec_sgCorners
def lv : List (Nat × List Nat) := [(3, [0, 3, 12, 13]), (7, [0, 3, 4, 5, 12, 13, 19, 20, 21])]
noncomputable def K3 : List KF := [.lp (cB (cB (cR (cL (cR (cR (bodyOf Try.f114))))))), .bl 0, .sq (cR (cR (cR (bodyOf Try.f114))))]
def L3 (Q : AVal → Heap → Prop) (v0 v3 v12 v13 : AVal) (H : Heap) : Prop := At Try.prog 114 58 K3 Q (slotsOf [(0, v0), (3, v3), (12, v12), (13, v13)]) H
theorem L3_frz {Q : AVal → Heap → Prop} {v0 v3 v12 v13 w0 w3 w12 w13 : AVal} {H Hf Hk : Heap} {k : Nat} (hs : Split H Hf Hk) (hp : PurL Hf k [(0, v0, w0), (3, v3, w3), (12, v12, w12), (13, v13, w13)]) (h : L3 Q w0 w3 w12 w13 Hk) : L3 Q v0 v3 v12 v13 H := at_frz (ks := K3) hs hp h
noncomputable def K7 : List KF := [.lp (cB (cB (cR (cR (cR (cB (cL (cR (cR (cB (cB (cR (cL (cR (cR (bodyOf Try.f114)))))))))))))))), .bl 2, .bl 1, .sq (cR (cR (cR (cB (cB (cR (cL (cR (cR (bodyOf Try.f114)))))))))), .lp (cB (cB (cR (cL (cR (cR (bodyOf Try.f114))))))), .bl 0, .sq (cR (cR (cR (bodyOf Try.f114))))]
def L7 (Q : AVal → Heap → Prop) (v0 v3 v4 v5 v12 v13 v19 v20 v21 : AVal) (H : Heap) : Prop := At Try.prog 114 58 K7 Q (slotsOf [(0, v0), (3, v3), (4, v4), (5, v5), (12, v12), (13, v13), (19, v19), (20, v20), (21, v21)]) H
theorem L7_frz {Q : AVal → Heap → Prop} {v0 v3 v4 v5 v12 v13 v19 v20 v21 w0 w3 w4 w5 w12 w13 w19 w20 w21 : AVal} {H Hf Hk : Heap} {k : Nat} (hs : Split H Hf Hk) (hp : PurL Hf k [(0, v0, w0), (3, v3, w3), (4, v4, w4), (5, v5, w5), (12, v12, w12), (13, v13, w13), (19, v19, w19), (20, v20, w20), (21, v21, w21)]) (h : L7 Q w0 w3 w4 w5 w12 w13 w19 w20 w21 Hk) : L7 Q v0 v3 v4 v5 v12 v13 v19 v20 v21 H := at_frz (ks := K7) hs hp h
def start_vc (Q : AVal → Heap → Prop) (a0 : AVal) (H : Heap) : Prop :=
LENK a0 fun x1 =>
ACalls Try.prog 123 [x1] H fun x2 H3 =>
LENK a0 fun x4 =>
spec_sgCorners.L3 Q a0 x2 x4 (AVal.int .i64 0) H3
theorem start_eq (Q : AVal → Heap → Prop) (a0 : AVal) (H : Heap) : vs Try.prog lv 114 58 Try.f114.results.toList Q true 1000 [.sq (bodyOf Try.f114)] (entry [a0]) H = start_vc Q a0 H := by kernel_rfl
theorem start {Q : AVal → Heap → Prop} {a0 : AVal} {H : Heap} (h : start_vc Q a0 H) : ACalls Try.prog 114 [a0] H Q := acalls_vs (lv := lv) mixed Try.func114 rfl (by kernel_rfl) (by kernel_rfl) (start_eq Q a0 H ▸ h)
def step3_vc (Q : AVal → Heap → Prop) (v0 v3 v12 v13 : AVal) (H : Heap) : Prop :=
BINK .lss v13 v12 fun x1 =>
BRK x1 (TT ∧ IXK 1 v0 v13 fun x2 =>
TT ∧ TT ∧ LDK false 1 H x2 fun x3 =>
LENK x3 fun x4 =>
spec_sgCorners.L7 Q v0 v3 v13 (AVal.int .i64 0) v12 v13 x3 x4 (AVal.int .i64 0) H) (Q v3 H)
theorem step3_eq (Q : AVal → Heap → Prop) (v0 v3 v12 v13 : AVal) (H : Heap) : vs Try.prog lv 114 58 Try.f114.results.toList Q true 1000 (.sq (cB (cB (cR (cL (cR (cR (bodyOf Try.f114))))))) :: K3) (slotsOf [(0, v0), (3, v3), (12, v12), (13, v13)]) H = step3_vc Q v0 v3 v12 v13 H := by kernel_rfl
theorem step3 {Q : AVal → Heap → Prop} {v0 v3 v12 v13 : AVal} {H : Heap} (h : step3_vc Q v0 v3 v12 v13 H) : L3 Q v0 v3 v12 v13 H := at_lp_vs (lv := lv) (ks := K3.tail) mixed Try.func114 (step3_eq Q v0 v3 v12 v13 H ▸ h)
def step7_vc (Q : AVal → Heap → Prop) (v0 v3 v4 v5 v12 v13 v19 v20 v21 : AVal) (H : Heap) : Prop :=
BINK .lss v21 v20 fun x1 =>
BRK x1 (TT ∧ IXK 1 v19 v21 fun x2 =>
TT ∧ TT ∧ LDK false 1 H x2 fun x3 =>
BINK .add v5 x3 fun x4 =>
TT ∧ IXK 1 v3 v4 fun x5 =>
TT ∧ TT ∧ LDK false 1 H x5 fun x6 =>
TT ∧ IXK 1 x6 v21 fun x7 =>
TT ∧ STK 1 H x7 x4 fun H8 =>
BINK .gtr v4 (AVal.int .i64 0) fun x9 =>
BRK x9 (TT ∧ TT ∧ IXK 1 v3 v4 fun x10 =>
TT ∧ TT ∧ LDK false 1 H8 x10 fun x11 =>
TT ∧ IXK 1 x11 v21 fun x12 =>
TT ∧ TT ∧ LDK false 1 H8 x12 fun x13 =>
BINK .sub v4 (AVal.int .i64 1) fun x14 =>
TT ∧ IXK 1 v3 x14 fun x15 =>
TT ∧ TT ∧ LDK false 1 H8 x15 fun x16 =>
TT ∧ IXK 1 x16 v21 fun x17 =>
TT ∧ TT ∧ LDK false 1 H8 x17 fun x18 =>
BINK .add x13 x18 fun x19 =>
TT ∧ IXK 1 x11 v21 fun x20 =>
TT ∧ STK 1 H8 x20 x19 fun H21 =>
BINK .add v21 (AVal.int .i64 1) fun x22 =>
spec_sgCorners.L7 Q v0 v3 v4 x4 v12 v13 v19 v20 x22 H21) (BINK .add v21 (AVal.int .i64 1) fun x23 =>
spec_sgCorners.L7 Q v0 v3 v4 x4 v12 v13 v19 v20 x23 H8)) (BINK .add v13 (AVal.int .i64 1) fun x24 =>
spec_sgCorners.L3 Q v0 v3 v12 x24 H)
theorem step7_eq (Q : AVal → Heap → Prop) (v0 v3 v4 v5 v12 v13 v19 v20 v21 : AVal) (H : Heap) : vs Try.prog lv 114 58 Try.f114.results.toList Q true 1000 (.sq (cB (cB (cR (cR (cR (cB (cL (cR (cR (cB (cB (cR (cL (cR (cR (bodyOf Try.f114)))))))))))))))) :: K7) (slotsOf [(0, v0), (3, v3), (4, v4), (5, v5), (12, v12), (13, v13), (19, v19), (20, v20), (21, v21)]) H = step7_vc Q v0 v3 v4 v5 v12 v13 v19 v20 v21 H := by kernel_rfl
theorem step7 {Q : AVal → Heap → Prop} {v0 v3 v4 v5 v12 v13 v19 v20 v21 : AVal} {H : Heap} (h : step7_vc Q v0 v3 v4 v5 v12 v13 v19 v20 v21 H) : L7 Q v0 v3 v4 v5 v12 v13 v19 v20 v21 H := at_lp_vs (lv := lv) (ks := K7.tail) mixed Try.func114 (step7_eq Q v0 v3 v4 v5 v12 v13 v19 v20 v21 H ▸ h)
end spec_sgCorners

/-! spec.heOf (slots: 0 m, 1 m, 3 corners, 4 out, 5 i, 6 row, 7 j) -/
namespace spec_heOf
def lv : List (Nat × List Nat) := [(4, [0, 3, 4, 5]), (8, [0, 3, 4, 5, 6, 7])]
noncomputable def K4 : List KF := [.lp (cB (cB (cR (cL (cR (cR (cR (bodyOf Try.f61)))))))), .bl 0, .sq (cR (cR (cR (cR (bodyOf Try.f61)))))]
def L4 (Q : AVal → Heap → Prop) (v0 v3 v4 v5 : AVal) (H : Heap) : Prop := At Try.prog 61 41 K4 Q (slotsOf [(0, v0), (3, v3), (4, v4), (5, v5)]) H
theorem L4_frz {Q : AVal → Heap → Prop} {v0 v3 v4 v5 w0 w3 w4 w5 : AVal} {H Hf Hk : Heap} {k : Nat} (hs : Split H Hf Hk) (hp : PurL Hf k [(0, v0, w0), (3, v3, w3), (4, v4, w4), (5, v5, w5)]) (h : L4 Q w0 w3 w4 w5 Hk) : L4 Q v0 v3 v4 v5 H := at_frz (ks := K4) hs hp h
noncomputable def K8 : List KF := [.lp (cB (cB (cR (cL (cR (cB (cL (cR (cB (cB (cR (cL (cR (cR (cR (bodyOf Try.f61)))))))))))))))), .bl 2, .sq (cR (cR (cB (cL (cR (cB (cB (cR (cL (cR (cR (cR (bodyOf Try.f61))))))))))))), .bl 1, .sq (cR (cR (cB (cB (cR (cL (cR (cR (cR (bodyOf Try.f61)))))))))), .lp (cB (cB (cR (cL (cR (cR (cR (bodyOf Try.f61)))))))), .bl 0, .sq (cR (cR (cR (cR (bodyOf Try.f61)))))]
def L8 (Q : AVal → Heap → Prop) (v0 v3 v4 v5 v6 v7 : AVal) (H : Heap) : Prop := At Try.prog 61 41 K8 Q (slotsOf [(0, v0), (3, v3), (4, v4), (5, v5), (6, v6), (7, v7)]) H
theorem L8_frz {Q : AVal → Heap → Prop} {v0 v3 v4 v5 v6 v7 w0 w3 w4 w5 w6 w7 : AVal} {H Hf Hk : Heap} {k : Nat} (hs : Split H Hf Hk) (hp : PurL Hf k [(0, v0, w0), (3, v3, w3), (4, v4, w4), (5, v5, w5), (6, v6, w6), (7, v7, w7)]) (h : L8 Q w0 w3 w4 w5 w6 w7 Hk) : L8 Q v0 v3 v4 v5 v6 v7 H := at_frz (ks := K8) hs hp h
def start_vc (Q : AVal → Heap → Prop) (a0 : AVal) (H : Heap) : Prop :=
ACalls Try.prog 114 [a0] H fun x1 H2 =>
spec_heOf.L4 Q a0 x1 AVal.nilS (AVal.int .i64 0) H2
theorem start_eq (Q : AVal → Heap → Prop) (a0 : AVal) (H : Heap) : vs Try.prog lv 61 41 Try.f61.results.toList Q true 1000 [.sq (bodyOf Try.f61)] (entry [a0]) H = start_vc Q a0 H := by kernel_rfl
theorem start {Q : AVal → Heap → Prop} {a0 : AVal} {H : Heap} (h : start_vc Q a0 H) : ACalls Try.prog 61 [a0] H Q := acalls_vs (lv := lv) mixed Try.func61 rfl (by kernel_rfl) (by kernel_rfl) (start_eq Q a0 H ▸ h)
def step4_vc (Q : AVal → Heap → Prop) (v0 v3 v4 v5 : AVal) (H : Heap) : Prop :=
LENK v0 fun x1 =>
BINK .leq v5 x1 fun x2 =>
BRK x2 (spec_heOf.L8 Q v0 v3 v4 v5 AVal.nilS (AVal.int .i64 0) H) (Q v4 H)
theorem step4_eq (Q : AVal → Heap → Prop) (v0 v3 v4 v5 : AVal) (H : Heap) : vs Try.prog lv 61 41 Try.f61.results.toList Q true 1000 (.sq (cB (cB (cR (cL (cR (cR (cR (bodyOf Try.f61)))))))) :: K4) (slotsOf [(0, v0), (3, v3), (4, v4), (5, v5)]) H = step4_vc Q v0 v3 v4 v5 H := by kernel_rfl
theorem step4 {Q : AVal → Heap → Prop} {v0 v3 v4 v5 : AVal} {H : Heap} (h : step4_vc Q v0 v3 v4 v5 H) : L4 Q v0 v3 v4 v5 H := at_lp_vs (lv := lv) (ks := K4.tail) mixed Try.func61 (step4_eq Q v0 v3 v4 v5 H ▸ h)
def step8_vc (Q : AVal → Heap → Prop) (v0 v3 v4 v5 v6 v7 : AVal) (H : Heap) : Prop :=
LENK v0 fun x1 =>
BINK .leq v7 x1 fun x2 =>
BRK x2 (BINK .add v5 v7 fun x3 =>
BINK .sub v5 (AVal.int .i64 1) fun x4 =>
BINK .sub v7 (AVal.int .i64 1) fun x5 =>
ACalls Try.prog 115 [v3, x4, x5] H fun x6 H7 =>
BINK .mul (AVal.int .i64 2) x6 fun x8 =>
BINK .sub x3 x8 fun x9 =>
TT ∧ TT ∧ TT ∧ BSK 1 [x9] H7 fun x10 H11 =>
TT ∧ TT ∧ APK 1 H11 v6 x10 fun x12 H13 =>
BINK .add v7 (AVal.int .i64 1) fun x14 =>
spec_heOf.L8 Q v0 v3 v4 v5 x12 x14 H13) (TT ∧ TT ∧ TT ∧ BSK 1 [v6] H fun x15 H16 =>
TT ∧ TT ∧ APK 1 H16 v4 x15 fun x17 H18 =>
BINK .add v5 (AVal.int .i64 1) fun x19 =>
spec_heOf.L4 Q v0 v3 x17 x19 H18)
theorem step8_eq (Q : AVal → Heap → Prop) (v0 v3 v4 v5 v6 v7 : AVal) (H : Heap) : vs Try.prog lv 61 41 Try.f61.results.toList Q true 1000 (.sq (cB (cB (cR (cL (cR (cB (cL (cR (cB (cB (cR (cL (cR (cR (cR (bodyOf Try.f61)))))))))))))))) :: K8) (slotsOf [(0, v0), (3, v3), (4, v4), (5, v5), (6, v6), (7, v7)]) H = step8_vc Q v0 v3 v4 v5 v6 v7 H := by kernel_rfl
theorem step8 {Q : AVal → Heap → Prop} {v0 v3 v4 v5 v6 v7 : AVal} {H : Heap} (h : step8_vc Q v0 v3 v4 v5 v6 v7 H) : L8 Q v0 v3 v4 v5 v6 v7 H := at_lp_vs (lv := lv) (ks := K8.tail) mixed Try.func61 (step8_eq Q v0 v3 v4 v5 v6 v7 H ▸ h)
end spec_heOf

/-! spec.HeightsOf (slots: 0 m, 1 m) -/
namespace spec_HeightsOf
def lv : List (Nat × List Nat) := []
def start_vc (Q : AVal → Heap → Prop) (a0 : AVal) (H : Heap) : Prop :=
ACalls Try.prog 53 [a0] H fun x1 H2 =>
NOTK x1 fun x3 =>
BRK x3 (Q (AVal.tup [AVal.nilS, (AVal.bool false)]) H2) (ACalls Try.prog 61 [a0] H2 fun x4 H5 =>
Q (AVal.tup [x4, (AVal.bool true)]) H5)
theorem start_eq (Q : AVal → Heap → Prop) (a0 : AVal) (H : Heap) : vs Try.prog lv 23 9 Try.f23.results.toList Q true 1000 [.sq (bodyOf Try.f23)] (entry [a0]) H = start_vc Q a0 H := by kernel_rfl
theorem start {Q : AVal → Heap → Prop} {a0 : AVal} {H : Heap} (h : start_vc Q a0 H) : ACalls Try.prog 23 [a0] H Q := acalls_vs (lv := lv) mixed Try.func23 rfl (by kernel_rfl) (by kernel_rfl) (start_eq Q a0 H ▸ h)
end spec_HeightsOf


def cornAt (t : List (List Int)) : Nat → Nat → Int
  | 0, j => sumW ((t.getD 0 []).take (j + 1))
  | i + 1, j => w64 (sumW ((t.getD (i + 1) []).take (j + 1)) + cornAt t i j)
theorem sumW_snoc (l : List Int) (x : Int) : sumW (l ++ [x]) = w64 (sumW l + x) := by simp [sumW]
section
variable {t : List (List Int)} {v : AVal} {H0 : Heap} {Q : AVal → Heap → Prop}
theorem corners_in (hv : IsTab v t) (hl : t.length ≤ 100000) (hs : isSquareB t = true) {i : Nat} {row : List Int} (hrow : t[i]? = some row) {vr w12 w13 : AVal} (hvr : IsInts vr row) {k g : Nat} {rows : List AVal} {ks : List Nat}
    (hq : ∀ (s : Int) (T : List (List Int)) (H : Heap), T.length = t.length → isSquareB T = true → (∀ x, x < i + 1 → T[x]? = some (tabRow t.length (cornAt t) x)) → OTab H0.length H k g rows ks T → Fresh H0 H →
      spec_sgCorners.L7 Q v (.own k g 1 0 t.length) (I i) (I s) w12 w13 vr (I row.length) (I row.length) H) :
    ∀ (m j : Nat) (T : List (List Int)) (r : List Int) (H : Heap), j + m = t.length → T.length = t.length → isSquareB T = true → (∀ x, x < i → T[x]? = some (tabRow t.length (cornAt t) x)) → T[i]? = some r → r.take j = (tabRow t.length (cornAt t) i).take j →
      OTab H0.length H k g rows ks T → Fresh H0 H → spec_sgCorners.L7 Q v (.own k g 1 0 t.length) (I i) (I (sumW (row.take j))) w12 w13 vr (I row.length) (I j) H := by
  have hrl : row.length = t.length := sq_len hs (List.mem_of_getElem? hrow)
  have hil := (List.getElem?_eq_some_iff.1 hrow).1
  intro m
  induction m with
  | zero =>
    intro j T r H hj h1 h2 h3 h4 h5 ho hF
    have : j = t.length := by omega
    subst this
    have hr1 := sq_len h2 (List.mem_of_getElem? h4)
    rw [List.take_of_length_le (by omega), List.take_of_length_le (by simp [tabRow])] at h5
    have := hq (sumW (row.take t.length)) T H h1 h2 (fun x hx => by
      by_cases hxi : x = i
      · subst hxi; rw [h4, h5]
      · exact h3 x (by omega)) ho hF
    rw [hrl] at this ⊢
    exact this
  | succ m ih =>
    intro j T r H hj h1 h2 h3 h4 h5 ho hF
    have hr1 := sq_len h2 (List.mem_of_getElem? h4)
    obtain ⟨x, hx⟩ := ex_get (l := row) (k := j) (by omega)
    obtain ⟨kj, gj, g1, g2, g3, g4, g5⟩ := ho.get h4
    have hset1 : ∀ (r : List Int) w, (r.map I).set j (I w) = (r.set j w).map I := fun r w => by rw [List.map_set]
    have hT : i < T.length := by omega
    apply spec_sgCorners.step7
    unfold spec_sgCorners.step7_vc
    repeat' (first
    | with_reducible refine rTT ?_
    | with_reducible refine rRFL ?_
    | with_reducible refine rLEN (by assumption) ?_
    | (with_reducible refine rIXk (by assumption) (by assumption) ?_; intro p hp)
    | (with_reducible refine rIX (by assumption) (by omega) (by omega) ?_; intro p a ha hp)
    | with_reducible refine rLDi (by assumption) ?_
    | (with_reducible refine rLD (by assumption) ?_; intro c hc)
    | with_reducible refine rADD (by omega) ?_
    | with_reducible refine rSUB (by omega) ?_
    | with_reducible refine rLSS ?_
    | with_reducible refine rLEQ ?_
    | with_reducible refine rGTR ?_
    | with_reducible refine rGEQ ?_
    | with_reducible refine rEQL ?_
    | with_reducible refine rNEQ ?_
    | with_reducible refine rNOT ?_
    | (with_reducible refine rBRK ?_ ?_ <;> intro hb)
    | (with_reducible refine rBRKn ?_ ?_ <;> intro hb)
    | (with_reducible refine rBRKnb ?_ ?_ <;> intro hb)
    | (with_reducible refine rBRKb ?_ ?_ <;> intro hb)
    | (with_reducible refine rSPL ?_ ?_ <;> intro hb)
    | (with_reducible refine rSPLn ?_ ?_ <;> intro hb)
    | (with_reducible refine rSPLnb ?_ ?_ <;> intro hb)
    | (with_reducible refine rSPLb ?_ ?_ <;> intro hb)
    | (exfalso; omega))
    · -- not the first row
      refine rADDw ?_
      rw [← sumW_snoc, ← take_some hx]
      repeat' (first
    | with_reducible refine rTT ?_
    | with_reducible refine rRFL ?_
    | with_reducible refine rLEN (by assumption) ?_
    | (with_reducible refine rIXk (by assumption) (by assumption) ?_; intro p hp)
    | (with_reducible refine rIX (by assumption) (by omega) (by omega) ?_; intro p a ha hp)
    | with_reducible refine rLDi (by assumption) ?_
    | (with_reducible refine rLD (by assumption) ?_; intro c hc)
    | with_reducible refine rADD (by omega) ?_
    | with_reducible refine rSUB (by omega) ?_
    | with_reducible refine rLSS ?_
    | with_reducible refine rLEQ ?_
    | with_reducible refine rGTR ?_
    | with_reducible refine rGEQ ?_
    | with_reducible refine rEQL ?_
    | with_reducible refine rNEQ ?_
    | with_reducible refine rNOT ?_
    | (with_reducible refine rBRK ?_ ?_ <;> intro hb)
    | (with_reducible refine rBRKn ?_ ?_ <;> intro hb)
    | (with_reducible refine rBRKnb ?_ ?_ <;> intro hb)
    | (with_reducible refine rBRKb ?_ ?_ <;> intro hb)
    | (with_reducible refine rSPL ?_ ?_ <;> intro hb)
    | (with_reducible refine rSPLn ?_ ?_ <;> intro hb)
    | (with_reducible refine rSPLnb ?_ ?_ <;> intro hb)
    | (with_reducible refine rSPLb ?_ ?_ <;> intro hb)
    | (exfalso; omega))
      refine rIXo (by omega) ?_
      repeat' (first
    | with_reducible refine rTT ?_
    | with_reducible refine rRFL ?_
    | with_reducible refine rLEN (by assumption) ?_
    | (with_reducible refine rIXk (by assumption) (by assumption) ?_; intro p hp)
    | (with_reducible refine rIX (by assumption) (by omega) (by omega) ?_; intro p a ha hp)
    | with_reducible refine rLDi (by assumption) ?_
    | (with_reducible refine rLD (by assumption) ?_; intro c hc)
    | with_reducible refine rADD (by omega) ?_
    | with_reducible refine rSUB (by omega) ?_
    | with_reducible refine rLSS ?_
    | with_reducible refine rLEQ ?_
    | with_reducible refine rGTR ?_
    | with_reducible refine rGEQ ?_
    | with_reducible refine rEQL ?_
    | with_reducible refine rNEQ ?_
    | with_reducible refine rNOT ?_
    | (with_reducible refine rBRK ?_ ?_ <;> intro hb)
    | (with_reducible refine rBRKn ?_ ?_ <;> intro hb)
    | (with_reducible refine rBRKnb ?_ ?_ <;> intro hb)
    | (with_reducible refine rBRKb ?_ ?_ <;> intro hb)
    | (with_reducible refine rSPL ?_ ?_ <;> intro hb)
    | (with_reducible refine rSPLn ?_ ?_ <;> intro hb)
    | (with_reducible refine rSPLnb ?_ ?_ <;> intro hb)
    | (with_reducible refine rSPLb ?_ ?_ <;> intro hb)
    | (exfalso; omega))
      refine rLDf ho.top g2 ?_
      repeat' (first
    | with_reducible refine rTT ?_
    | with_reducible refine rRFL ?_
    | with_reducible refine rLEN (by assumption) ?_
    | (with_reducible refine rIXk (by assumption) (by assumption) ?_; intro p hp)
    | (with_reducible refine rIX (by assumption) (by omega) (by omega) ?_; intro p a ha hp)
    | with_reducible refine rLDi (by assumption) ?_
    | (with_reducible refine rLD (by assumption) ?_; intro c hc)
    | with_reducible refine rADD (by omega) ?_
    | with_reducible refine rSUB (by omega) ?_
    | with_reducible refine rLSS ?_
    | with_reducible refine rLEQ ?_
    | with_reducible refine rGTR ?_
    | with_reducible refine rGEQ ?_
    | with_reducible refine rEQL ?_
    | with_reducible refine rNEQ ?_
    | with_reducible refine rNOT ?_
    | (with_reducible refine rBRK ?_ ?_ <;> intro hb)
    | (with_reducible refine rBRKn ?_ ?_ <;> intro hb)
    | (with_reducible refine rBRKnb ?_ ?_ <;> intro hb)
    | (with_reducible refine rBRKb ?_ ?_ <;> intro hb)
    | (with_reducible refine rSPL ?_ ?_ <;> intro hb)
    | (with_reducible refine rSPLn ?_ ?_ <;> intro hb)
    | (with_reducible refine rSPLnb ?_ ?_ <;> intro hb)
    | (with_reducible refine rSPLb ?_ ?_ <;> intro hb)
    | (exfalso; omega))
      refine rIXo (by omega) ?_
      repeat' (first
    | with_reducible refine rTT ?_
    | with_reducible refine rRFL ?_
    | with_reducible refine rLEN (by assumption) ?_
    | (with_reducible refine rIXk (by assumption) (by assumption) ?_; intro p hp)
    | (with_reducible refine rIX (by assumption) (by omega) (by omega) ?_; intro p a ha hp)
    | with_reducible refine rLDi (by assumption) ?_
    | (with_reducible refine rLD (by assumption) ?_; intro c hc)
    | with_reducible refine rADD (by omega) ?_
    | with_reducible refine rSUB (by omega) ?_
    | with_reducible refine rLSS ?_
    | with_reducible refine rLEQ ?_
    | with_reducible refine rGTR ?_
    | with_reducible refine rGEQ ?_
    | with_reducible refine rEQL ?_
    | with_reducible refine rNEQ ?_
    | with_reducible refine rNOT ?_
    | (with_reducible refine rBRK ?_ ?_ <;> intro hb)
    | (with_reducible refine rBRKn ?_ ?_ <;> intro hb)
    | (with_reducible refine rBRKnb ?_ ?_ <;> intro hb)
    | (with_reducible refine rBRKb ?_ ?_ <;> intro hb)
    | (with_reducible refine rSPL ?_ ?_ <;> intro hb)
    | (with_reducible refine rSPLn ?_ ?_ <;> intro hb)
    | (with_reducible refine rSPLnb ?_ ?_ <;> intro hb)
    | (with_reducible refine rSPLb ?_ ?_ <;> intro hb)
    | (exfalso; omega))
      refine rSTp g3 (by simp; omega) rfl ?_
      rw [hset1]
      have ho1 := ho.put h4 g1 g3 (r' := r.set j (sumW (row.take (j + 1)))) (by simp)
      have h4' : (T.set i (r.set j (sumW (row.take (j + 1)))))[i]? = some (r.set j (sumW (row.take (j + 1)))) := List.getElem?_set_self hT
      obtain ⟨kj', gj', p1, p2, p3, p4, p5⟩ := ho1.get h4'
      have h2' := sq_set h2 h4 (r' := r.set j (sumW (row.take (j + 1)))) (by simp)
      have hF1 := hF.set g4 gj (ifrees_map (r.set j (sumW (row.take (j + 1)))))
      refine rGTR ?_
      refine rBRK (fun hb2 => ?_) (fun hb2 => ?_)
      · obtain ⟨i', rfl⟩ : ∃ i', i = i' + 1 := ⟨i - 1, by omega⟩
        have h6 := h3 i' (by omega)
        have h6' : (T.set (i' + 1) (r.set j (sumW (row.take (j + 1)))))[i']? = some (tabRow t.length (cornAt t) i') := by rw [List.getElem?_set_ne (by omega)]; exact h6
        obtain ⟨kp, gp, q1, q2, q3, q4, q5⟩ := ho1.get h6'
        refine rTT (rTT ?_)
        refine rIXo (by omega) ?_
        repeat' (first
    | with_reducible refine rTT ?_
    | with_reducible refine rRFL ?_
    | with_reducible refine rLEN (by assumption) ?_
    | (with_reducible refine rIXk (by assumption) (by assumption) ?_; intro p hp)
    | (with_reducible refine rIX (by assumption) (by omega) (by omega) ?_; intro p a ha hp)
    | with_reducible refine rLDi (by assumption) ?_
    | (with_reducible refine rLD (by assumption) ?_; intro c hc)
    | with_reducible refine rADD (by omega) ?_
    | with_reducible refine rSUB (by omega) ?_
    | with_reducible refine rLSS ?_
    | with_reducible refine rLEQ ?_
    | with_reducible refine rGTR ?_
    | with_reducible refine rGEQ ?_
    | with_reducible refine rEQL ?_
    | with_reducible refine rNEQ ?_
    | with_reducible refine rNOT ?_
    | (with_reducible refine rBRK ?_ ?_ <;> intro hb)
    | (with_reducible refine rBRKn ?_ ?_ <;> intro hb)
    | (with_reducible refine rBRKnb ?_ ?_ <;> intro hb)
    | (with_reducible refine rBRKb ?_ ?_ <;> intro hb)
    | (with_reducible refine rSPL ?_ ?_ <;> intro hb)
    | (with_reducible refine rSPLn ?_ ?_ <;> intro hb)
    | (with_reducible refine rSPLnb ?_ ?_ <;> intro hb)
    | (with_reducible refine rSPLb ?_ ?_ <;> intro hb)
    | (exfalso; omega))
        refine rLDf ho1.top p2 ?_
        repeat' (first
    | with_reducible refine rTT ?_
    | with_reducible refine rRFL ?_
    | with_reducible refine rLEN (by assumption) ?_
    | (with_reducible refine rIXk (by assumption) (by assumption) ?_; intro p hp)
    | (with_reducible refine rIX (by assumption) (by omega) (by omega) ?_; intro p a ha hp)
    | with_reducible refine rLDi (by assumption) ?_
    | (with_reducible refine rLD (by assumption) ?_; intro c hc)
    | with_reducible refine rADD (by omega) ?_
    | with_reducible refine rSUB (by omega) ?_
    | with_reducible refine rLSS ?_
    | with_reducible refine rLEQ ?_
    | with_reducible refine rGTR ?_
    | with_reducible refine rGEQ ?_
    | with_reducible refine rEQL ?_
    | with_reducible refine rNEQ ?_
    | with_reducible refine rNOT ?_
    | (with_reducible refine rBRK ?_ ?_ <;> intro hb)
    | (with_reducible refine rBRKn ?_ ?_ <;> intro hb)
    | (with_reducible refine rBRKnb ?_ ?_ <;> intro hb)
    | (with_reducible refine rBRKb ?_ ?_ <;> intro hb)
    | (with_reducible refine rSPL ?_ ?_ <;> intro hb)
    | (with_reducible refine rSPLn ?_ ?_ <;> intro hb)
    | (with_reducible refine rSPLnb ?_ ?_ <;> intro hb)
    | (with_reducible refine rSPLb ?_ ?_ <;> intro hb)
    | (exfalso; omega))
        refine rIXo (by simp; omega) ?_
        repeat' (first
    | with_reducible refine rTT ?_
    | with_reducible refine rRFL ?_
    | with_reducible refine rLEN (by assumption) ?_
    | (with_reducible refine rIXk (by assumption) (by assumption) ?_; intro p hp)
    | (with_reducible refine rIX (by assumption) (by omega) (by omega) ?_; intro p a ha hp)
    | with_reducible refine rLDi (by assumption) ?_
    | (with_reducible refine rLD (by assumption) ?_; intro c hc)
    | with_reducible refine rADD (by omega) ?_
    | with_reducible refine rSUB (by omega) ?_
    | with_reducible refine rLSS ?_
    | with_reducible refine rLEQ ?_
    | with_reducible refine rGTR ?_
    | with_reducible refine rGEQ ?_
    | with_reducible refine rEQL ?_
    | with_reducible refine rNEQ ?_
    | with_reducible refine rNOT ?_
    | (with_reducible refine rBRK ?_ ?_ <;> intro hb)
    | (with_reducible refine rBRKn ?_ ?_ <;> intro hb)
    | (with_reducible refine rBRKnb ?_ ?_ <;> intro hb)
    | (with_reducible refine rBRKb ?_ ?_ <;> intro hb)
    | (with_reducible refine rSPL ?_ ?_ <;> intro hb)
    | (with_reducible refine rSPLn ?_ ?_ <;> intro hb)
    | (with_reducible refine rSPLnb ?_ ?_ <;> intro hb)
    | (with_reducible refine rSPLb ?_ ?_ <;> intro hb)
    | (exfalso; omega))
        refine rLDf p3 (by rw [List.getElem?_map, List.getElem?_set_self (by omega)]; rfl) ?_
        repeat' (first
    | with_reducible refine rTT ?_
    | with_reducible refine rRFL ?_
    | with_reducible refine rLEN (by assumption) ?_
    | (with_reducible refine rIXk (by assumption) (by assumption) ?_; intro p hp)
    | (with_reducible refine rIX (by assumption) (by omega) (by omega) ?_; intro p a ha hp)
    | with_reducible refine rLDi (by assumption) ?_
    | (with_reducible refine rLD (by assumption) ?_; intro c hc)
    | with_reducible refine rADD (by omega) ?_
    | with_reducible refine rSUB (by omega) ?_
    | with_reducible refine rLSS ?_
    | with_reducible refine rLEQ ?_
    | with_reducible refine rGTR ?_
    | with_reducible refine rGEQ ?_
    | with_reducible refine rEQL ?_
    | with_reducible refine rNEQ ?_
    | with_reducible refine rNOT ?_
    | (with_reducible refine rBRK ?_ ?_ <;> intro hb)
    | (with_reducible refine rBRKn ?_ ?_ <;> intro hb)
    | (with_reducible refine rBRKnb ?_ ?_ <;> intro hb)
    | (with_reducible refine rBRKb ?_ ?_ <;> intro hb)
    | (with_reducible refine rSPL ?_ ?_ <;> intro hb)
    | (with_reducible refine rSPLn ?_ ?_ <;> intro hb)
    | (with_reducible refine rSPLnb ?_ ?_ <;> intro hb)
    | (with_reducible refine rSPLb ?_ ?_ <;> intro hb)
    | (exfalso; omega))
        have ei : (((i' + 1 : Nat) : Int) - 1) = (i' : Int) := by omega
        rw [ei]
        refine rIXo (by omega) ?_
        repeat' (first
    | with_reducible refine rTT ?_
    | with_reducible refine rRFL ?_
    | with_reducible refine rLEN (by assumption) ?_
    | (with_reducible refine rIXk (by assumption) (by assumption) ?_; intro p hp)
    | (with_reducible refine rIX (by assumption) (by omega) (by omega) ?_; intro p a ha hp)
    | with_reducible refine rLDi (by assumption) ?_
    | (with_reducible refine rLD (by assumption) ?_; intro c hc)
    | with_reducible refine rADD (by omega) ?_
    | with_reducible refine rSUB (by omega) ?_
    | with_reducible refine rLSS ?_
    | with_reducible refine rLEQ ?_
    | with_reducible refine rGTR ?_
    | with_reducible refine rGEQ ?_
    | with_reducible refine rEQL ?_
    | with_reducible refine rNEQ ?_
    | with_reducible refine rNOT ?_
    | (with_reducible refine rBRK ?_ ?_ <;> intro hb)
    | (with_reducible refine rBRKn ?_ ?_ <;> intro hb)
    | (with_reducible refine rBRKnb ?_ ?_ <;> intro hb)
    | (with_reducible refine rBRKb ?_ ?_ <;> intro hb)
    | (with_reducible refine rSPL ?_ ?_ <;> intro hb)
    | (with_reducible refine rSPLn ?_ ?_ <;> intro hb)
    | (with_reducible refine rSPLnb ?_ ?_ <;> intro hb)
    | (with_reducible refine rSPLb ?_ ?_ <;> intro hb)
    | (exfalso; omega))
        refine rLDf ho1.top q2 ?_
        repeat' (first
    | with_reducible refine rTT ?_
    | with_reducible refine rRFL ?_
    | with_reducible refine rLEN (by assumption) ?_
    | (with_reducible refine rIXk (by assumption) (by assumption) ?_; intro p hp)
    | (with_reducible refine rIX (by assumption) (by omega) (by omega) ?_; intro p a ha hp)
    | with_reducible refine rLDi (by assumption) ?_
    | (with_reducible refine rLD (by assumption) ?_; intro c hc)
    | with_reducible refine rADD (by omega) ?_
    | with_reducible refine rSUB (by omega) ?_
    | with_reducible refine rLSS ?_
    | with_reducible refine rLEQ ?_
    | with_reducible refine rGTR ?_
    | with_reducible refine rGEQ ?_
    | with_reducible refine rEQL ?_
    | with_reducible refine rNEQ ?_
    | with_reducible refine rNOT ?_
    | (with_reducible refine rBRK ?_ ?_ <;> intro hb)
    | (with_reducible refine rBRKn ?_ ?_ <;> intro hb)
    | (with_reducible refine rBRKnb ?_ ?_ <;> intro hb)
    | (with_reducible refine rBRKb ?_ ?_ <;> intro hb)
    | (with_reducible refine rSPL ?_ ?_ <;> intro hb)
    | (with_reducible refine rSPLn ?_ ?_ <;> intro hb)
    | (with_reducible refine rSPLnb ?_ ?_ <;> intro hb)
    | (with_reducible refine rSPLb ?_ ?_ <;> intro hb)
    | (exfalso; omega))
        refine rIXo (by simp [tabRow]; omega) ?_
        repeat' (first
    | with_reducible refine rTT ?_
    | with_reducible refine rRFL ?_
    | with_reducible refine rLEN (by assumption) ?_
    | (with_reducible refine rIXk (by assumption) (by assumption) ?_; intro p hp)
    | (with_reducible refine rIX (by assumption) (by omega) (by omega) ?_; intro p a ha hp)
    | with_reducible refine rLDi (by assumption) ?_
    | (with_reducible refine rLD (by assumption) ?_; intro c hc)
    | with_reducible refine rADD (by omega) ?_
    | with_reducible refine rSUB (by omega) ?_
    | with_reducible refine rLSS ?_
    | with_reducible refine rLEQ ?_
    | with_reducible refine rGTR ?_
    | with_reducible refine rGEQ ?_
    | with_reducible refine rEQL ?_
    | with_reducible refine rNEQ ?_
    | with_reducible refine rNOT ?_
    | (with_reducible refine rBRK ?_ ?_ <;> intro hb)
    | (with_reducible refine rBRKn ?_ ?_ <;> intro hb)
    | (with_reducible refine rBRKnb ?_ ?_ <;> intro hb)
    | (with_reducible refine rBRKb ?_ ?_ <;> intro hb)
    | (with_reducible refine rSPL ?_ ?_ <;> intro hb)
    | (with_reducible refine rSPLn ?_ ?_ <;> intro hb)
    | (with_reducible refine rSPLnb ?_ ?_ <;> intro hb)
    | (with_reducible refine rSPLb ?_ ?_ <;> intro hb)
    | (exfalso; omega))
        refine rLDf q3 (v := I (cornAt t i' j)) (by simp [tabRow, List.getElem?_range (show j < t.length by omega)]) ?_
        refine rADDw ?_
        repeat' (first
    | with_reducible refine rTT ?_
    | with_reducible refine rRFL ?_
    | with_reducible refine rLEN (by assumption) ?_
    | (with_reducible refine rIXk (by assumption) (by assumption) ?_; intro p hp)
    | (with_reducible refine rIX (by assumption) (by omega) (by omega) ?_; intro p a ha hp)
    | with_reducible refine rLDi (by assumption) ?_
    | (with_reducible refine rLD (by assumption) ?_; intro c hc)
    | with_reducible refine rADD (by omega) ?_
    | with_reducible refine rSUB (by omega) ?_
    | with_reducible refine rLSS ?_
    | with_reducible refine rLEQ ?_
    | with_reducible refine rGTR ?_
    | with_reducible refine rGEQ ?_
    | with_reducible refine rEQL ?_
    | with_reducible refine rNEQ ?_
    | with_reducible refine rNOT ?_
    | (with_reducible refine rBRK ?_ ?_ <;> intro hb)
    | (with_reducible refine rBRKn ?_ ?_ <;> intro hb)
    | (with_reducible refine rBRKnb ?_ ?_ <;> intro hb)
    | (with_reducible refine rBRKb ?_ ?_ <;> intro hb)
    | (with_reducible refine rSPL ?_ ?_ <;> intro hb)
    | (with_reducible refine rSPLn ?_ ?_ <;> intro hb)
    | (with_reducible refine rSPLnb ?_ ?_ <;> intro hb)
    | (with_reducible refine rSPLb ?_ ?_ <;> intro hb)
    | (exfalso; omega))
        refine rIXo (by simp; omega) ?_
        repeat' (first
    | with_reducible refine rTT ?_
    | with_reducible refine rRFL ?_
    | with_reducible refine rLEN (by assumption) ?_
    | (with_reducible refine rIXk (by assumption) (by assumption) ?_; intro p hp)
    | (with_reducible refine rIX (by assumption) (by omega) (by omega) ?_; intro p a ha hp)
    | with_reducible refine rLDi (by assumption) ?_
    | (with_reducible refine rLD (by assumption) ?_; intro c hc)
    | with_reducible refine rADD (by omega) ?_
    | with_reducible refine rSUB (by omega) ?_
    | with_reducible refine rLSS ?_
    | with_reducible refine rLEQ ?_
    | with_reducible refine rGTR ?_
    | with_reducible refine rGEQ ?_
    | with_reducible refine rEQL ?_
    | with_reducible refine rNEQ ?_
    | with_reducible refine rNOT ?_
    | (with_reducible refine rBRK ?_ ?_ <;> intro hb)
    | (with_reducible refine rBRKn ?_ ?_ <;> intro hb)
    | (with_reducible refine rBRKnb ?_ ?_ <;> intro hb)
    | (with_reducible refine rBRKb ?_ ?_ <;> intro hb)
    | (with_reducible refine rSPL ?_ ?_ <;> intro hb)
    | (with_reducible refine rSPLn ?_ ?_ <;> intro hb)
    | (with_reducible refine rSPLnb ?_ ?_ <;> intro hb)
    | (with_reducible refine rSPLb ?_ ?_ <;> intro hb)
    | (exfalso; omega))
        refine rSTp p3 (by simp; omega) rfl ?_
        rw [hset1]
        repeat' (first
    | with_reducible refine rTT ?_
    | with_reducible refine rRFL ?_
    | with_reducible refine rLEN (by assumption) ?_
    | (with_reducible refine rIXk (by assumption) (by assumption) ?_; intro p hp)
    | (with_reducible refine rIX (by assumption) (by omega) (by omega) ?_; intro p a ha hp)
    | with_reducible refine rLDi (by assumption) ?_
    | (with_reducible refine rLD (by assumption) ?_; intro c hc)
    | with_reducible refine rADD (by omega) ?_
    | with_reducible refine rSUB (by omega) ?_
    | with_reducible refine rLSS ?_
    | with_reducible refine rLEQ ?_
    | with_reducible refine rGTR ?_
    | with_reducible refine rGEQ ?_
    | with_reducible refine rEQL ?_
    | with_reducible refine rNEQ ?_
    | with_reducible refine rNOT ?_
    | (with_reducible refine rBRK ?_ ?_ <;> intro hb)
    | (with_reducible refine rBRKn ?_ ?_ <;> intro hb)
    | (with_reducible refine rBRKnb ?_ ?_ <;> intro hb)
    | (with_reducible refine rBRKb ?_ ?_ <;> intro hb)
    | (with_reducible refine rSPL ?_ ?_ <;> intro hb)
    | (with_reducible refine rSPLn ?_ ?_ <;> intro hb)
    | (with_reducible refine rSPLnb ?_ ?_ <;> intro hb)
    | (with_reducible refine rSPLb ?_ ?_ <;> intro hb)
    | (exfalso; omega))
        have hgetD : t.getD (i' + 1) [] = row := by simp [List.getD, hrow]
        have hval : w64 (sumW (row.take (j + 1)) + cornAt t i' j) = cornAt t (i' + 1) j := by rw [cornAt, hgetD]
        rw [hval]
        have ho2 := ho1.put h4' p1 p3 (r' := (r.set j (sumW (row.take (j + 1)))).set j (cornAt t (i' + 1) j)) (by simp)
        rw [List.set_set, List.set_set] at ho2
        rw [List.set_set]
        refine ih (j + 1) (T.set (i' + 1) (r.set j (cornAt t (i' + 1) j))) (r.set j (cornAt t (i' + 1) j)) _ (by omega) (by simpa using h1) (sq_set h2 h4 (by simp)) (fun y hy => by rw [List.getElem?_set_ne (by omega)]; exact h3 y hy) (List.getElem?_set_self hT) ?_ ho2 (hF1.set p4 gj' (ifrees_map _))
        have e1 : (r.set j (cornAt t (i' + 1) j))[j]? = some (cornAt t (i' + 1) j) := List.getElem?_set_self (by omega)
        have e2 : (tabRow t.length (cornAt t) (i' + 1))[j]? = some (cornAt t (i' + 1) j) := by simp [tabRow, List.getElem?_range (show j < t.length by omega)]
        rw [take_some e1, take_some e2, List.take_set_of_le (Nat.le_refl _), h5]
      · have hi0 : i = 0 := by omega
        subst hi0
        repeat' (first
    | with_reducible refine rTT ?_
    | with_reducible refine rRFL ?_
    | with_reducible refine rLEN (by assumption) ?_
    | (with_reducible refine rIXk (by assumption) (by assumption) ?_; intro p hp)
    | (with_reducible refine rIX (by assumption) (by omega) (by omega) ?_; intro p a ha hp)
    | with_reducible refine rLDi (by assumption) ?_
    | (with_reducible refine rLD (by assumption) ?_; intro c hc)
    | with_reducible refine rADD (by omega) ?_
    | with_reducible refine rSUB (by omega) ?_
    | with_reducible refine rLSS ?_
    | with_reducible refine rLEQ ?_
    | with_reducible refine rGTR ?_
    | with_reducible refine rGEQ ?_
    | with_reducible refine rEQL ?_
    | with_reducible refine rNEQ ?_
    | with_reducible refine rNOT ?_
    | (with_reducible refine rBRK ?_ ?_ <;> intro hb)
    | (with_reducible refine rBRKn ?_ ?_ <;> intro hb)
    | (with_reducible refine rBRKnb ?_ ?_ <;> intro hb)
    | (with_reducible refine rBRKb ?_ ?_ <;> intro hb)
    | (with_reducible refine rSPL ?_ ?_ <;> intro hb)
    | (with_reducible refine rSPLn ?_ ?_ <;> intro hb)
    | (with_reducible refine rSPLnb ?_ ?_ <;> intro hb)
    | (with_reducible refine rSPLb ?_ ?_ <;> intro hb)
    | (exfalso; omega))
        have hgetD : t.getD 0 [] = row := by simp [List.getD, hrow]
        have hval : sumW (row.take (j + 1)) = cornAt t 0 j := by rw [cornAt, hgetD]
        refine ih (j + 1) (T.set 0 (r.set j (sumW (row.take (j + 1))))) (r.set j (sumW (row.take (j + 1)))) _ (by omega) (by simpa using h1) h2' (fun y hy => by omega) h4' ?_ ho1 hF1
        have e1 : (r.set j (sumW (row.take (j + 1))))[j]? = some (sumW (row.take (j + 1))) := List.getElem?_set_self (by omega)
        have e2 : (tabRow t.length (cornAt t) 0)[j]? = some (sumW (row.take (j + 1))) := by simp [tabRow, List.getElem?_range (show j < t.length by omega), hval]
        rw [take_some e1, take_some e2, List.take_set_of_le (Nat.le_refl _), h5]
theorem corners_out (hv : IsTab v t) (hl : t.length ≤ 100000) (hs : isSquareB t = true) {k g : Nat} {rows : List AVal} {ks : List Nat} (hq : ∀ (H : Heap), OTab H0.length H k g rows ks (tabT t.length t.length (cornAt t)) → Fresh H0 H → Q (.own k g 1 0 t.length) H) :
    ∀ (n i : Nat) (T : List (List Int)) (H : Heap), i + n = t.length → T.length = t.length → isSquareB T = true → (∀ x, x < i → T[x]? = some (tabRow t.length (cornAt t) x)) → OTab H0.length H k g rows ks T → Fresh H0 H →
      spec_sgCorners.L3 Q v (.own k g 1 0 t.length) (I t.length) (I i) H := by
  intro n
  induction n with
  | zero =>
    intro i T H hi h1 h2 h3 ho hF
    apply spec_sgCorners.step3
    unfold spec_sgCorners.step3_vc
    repeat' (first
    | with_reducible refine rTT ?_
    | with_reducible refine rRFL ?_
    | with_reducible refine rLEN (by assumption) ?_
    | (with_reducible refine rIXk (by assumption) (by assumption) ?_; intro p hp)
    | (with_reducible refine rIX (by assumption) (by omega) (by omega) ?_; intro p a ha hp)
    | with_reducible refine rLDi (by assumption) ?_
    | (with_reducible refine rLD (by assumption) ?_; intro c hc)
    | with_reducible refine rADD (by omega) ?_
    | with_reducible refine rSUB (by omega) ?_
    | with_reducible refine rLSS ?_
    | with_reducible refine rLEQ ?_
    | with_reducible refine rGTR ?_
    | with_reducible refine rGEQ ?_
    | with_reducible refine rEQL ?_
    | with_reducible refine rNEQ ?_
    | with_reducible refine rNOT ?_
    | (with_reducible refine rBRK ?_ ?_ <;> intro hb)
    | (with_reducible refine rBRKn ?_ ?_ <;> intro hb)
    | (with_reducible refine rBRKnb ?_ ?_ <;> intro hb)
    | (with_reducible refine rBRKb ?_ ?_ <;> intro hb)
    | (with_reducible refine rSPL ?_ ?_ <;> intro hb)
    | (with_reducible refine rSPLn ?_ ?_ <;> intro hb)
    | (with_reducible refine rSPLnb ?_ ?_ <;> intro hb)
    | (with_reducible refine rSPLb ?_ ?_ <;> intro hb)
    | (exfalso; omega))
    have : T = tabT t.length t.length (cornAt t) := by
      refine List.ext_getElem? fun x => ?_
      by_cases hx : x < t.length
      · rw [h3 x (by omega)]
        simp [tabT, List.getElem?_range hx]
      · rw [List.getElem?_eq_none (by omega), List.getElem?_eq_none (by simp [tabT]; omega)]
    subst this
    exact hq H ho hF
  | succ n ih =>
    intro i T H hi h1 h2 h3 ho hF
    obtain ⟨row, hrow⟩ := ex_get (l := t) (k := i) (by omega)
    obtain ⟨r, hr⟩ := ex_get (l := T) (k := i) (by omega)
    have hrl := sq_len hs (List.mem_of_getElem? hrow)
    apply spec_sgCorners.step3
    unfold spec_sgCorners.step3_vc
    repeat' (first
    | with_reducible refine rTT ?_
    | with_reducible refine rRFL ?_
    | with_reducible refine rLEN (by assumption) ?_
    | (with_reducible refine rIXk (by assumption) (by assumption) ?_; intro p hp)
    | (with_reducible refine rIX (by assumption) (by omega) (by omega) ?_; intro p a ha hp)
    | with_reducible refine rLDi (by assumption) ?_
    | (with_reducible refine rLD (by assumption) ?_; intro c hc)
    | with_reducible refine rADD (by omega) ?_
    | with_reducible refine rSUB (by omega) ?_
    | with_reducible refine rLSS ?_
    | with_reducible refine rLEQ ?_
    | with_reducible refine rGTR ?_
    | with_reducible refine rGEQ ?_
    | with_reducible refine rEQL ?_
    | with_reducible refine rNEQ ?_
    | with_reducible refine rNOT ?_
    | (with_reducible refine rBRK ?_ ?_ <;> intro hb)
    | (with_reducible refine rBRKn ?_ ?_ <;> intro hb)
    | (with_reducible refine rBRKnb ?_ ?_ <;> intro hb)
    | (with_reducible refine rBRKb ?_ ?_ <;> intro hb)
    | (with_reducible refine rSPL ?_ ?_ <;> intro hb)
    | (with_reducible refine rSPLn ?_ ?_ <;> intro hb)
    | (with_reducible refine rSPLnb ?_ ?_ <;> intro hb)
    | (with_reducible refine rSPLb ?_ ?_ <;> intro hb)
    | (exfalso; omega))
    refine corners_in hv hl hs hrow (by assumption) (fun s T' H' q1 q2 q3 q4 q5 => ?_) t.length 0 T r H (by omega) h1 h2 h3 hr rfl ho hF
    apply spec_sgCorners.step7
    unfold spec_sgCorners.step7_vc
    repeat' (first
    | with_reducible refine rTT ?_
    | with_reducible refine rRFL ?_
    | with_reducible refine rLEN (by assumption) ?_
    | (with_reducible refine rIXk (by assumption) (by assumption) ?_; intro p hp)
    | (with_reducible refine rIX (by assumption) (by omega) (by omega) ?_; intro p a ha hp)
    | with_reducible refine rLDi (by assumption) ?_
    | (with_reducible refine rLD (by assumption) ?_; intro c hc)
    | with_reducible refine rADD (by omega) ?_
    | with_reducible refine rSUB (by omega) ?_
    | with_reducible refine rLSS ?_
    | with_reducible refine rLEQ ?_
    | with_reducible refine rGTR ?_
    | with_reducible refine rGEQ ?_
    | with_reducible refine rEQL ?_
    | with_reducible refine rNEQ ?_
    | with_reducible refine rNOT ?_
    | (with_reducible refine rBRK ?_ ?_ <;> intro hb)
    | (with_reducible refine rBRKn ?_ ?_ <;> intro hb)
    | (with_reducible refine rBRKnb ?_ ?_ <;> intro hb)
    | (with_reducible refine rBRKb ?_ ?_ <;> intro hb)
    | (with_reducible refine rSPL ?_ ?_ <;> intro hb)
    | (with_reducible refine rSPLn ?_ ?_ <;> intro hb)
    | (with_reducible refine rSPLnb ?_ ?_ <;> intro hb)
    | (with_reducible refine rSPLb ?_ ?_ <;> intro hb)
    | (exfalso; omega))
    exact ih (i + 1) T' H' (by omega) q1 q2 q3 q4 q5
theorem corners_ok {H : Heap} (hv : IsTab v t) (hl : t.length ≤ 100000) (hs : isSquareB t = true) : ACalls Try.prog 114 [v] H fun r H' => IsTab r (tabT t.length t.length (cornAt t)) ∧ H' = H := by
  apply ACalls.pure
  apply spec_sgCorners.start
  unfold spec_sgCorners.start_vc
  repeat' (first
    | with_reducible refine rTT ?_
    | with_reducible refine rRFL ?_
    | with_reducible refine rLEN (by assumption) ?_
    | (with_reducible refine rIXk (by assumption) (by assumption) ?_; intro p hp)
    | (with_reducible refine rIX (by assumption) (by omega) (by omega) ?_; intro p a ha hp)
    | with_reducible refine rLDi (by assumption) ?_
    | (with_reducible refine rLD (by assumption) ?_; intro c hc)
    | with_reducible refine rADD (by omega) ?_
    | with_reducible refine rSUB (by omega) ?_
    | with_reducible refine rLSS ?_
    | with_reducible refine rLEQ ?_
    | with_reducible refine rGTR ?_
    | with_reducible refine rGEQ ?_
    | with_reducible refine rEQL ?_
    | with_reducible refine rNEQ ?_
    | with_reducible refine rNOT ?_
    | (with_reducible refine rBRK ?_ ?_ <;> intro hb)
    | (with_reducible refine rBRKn ?_ ?_ <;> intro hb)
    | (with_reducible refine rBRKnb ?_ ?_ <;> intro hb)
    | (with_reducible refine rBRKb ?_ ?_ <;> intro hb)
    | (with_reducible refine rSPL ?_ ?_ <;> intro hb)
    | (with_reducible refine rSPLn ?_ ?_ <;> intro hb)
    | (with_reducible refine rSPLnb ?_ ?_ <;> intro hb)
    | (with_reducible refine rSPLb ?_ ?_ <;> intro hb)
    | (exfalso; omega))
  refine ACalls.mono (sgZero_ok (by omega)) ?_
  rintro r H1 ⟨h1, h2⟩
  repeat' (first
    | with_reducible refine rTT ?_
    | with_reducible refine rRFL ?_
    | with_reducible refine rLEN (by assumption) ?_
    | (with_reducible refine rIXk (by assumption) (by assumption) ?_; intro p hp)
    | (with_reducible refine rIX (by assumption) (by omega) (by omega) ?_; intro p a ha hp)
    | with_reducible refine rLDi (by assumption) ?_
    | (with_reducible refine rLD (by assumption) ?_; intro c hc)
    | with_reducible refine rADD (by omega) ?_
    | with_reducible refine rSUB (by omega) ?_
    | with_reducible refine rLSS ?_
    | with_reducible refine rLEQ ?_
    | with_reducible refine rGTR ?_
    | with_reducible refine rGEQ ?_
    | with_reducible refine rEQL ?_
    | with_reducible refine rNEQ ?_
    | with_reducible refine rNOT ?_
    | (with_reducible refine rBRK ?_ ?_ <;> intro hb)
    | (with_reducible refine rBRKn ?_ ?_ <;> intro hb)
    | (with_reducible refine rBRKnb ?_ ?_ <;> intro hb)
    | (with_reducible refine rBRKb ?_ ?_ <;> intro hb)
    | (with_reducible refine rSPL ?_ ?_ <;> intro hb)
    | (with_reducible refine rSPLn ?_ ?_ <;> intro hb)
    | (with_reducible refine rSPLnb ?_ ?_ <;> intro hb)
    | (with_reducible refine rSPLb ?_ ?_ <;> intro hb)
    | (exfalso; omega))
  have fin : ∀ (r : AVal) (H' : Heap) (T : List (List Int)), IsOTab H.length H' r T → Fresh H H' → HSub H H' ∧ ∃ k r', Pur (nw H H') k r r' ∧ IsTab r' T ∧ H = H := by
    intro r H' T h3 h4
    obtain ⟨v', q1, q2⟩ := h3.pur (Hf := nw H H') fun i hi => nw_above H H' hi
    exact ⟨h4.sub, 2, v', q1, q2, rfl⟩
  have hz : (zeros t.length).length = t.length := by simp [zeros]
  rcases h1 with ⟨rfl, ht⟩ | ⟨k, g, rows, ks, rfl, ho⟩
  · rw [ht] at hz
    have hc0 : t = [] := List.eq_nil_of_length_eq_zero hz.symm
    subst hc0
    apply spec_sgCorners.step3
    unfold spec_sgCorners.step3_vc
    refine rLSS ?_
    exact rBRK (fun h => absurd h (by simp)) (fun _ => fin _ _ _ (.inl ⟨rfl, rfl⟩) h2)
  · rw [hz]
    refine corners_out hv hl hs (fun H' h3 h4 => fin _ _ _ (.inr ⟨k, g, rows, ks, by simp [tabT], h3⟩) h4) t.length 0 (zeros t.length) H1 (by omega) hz (zeros_sq _) (fun x hx => by omega) ho h2
end

end Go.Proofs.Ytccioplhchmilaa.AL
