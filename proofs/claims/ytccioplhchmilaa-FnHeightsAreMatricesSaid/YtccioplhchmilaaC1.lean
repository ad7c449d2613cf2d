/-
  Contracts: small functions on numbers and lists.
-/
import Derived.Test.YtccioplhchmilaaC0
import Derived.Test.YtccioplhchmilaaProg
set_option linter.unusedVariables false
set_option maxRecDepth 100000
namespace Go.Proofs.Ytccioplhchmilaa.AL
open Go Go.Proofs

theorem mixed : Try.prog.follows .mixedOrders = true := by kernel_rfl

/-! impl.within (slots: 0 n, 1 low, 2 high, 3 n, 4 low, 5 high) -/
namespace impl_within
def lv : List (Nat × List Nat) := []
def start_vc (Q : AVal → Heap → Prop) (a0 a1 a2 : AVal) (H : Heap) : Prop :=
BINK .leq a1 a0 fun x1 =>
SPL x1 (BINK .leq a0 a2 fun x2 =>
Q x2 H) (Q (AVal.bool false) H)
theorem start_eq (Q : AVal → Heap → Prop) (a0 a1 a2 : AVal) (H : Heap) : vs Try.prog lv 102 15 Try.f102.results.toList Q true 1000 [.sq (bodyOf Try.f102)] (entry [a0, a1, a2]) H = start_vc Q a0 a1 a2 H := by kernel_rfl
theorem start {Q : AVal → Heap → Prop} {a0 a1 a2 : AVal} {H : Heap} (h : start_vc Q a0 a1 a2 H) : ACalls Try.prog 102 [a0, a1, a2] H Q := acalls_vs (lv := lv) mixed Try.func102 rfl (by kernel_rfl) (by kernel_rfl) (start_eq Q a0 a1 a2 H ▸ h)
end impl_within

/-! impl.bit (slots: 0 b, 1 b) -/
namespace impl_bit
def lv : List (Nat × List Nat) := []
def start_vc (Q : AVal → Heap → Prop) (a0 : AVal) (H : Heap) : Prop :=
BRK a0 (Q (AVal.int .i64 1) H) (Q (AVal.int .i64 0) H)
theorem start_eq (Q : AVal → Heap → Prop) (a0 : AVal) (H : Heap) : vs Try.prog lv 130 4 Try.f130.results.toList Q true 1000 [.sq (bodyOf Try.f130)] (entry [a0]) H = start_vc Q a0 H := by kernel_rfl
theorem start {Q : AVal → Heap → Prop} {a0 : AVal} {H : Heap} (h : start_vc Q a0 H) : ACalls Try.prog 130 [a0] H Q := acalls_vs (lv := lv) mixed Try.func130 rfl (by kernel_rfl) (by kernel_rfl) (start_eq Q a0 H ▸ h)
end impl_bit

/-! impl.sum (slots: 0 list, 1 list, 3 all, 4 _, 5 n) -/
namespace impl_sum
def lv : List (Nat × List Nat) := [(3, [3, 6, 7, 8])]
noncomputable def K3 : List KF := [.lp (cB (cB (cR (cL (cR (cR (bodyOf Try.f136))))))), .bl 0, .sq (cR (cR (cR (bodyOf Try.f136))))]
def L3 (Q : AVal → Heap → Prop) (v3 v6 v7 v8 : AVal) (H : Heap) : Prop := At Try.prog 136 17 K3 Q (slotsOf [(3, v3), (6, v6), (7, v7), (8, v8)]) H
theorem L3_frz {Q : AVal → Heap → Prop} {v3 v6 v7 v8 w3 w6 w7 w8 : AVal} {H Hf Hk : Heap} {k : Nat} (hs : Split H Hf Hk) (hp : PurL Hf k [(3, v3, w3), (6, v6, w6), (7, v7, w7), (8, v8, w8)]) (h : L3 Q w3 w6 w7 w8 Hk) : L3 Q v3 v6 v7 v8 H := at_frz (ks := K3) hs hp h
def start_vc (Q : AVal → Heap → Prop) (a0 : AVal) (H : Heap) : Prop :=
LENK a0 fun x1 =>
impl_sum.L3 Q (AVal.int .i64 0) a0 x1 (AVal.int .i64 0) H
theorem start_eq (Q : AVal → Heap → Prop) (a0 : AVal) (H : Heap) : vs Try.prog lv 136 17 Try.f136.results.toList Q true 1000 [.sq (bodyOf Try.f136)] (entry [a0]) H = start_vc Q a0 H := by kernel_rfl
theorem start {Q : AVal → Heap → Prop} {a0 : AVal} {H : Heap} (h : start_vc Q a0 H) : ACalls Try.prog 136 [a0] H Q := acalls_vs (lv := lv) mixed Try.func136 rfl (by kernel_rfl) (by kernel_rfl) (start_eq Q a0 H ▸ h)
def step3_vc (Q : AVal → Heap → Prop) (v3 v6 v7 v8 : AVal) (H : Heap) : Prop :=
BINK .lss v8 v7 fun x1 =>
BRK x1 (TT ∧ IXK 1 v6 v8 fun x2 =>
TT ∧ TT ∧ LDK false 1 H x2 fun x3 =>
BINK .add v3 x3 fun x4 =>
BINK .add v8 (AVal.int .i64 1) fun x5 =>
impl_sum.L3 Q x4 v6 v7 x5 H) (Q v3 H)
theorem step3_eq (Q : AVal → Heap → Prop) (v3 v6 v7 v8 : AVal) (H : Heap) : vs Try.prog lv 136 17 Try.f136.results.toList Q true 1000 (.sq (cB (cB (cR (cL (cR (cR (bodyOf Try.f136))))))) :: K3) (slotsOf [(3, v3), (6, v6), (7, v7), (8, v8)]) H = step3_vc Q v3 v6 v7 v8 H := by kernel_rfl
theorem step3 {Q : AVal → Heap → Prop} {v3 v6 v7 v8 : AVal} {H : Heap} (h : step3_vc Q v3 v6 v7 v8 H) : L3 Q v3 v6 v7 v8 H := at_lp_vs (lv := lv) (ks := K3.tail) mixed Try.func136 (step3_eq Q v3 v6 v7 v8 H ▸ h)
end impl_sum

/-! impl.isSide (slots: 0 n, 1 n) -/
namespace impl_isSide
def lv : List (Nat × List Nat) := []
def start_vc (Q : AVal → Heap → Prop) (a0 : AVal) (H : Heap) : Prop :=
ACalls Try.prog 102 [a0, (AVal.int .i64 1), (AVal.int .i64 6)] H fun x1 H2 =>
Q x1 H2
theorem start_eq (Q : AVal → Heap → Prop) (a0 : AVal) (H : Heap) : vs Try.prog lv 80 5 Try.f80.results.toList Q true 1000 [.sq (bodyOf Try.f80)] (entry [a0]) H = start_vc Q a0 H := by kernel_rfl
theorem start {Q : AVal → Heap → Prop} {a0 : AVal} {H : Heap} (h : start_vc Q a0 H) : ACalls Try.prog 80 [a0] H Q := acalls_vs (lv := lv) mixed Try.func80 rfl (by kernel_rfl) (by kernel_rfl) (start_eq Q a0 H ▸ h)
end impl_isSide

/-! impl.alternate (slots: 0 list, 1 list, 3 s, 4 _, 5 n) -/
namespace impl_alternate
def lv : List (Nat × List Nat) := [(3, [3, 6, 7, 8])]
noncomputable def K3 : List KF := [.lp (cB (cB (cR (cL (cR (cR (bodyOf Try.f93))))))), .bl 0, .sq (cR (cR (cR (bodyOf Try.f93))))]
def L3 (Q : AVal → Heap → Prop) (v3 v6 v7 v8 : AVal) (H : Heap) : Prop := At Try.prog 93 26 K3 Q (slotsOf [(3, v3), (6, v6), (7, v7), (8, v8)]) H
theorem L3_frz {Q : AVal → Heap → Prop} {v3 v6 v7 v8 w3 w6 w7 w8 : AVal} {H Hf Hk : Heap} {k : Nat} (hs : Split H Hf Hk) (hp : PurL Hf k [(3, v3, w3), (6, v6, w6), (7, v7, w7), (8, v8, w8)]) (h : L3 Q w3 w6 w7 w8 Hk) : L3 Q v3 v6 v7 v8 H := at_frz (ks := K3) hs hp h
def start_vc (Q : AVal → Heap → Prop) (a0 : AVal) (H : Heap) : Prop :=
LENK a0 fun x1 =>
impl_alternate.L3 Q (AVal.int .i64 0) a0 x1 (AVal.int .i64 0) H
theorem start_eq (Q : AVal → Heap → Prop) (a0 : AVal) (H : Heap) : vs Try.prog lv 93 26 Try.f93.results.toList Q true 1000 [.sq (bodyOf Try.f93)] (entry [a0]) H = start_vc Q a0 H := by kernel_rfl
theorem start {Q : AVal → Heap → Prop} {a0 : AVal} {H : Heap} (h : start_vc Q a0 H) : ACalls Try.prog 93 [a0] H Q := acalls_vs (lv := lv) mixed Try.func93 rfl (by kernel_rfl) (by kernel_rfl) (start_eq Q a0 H ▸ h)
def step3_vc (Q : AVal → Heap → Prop) (v3 v6 v7 v8 : AVal) (H : Heap) : Prop :=
BINK .lss v8 v7 fun x1 =>
BRK x1 (TT ∧ IXK 1 v6 v8 fun x2 =>
TT ∧ TT ∧ LDK false 1 H x2 fun x3 =>
BINK .add v3 x3 fun x4 =>
ACalls Try.prog 102 [x3, (AVal.int .i64 (-1)), (AVal.int .i64 1)] H fun x5 H6 =>
NOTK x5 fun x7 =>
SPL x7 (Q (AVal.bool false) H6) (ACalls Try.prog 102 [x4, (AVal.int .i64 0), (AVal.int .i64 1)] H6 fun x8 H9 =>
NOTK x8 fun x10 =>
BRK x10 (Q (AVal.bool false) H9) (BINK .add v8 (AVal.int .i64 1) fun x11 =>
impl_alternate.L3 Q x4 v6 v7 x11 H9))) (BINK .eql v3 (AVal.int .i64 1) fun x12 =>
Q x12 H)
theorem step3_eq (Q : AVal → Heap → Prop) (v3 v6 v7 v8 : AVal) (H : Heap) : vs Try.prog lv 93 26 Try.f93.results.toList Q true 1000 (.sq (cB (cB (cR (cL (cR (cR (bodyOf Try.f93))))))) :: K3) (slotsOf [(3, v3), (6, v6), (7, v7), (8, v8)]) H = step3_vc Q v3 v6 v7 v8 H := by kernel_rfl
theorem step3 {Q : AVal → Heap → Prop} {v3 v6 v7 v8 : AVal} {H : Heap} (h : step3_vc Q v3 v6 v7 v8 H) : L3 Q v3 v6 v7 v8 H := at_lp_vs (lv := lv) (ks := K3.tail) mixed Try.func93 (step3_eq Q v3 v6 v7 v8 H ▸ h)
end impl_alternate

/-! impl.column (slots: 0 m, 1 j, 2 m, 3 j, 5 out, 6 _, 7 row) -/
namespace impl_column
def lv : List (Nat × List Nat) := [(3, [1, 5, 9, 10, 11])]
noncomputable def K3 : List KF := [.lp (cB (cB (cR (cL (cR (cR (bodyOf Try.f94))))))), .bl 0, .sq (cR (cR (cR (bodyOf Try.f94))))]
def L3 (Q : AVal → Heap → Prop) (v1 v5 v9 v10 v11 : AVal) (H : Heap) : Prop := At Try.prog 94 24 K3 Q (slotsOf [(1, v1), (5, v5), (9, v9), (10, v10), (11, v11)]) H
theorem L3_frz {Q : AVal → Heap → Prop} {v1 v5 v9 v10 v11 w1 w5 w9 w10 w11 : AVal} {H Hf Hk : Heap} {k : Nat} (hs : Split H Hf Hk) (hp : PurL Hf k [(1, v1, w1), (5, v5, w5), (9, v9, w9), (10, v10, w10), (11, v11, w11)]) (h : L3 Q w1 w5 w9 w10 w11 Hk) : L3 Q v1 v5 v9 v10 v11 H := at_frz (ks := K3) hs hp h
def start_vc (Q : AVal → Heap → Prop) (a0 a1 : AVal) (H : Heap) : Prop :=
TT ∧ TT ∧ TT ∧ BSK 1 [] H fun x1 H2 =>
LENK a0 fun x3 =>
impl_column.L3 Q a1 x1 a0 x3 (AVal.int .i64 0) H2
theorem start_eq (Q : AVal → Heap → Prop) (a0 a1 : AVal) (H : Heap) : vs Try.prog lv 94 24 Try.f94.results.toList Q true 1000 [.sq (bodyOf Try.f94)] (entry [a0, a1]) H = start_vc Q a0 a1 H := by kernel_rfl
theorem start {Q : AVal → Heap → Prop} {a0 a1 : AVal} {H : Heap} (h : start_vc Q a0 a1 H) : ACalls Try.prog 94 [a0, a1] H Q := acalls_vs (lv := lv) mixed Try.func94 rfl (by kernel_rfl) (by kernel_rfl) (start_eq Q a0 a1 H ▸ h)
def step3_vc (Q : AVal → Heap → Prop) (v1 v5 v9 v10 v11 : AVal) (H : Heap) : Prop :=
BINK .lss v11 v10 fun x1 =>
BRK x1 (TT ∧ IXK 1 v9 v11 fun x2 =>
TT ∧ TT ∧ LDK false 1 H x2 fun x3 =>
TT ∧ IXK 1 x3 v1 fun x4 =>
TT ∧ TT ∧ LDK false 1 H x4 fun x5 =>
TT ∧ TT ∧ TT ∧ BSK 1 [x5] H fun x6 H7 =>
TT ∧ TT ∧ APK 1 H7 v5 x6 fun x8 H9 =>
BINK .add v11 (AVal.int .i64 1) fun x10 =>
impl_column.L3 Q v1 x8 v9 v10 x10 H9) (Q v5 H)
theorem step3_eq (Q : AVal → Heap → Prop) (v1 v5 v9 v10 v11 : AVal) (H : Heap) : vs Try.prog lv 94 24 Try.f94.results.toList Q true 1000 (.sq (cB (cB (cR (cL (cR (cR (bodyOf Try.f94))))))) :: K3) (slotsOf [(1, v1), (5, v5), (9, v9), (10, v10), (11, v11)]) H = step3_vc Q v1 v5 v9 v10 v11 H := by kernel_rfl
theorem step3 {Q : AVal → Heap → Prop} {v1 v5 v9 v10 v11 : AVal} {H : Heap} (h : step3_vc Q v1 v5 v9 v10 v11 H) : L3 Q v1 v5 v9 v10 v11 H := at_lp_vs (lv := lv) (ks := K3.tail) mixed Try.func94 (step3_eq Q v1 v5 v9 v10 v11 H ▸ h)
end impl_column


theorem within_ok {n lo hi : Int} {H : Heap} : ACalls Try.prog 102 [I n, I lo, I hi] H fun r H' => r = .bool (decide (lo ≤ n ∧ n ≤ hi)) ∧ H' = H := by
  apply impl_within.start
  unfold impl_within.start_vc
  repeat' (first
    | with_reducible refine rTT ?_
    | with_reducible refine rRFL ?_
    | with_reducible refine rLEN (by assumption) ?_
    | (with_reducible refine rIXk (by assumption) (by assumption) ?_; intro p hp)
    | (with_reducible refine rIX (by assumption) (by omega) (by omega) ?_; intro p a ha hp)
    | with_reducible refine rLDi (by assumption) ?_
    | (with_reducible refine rLD (by assumption) ?_; intro c hc)
    | with_reducible refine rADD (by omega) ?_
    | with_reducible refine rSUB (by omega) ?_
    | with_reducible refine rLSS ?_
    | with_reducible refine rLEQ ?_
    | with_reducible refine rGTR ?_
    | with_reducible refine rGEQ ?_
    | with_reducible refine rEQL ?_
    | with_reducible refine rNEQ ?_
    | with_reducible refine rNOT ?_
    | (with_reducible refine rBRK ?_ ?_ <;> intro hb)
    | (with_reducible refine rBRKn ?_ ?_ <;> intro hb)
    | (with_reducible refine rBRKnb ?_ ?_ <;> intro hb)
    | (with_reducible refine rBRKb ?_ ?_ <;> intro hb)
    | (with_reducible refine rSPL ?_ ?_ <;> intro hb)
    | (with_reducible refine rSPLn ?_ ?_ <;> intro hb)
    | (with_reducible refine rSPLnb ?_ ?_ <;> intro hb)
    | (with_reducible refine rSPLb ?_ ?_ <;> intro hb)
    | (exfalso; omega))
  · exact ⟨by simp [hb], rfl⟩
  · exact ⟨by simp [hb], rfl⟩

theorem isSide_ok {n : Int} {H : Heap} : ACalls Try.prog 80 [I n] H fun r H' => r = .bool (decide (1 ≤ n ∧ n ≤ 6)) ∧ H' = H := by
  apply impl_isSide.start
  unfold impl_isSide.start_vc
  exact within_ok

def sumW (l : List Int) : Int := l.foldl (fun s x => w64 (s + x)) 0
theorem sum_loop {l : List Int} {v : AVal} (hv : IsInts v l) (hl : l.length ≤ 1000000000) {H : Heap} {Q : AVal → Heap → Prop} : ∀ (n k : Nat) (s : Int), k + n = l.length → Q (I ((l.drop k).foldl (fun s x => w64 (s + x)) s)) H →
    impl_sum.L3 Q (I s) v (I l.length) (I k) H := by
  intro n
  induction n with
  | zero =>
    intro k s hk hq
    apply impl_sum.step3
    unfold impl_sum.step3_vc
    repeat' (first
    | with_reducible refine rTT ?_
    | with_reducible refine rRFL ?_
    | with_reducible refine rLEN (by assumption) ?_
    | (with_reducible refine rIXk (by assumption) (by assumption) ?_; intro p hp)
    | (with_reducible refine rIX (by assumption) (by omega) (by omega) ?_; intro p a ha hp)
    | with_reducible refine rLDi (by assumption) ?_
    | (with_reducible refine rLD (by assumption) ?_; intro c hc)
    | with_reducible refine rADD (by omega) ?_
    | with_reducible refine rSUB (by omega) ?_
    | with_reducible refine rLSS ?_
    | with_reducible refine rLEQ ?_
    | with_reducible refine rGTR ?_
    | with_reducible refine rGEQ ?_
    | with_reducible refine rEQL ?_
    | with_reducible refine rNEQ ?_
    | with_reducible refine rNOT ?_
    | (with_reducible refine rBRK ?_ ?_ <;> intro hb)
    | (with_reducible refine rBRKn ?_ ?_ <;> intro hb)
    | (with_reducible refine rBRKnb ?_ ?_ <;> intro hb)
    | (with_reducible refine rBRKb ?_ ?_ <;> intro hb)
    | (with_reducible refine rSPL ?_ ?_ <;> intro hb)
    | (with_reducible refine rSPLn ?_ ?_ <;> intro hb)
    | (with_reducible refine rSPLnb ?_ ?_ <;> intro hb)
    | (with_reducible refine rSPLb ?_ ?_ <;> intro hb)
    | (exfalso; omega))
    rw [List.drop_eq_nil_of_le (by omega)] at hq
    exact hq
  | succ n ih =>
    intro k s hk hq
    apply impl_sum.step3
    unfold impl_sum.step3_vc
    repeat' (first
    | with_reducible refine rTT ?_
    | with_reducible refine rRFL ?_
    | with_reducible refine rLEN (by assumption) ?_
    | (with_reducible refine rIXk (by assumption) (by assumption) ?_; intro p hp)
    | (with_reducible refine rIX (by assumption) (by omega) (by omega) ?_; intro p a ha hp)
    | with_reducible refine rLDi (by assumption) ?_
    | (with_reducible refine rLD (by assumption) ?_; intro c hc)
    | with_reducible refine rADD (by omega) ?_
    | with_reducible refine rSUB (by omega) ?_
    | with_reducible refine rLSS ?_
    | with_reducible refine rLEQ ?_
    | with_reducible refine rGTR ?_
    | with_reducible refine rGEQ ?_
    | with_reducible refine rEQL ?_
    | with_reducible refine rNEQ ?_
    | with_reducible refine rNOT ?_
    | (with_reducible refine rBRK ?_ ?_ <;> intro hb)
    | (with_reducible refine rBRKn ?_ ?_ <;> intro hb)
    | (with_reducible refine rBRKnb ?_ ?_ <;> intro hb)
    | (with_reducible refine rBRKb ?_ ?_ <;> intro hb)
    | (with_reducible refine rSPL ?_ ?_ <;> intro hb)
    | (with_reducible refine rSPLn ?_ ?_ <;> intro hb)
    | (with_reducible refine rSPLnb ?_ ?_ <;> intro hb)
    | (with_reducible refine rSPLb ?_ ?_ <;> intro hb)
    | (exfalso; omega))
    refine rADDw ?_
    repeat' (first
    | with_reducible refine rTT ?_
    | with_reducible refine rRFL ?_
    | with_reducible refine rLEN (by assumption) ?_
    | (with_reducible refine rIXk (by assumption) (by assumption) ?_; intro p hp)
    | (with_reducible refine rIX (by assumption) (by omega) (by omega) ?_; intro p a ha hp)
    | with_reducible refine rLDi (by assumption) ?_
    | (with_reducible refine rLD (by assumption) ?_; intro c hc)
    | with_reducible refine rADD (by omega) ?_
    | with_reducible refine rSUB (by omega) ?_
    | with_reducible refine rLSS ?_
    | with_reducible refine rLEQ ?_
    | with_reducible refine rGTR ?_
    | with_reducible refine rGEQ ?_
    | with_reducible refine rEQL ?_
    | with_reducible refine rNEQ ?_
    | with_reducible refine rNOT ?_
    | (with_reducible refine rBRK ?_ ?_ <;> intro hb)
    | (with_reducible refine rBRKn ?_ ?_ <;> intro hb)
    | (with_reducible refine rBRKnb ?_ ?_ <;> intro hb)
    | (with_reducible refine rBRKb ?_ ?_ <;> intro hb)
    | (with_reducible refine rSPL ?_ ?_ <;> intro hb)
    | (with_reducible refine rSPLn ?_ ?_ <;> intro hb)
    | (with_reducible refine rSPLnb ?_ ?_ <;> intro hb)
    | (with_reducible refine rSPLb ?_ ?_ <;> intro hb)
    | (exfalso; omega))
    rw [drop_someI ha] at hq
    exact ih (k + 1) _ (by omega) hq
theorem sum_ok {l : List Int} {v : AVal} (hv : IsInts v l) (hl : l.length ≤ 1000000000) {H : Heap} : ACalls Try.prog 136 [v] H fun r H' => r = I (sumW l) ∧ H' = H := by
  apply impl_sum.start
  unfold impl_sum.start_vc
  repeat' (first
    | with_reducible refine rTT ?_
    | with_reducible refine rRFL ?_
    | with_reducible refine rLEN (by assumption) ?_
    | (with_reducible refine rIXk (by assumption) (by assumption) ?_; intro p hp)
    | (with_reducible refine rIX (by assumption) (by omega) (by omega) ?_; intro p a ha hp)
    | with_reducible refine rLDi (by assumption) ?_
    | (with_reducible refine rLD (by assumption) ?_; intro c hc)
    | with_reducible refine rADD (by omega) ?_
    | with_reducible refine rSUB (by omega) ?_
    | with_reducible refine rLSS ?_
    | with_reducible refine rLEQ ?_
    | with_reducible refine rGTR ?_
    | with_reducible refine rGEQ ?_
    | with_reducible refine rEQL ?_
    | with_reducible refine rNEQ ?_
    | with_reducible refine rNOT ?_
    | (with_reducible refine rBRK ?_ ?_ <;> intro hb)
    | (with_reducible refine rBRKn ?_ ?_ <;> intro hb)
    | (with_reducible refine rBRKnb ?_ ?_ <;> intro hb)
    | (with_reducible refine rBRKb ?_ ?_ <;> intro hb)
    | (with_reducible refine rSPL ?_ ?_ <;> intro hb)
    | (with_reducible refine rSPLn ?_ ?_ <;> intro hb)
    | (with_reducible refine rSPLnb ?_ ?_ <;> intro hb)
    | (with_reducible refine rSPLb ?_ ?_ <;> intro hb)
    | (exfalso; omega))
  exact sum_loop hv hl l.length 0 0 (by omega) ⟨by simp [sumW], rfl⟩

/-- the sums of the first numbers are 0 or 1, and that of all is 1 -/
def alternateG : List Int → Int → Bool
  | [], s => decide (s = 1)
  | n :: l, s => let s' := w64 (s + n); decide (-1 ≤ n ∧ n ≤ 1) && decide (0 ≤ s' ∧ s' ≤ 1) && alternateG l s'
def alternateB (l : List Int) : Bool := alternateG l 0
theorem alternate_loop {l : List Int} {v : AVal} (hv : IsInts v l) (hl : l.length ≤ 1000000000) {H : Heap} {Q : AVal → Heap → Prop} : ∀ (n k : Nat) (s : Int), k + n = l.length → Q (.bool (alternateG (l.drop k) s)) H →
    impl_alternate.L3 Q (I s) v (I l.length) (I k) H := by
  intro n
  induction n with
  | zero =>
    intro k s hk hq
    apply impl_alternate.step3
    unfold impl_alternate.step3_vc
    repeat' (first
    | with_reducible refine rTT ?_
    | with_reducible refine rRFL ?_
    | with_reducible refine rLEN (by assumption) ?_
    | (with_reducible refine rIXk (by assumption) (by assumption) ?_; intro p hp)
    | (with_reducible refine rIX (by assumption) (by omega) (by omega) ?_; intro p a ha hp)
    | with_reducible refine rLDi (by assumption) ?_
    | (with_reducible refine rLD (by assumption) ?_; intro c hc)
    | with_reducible refine rADD (by omega) ?_
    | with_reducible refine rSUB (by omega) ?_
    | with_reducible refine rLSS ?_
    | with_reducible refine rLEQ ?_
    | with_reducible refine rGTR ?_
    | with_reducible refine rGEQ ?_
    | with_reducible refine rEQL ?_
    | with_reducible refine rNEQ ?_
    | with_reducible refine rNOT ?_
    | (with_reducible refine rBRK ?_ ?_ <;> intro hb)
    | (with_reducible refine rBRKn ?_ ?_ <;> intro hb)
    | (with_reducible refine rBRKnb ?_ ?_ <;> intro hb)
    | (with_reducible refine rBRKb ?_ ?_ <;> intro hb)
    | (with_reducible refine rSPL ?_ ?_ <;> intro hb)
    | (with_reducible refine rSPLn ?_ ?_ <;> intro hb)
    | (with_reducible refine rSPLnb ?_ ?_ <;> intro hb)
    | (with_reducible refine rSPLb ?_ ?_ <;> intro hb)
    | (exfalso; omega))
    rw [List.drop_eq_nil_of_le (by omega)] at hq
    exact hq
  | succ n ih =>
    intro k s hk hq
    apply impl_alternate.step3
    unfold impl_alternate.step3_vc
    repeat' (first
    | with_reducible refine rTT ?_
    | with_reducible refine rRFL ?_
    | with_reducible refine rLEN (by assumption) ?_
    | (with_reducible refine rIXk (by assumption) (by assumption) ?_; intro p hp)
    | (with_reducible refine rIX (by assumption) (by omega) (by omega) ?_; intro p a ha hp)
    | with_reducible refine rLDi (by assumption) ?_
    | (with_reducible refine rLD (by assumption) ?_; intro c hc)
    | with_reducible refine rADD (by omega) ?_
    | with_reducible refine rSUB (by omega) ?_
    | with_reducible refine rLSS ?_
    | with_reducible refine rLEQ ?_
    | with_reducible refine rGTR ?_
    | with_reducible refine rGEQ ?_
    | with_reducible refine rEQL ?_
    | with_reducible refine rNEQ ?_
    | with_reducible refine rNOT ?_
    | (with_reducible refine rBRK ?_ ?_ <;> intro hb)
    | (with_reducible refine rBRKn ?_ ?_ <;> intro hb)
    | (with_reducible refine rBRKnb ?_ ?_ <;> intro hb)
    | (with_reducible refine rBRKb ?_ ?_ <;> intro hb)
    | (with_reducible refine rSPL ?_ ?_ <;> intro hb)
    | (with_reducible refine rSPLn ?_ ?_ <;> intro hb)
    | (with_reducible refine rSPLnb ?_ ?_ <;> intro hb)
    | (with_reducible refine rSPLb ?_ ?_ <;> intro hb)
    | (exfalso; omega))
    rw [drop_someI ha] at hq
    refine rADDw ?_
    refine within_ok.mono ?_
    rintro r H' ⟨rfl, rfl⟩
    repeat' (first
    | with_reducible refine rTT ?_
    | with_reducible refine rRFL ?_
    | with_reducible refine rLEN (by assumption) ?_
    | (with_reducible refine rIXk (by assumption) (by assumption) ?_; intro p hp)
    | (with_reducible refine rIX (by assumption) (by omega) (by omega) ?_; intro p a ha hp)
    | with_reducible refine rLDi (by assumption) ?_
    | (with_reducible refine rLD (by assumption) ?_; intro c hc)
    | with_reducible refine rADD (by omega) ?_
    | with_reducible refine rSUB (by omega) ?_
    | with_reducible refine rLSS ?_
    | with_reducible refine rLEQ ?_
    | with_reducible refine rGTR ?_
    | with_reducible refine rGEQ ?_
    | with_reducible refine rEQL ?_
    | with_reducible refine rNEQ ?_
    | with_reducible refine rNOT ?_
    | (with_reducible refine rBRK ?_ ?_ <;> intro hb)
    | (with_reducible refine rBRKn ?_ ?_ <;> intro hb)
    | (with_reducible refine rBRKnb ?_ ?_ <;> intro hb)
    | (with_reducible refine rBRKb ?_ ?_ <;> intro hb)
    | (with_reducible refine rSPL ?_ ?_ <;> intro hb)
    | (with_reducible refine rSPLn ?_ ?_ <;> intro hb)
    | (with_reducible refine rSPLnb ?_ ?_ <;> intro hb)
    | (with_reducible refine rSPLb ?_ ?_ <;> intro hb)
    | (exfalso; omega))
    · simp only [alternateG, decide_eq_false hb, Bool.false_and] at hq; exact hq
    · refine within_ok.mono ?_
      rintro r H' ⟨rfl, rfl⟩
      repeat' (first
    | with_reducible refine rTT ?_
    | with_reducible refine rRFL ?_
    | with_reducible refine rLEN (by assumption) ?_
    | (with_reducible refine rIXk (by assumption) (by assumption) ?_; intro p hp)
    | (with_reducible refine rIX (by assumption) (by omega) (by omega) ?_; intro p a ha hp)
    | with_reducible refine rLDi (by assumption) ?_
    | (with_reducible refine rLD (by assumption) ?_; intro c hc)
    | with_reducible refine rADD (by omega) ?_
    | with_reducible refine rSUB (by omega) ?_
    | with_reducible refine rLSS ?_
    | with_reducible refine rLEQ ?_
    | with_reducible refine rGTR ?_
    | with_reducible refine rGEQ ?_
    | with_reducible refine rEQL ?_
    | with_reducible refine rNEQ ?_
    | with_reducible refine rNOT ?_
    | (with_reducible refine rBRK ?_ ?_ <;> intro hb)
    | (with_reducible refine rBRKn ?_ ?_ <;> intro hb)
    | (with_reducible refine rBRKnb ?_ ?_ <;> intro hb)
    | (with_reducible refine rBRKb ?_ ?_ <;> intro hb)
    | (with_reducible refine rSPL ?_ ?_ <;> intro hb)
    | (with_reducible refine rSPLn ?_ ?_ <;> intro hb)
    | (with_reducible refine rSPLnb ?_ ?_ <;> intro hb)
    | (with_reducible refine rSPLb ?_ ?_ <;> intro hb)
    | (exfalso; omega))
      · simp only [alternateG, decide_eq_false hb, Bool.and_false, Bool.false_and] at hq; exact hq
      · simp only [alternateG, decide_eq_true ‹-1 ≤ a ∧ a ≤ 1›, decide_eq_true ‹0 ≤ w64 (s + a) ∧ w64 (s + a) ≤ 1›, Bool.true_and] at hq
        exact ih (k + 1) _ (by omega) hq
theorem alternate_ok {l : List Int} {v : AVal} (hv : IsInts v l) (hl : l.length ≤ 1000000000) {H : Heap} : ACalls Try.prog 93 [v] H fun r H' => r = .bool (alternateB l) ∧ H' = H := by
  apply impl_alternate.start
  unfold impl_alternate.start_vc
  repeat' (first
    | with_reducible refine rTT ?_
    | with_reducible refine rRFL ?_
    | with_reducible refine rLEN (by assumption) ?_
    | (with_reducible refine rIXk (by assumption) (by assumption) ?_; intro p hp)
    | (with_reducible refine rIX (by assumption) (by omega) (by omega) ?_; intro p a ha hp)
    | with_reducible refine rLDi (by assumption) ?_
    | (with_reducible refine rLD (by assumption) ?_; intro c hc)
    | with_reducible refine rADD (by omega) ?_
    | with_reducible refine rSUB (by omega) ?_
    | with_reducible refine rLSS ?_
    | with_reducible refine rLEQ ?_
    | with_reducible refine rGTR ?_
    | with_reducible refine rGEQ ?_
    | with_reducible refine rEQL ?_
    | with_reducible refine rNEQ ?_
    | with_reducible refine rNOT ?_
    | (with_reducible refine rBRK ?_ ?_ <;> intro hb)
    | (with_reducible refine rBRKn ?_ ?_ <;> intro hb)
    | (with_reducible refine rBRKnb ?_ ?_ <;> intro hb)
    | (with_reducible refine rBRKb ?_ ?_ <;> intro hb)
    | (with_reducible refine rSPL ?_ ?_ <;> intro hb)
    | (with_reducible refine rSPLn ?_ ?_ <;> intro hb)
    | (with_reducible refine rSPLnb ?_ ?_ <;> intro hb)
    | (with_reducible refine rSPLb ?_ ?_ <;> intro hb)
    | (exfalso; omega))
  exact alternate_loop hv hl l.length 0 0 (by omega) ⟨by simp [alternateB], rfl⟩

/-! ### A column -/
def col (t : List (List Int)) (j : Nat) : List Int := t.map fun r => r.getD j 0
theorem column_loop {t : List (List Int)} {j : Nat} {v : AVal} (hv : IsTab v t) (hl : t.length ≤ 1000000) (hj : ∀ r ∈ t, j < r.length) {H0 : Heap} {Q : AVal → Heap → Prop} (hq : ∀ v' H', Bld H0 v' H' ((col t j).map I) → Q v' H') : ∀ (n k : Nat) (vo : AVal) (H : Heap), k + n = t.length → Bld H0 vo H ((col (t.take k) j).map I) →
    impl_column.L3 Q (I j) vo v (I t.length) (I k) H := by
  intro n
  induction n with
  | zero =>
    intro k vo H hk hb0
    apply impl_column.step3
    unfold impl_column.step3_vc
    repeat' (first
    | with_reducible refine rTT ?_
    | with_reducible refine rRFL ?_
    | with_reducible refine rLEN (by assumption) ?_
    | (with_reducible refine rIXk (by assumption) (by assumption) ?_; intro p hp)
    | (with_reducible refine rIX (by assumption) (by omega) (by omega) ?_; intro p a ha hp)
    | with_reducible refine rLDi (by assumption) ?_
    | (with_reducible refine rLD (by assumption) ?_; intro c hc)
    | with_reducible refine rADD (by omega) ?_
    | with_reducible refine rSUB (by omega) ?_
    | with_reducible refine rLSS ?_
    | with_reducible refine rLEQ ?_
    | with_reducible refine rGTR ?_
    | with_reducible refine rGEQ ?_
    | with_reducible refine rEQL ?_
    | with_reducible refine rNEQ ?_
    | with_reducible refine rNOT ?_
    | (with_reducible refine rBRK ?_ ?_ <;> intro hb)
    | (with_reducible refine rBRKn ?_ ?_ <;> intro hb)
    | (with_reducible refine rBRKnb ?_ ?_ <;> intro hb)
    | (with_reducible refine rBRKb ?_ ?_ <;> intro hb)
    | (with_reducible refine rSPL ?_ ?_ <;> intro hb)
    | (with_reducible refine rSPLn ?_ ?_ <;> intro hb)
    | (with_reducible refine rSPLnb ?_ ?_ <;> intro hb)
    | (with_reducible refine rSPLb ?_ ?_ <;> intro hb)
    | (exfalso; omega))
    rw [List.take_of_length_le (by omega)] at hb0
    exact hq _ _ hb0
  | succ n ih =>
    intro k vo H hk hb0
    apply impl_column.step3
    unfold impl_column.step3_vc
    repeat' (first
    | with_reducible refine rTT ?_
    | with_reducible refine rRFL ?_
    | with_reducible refine rLEN (by assumption) ?_
    | (with_reducible refine rIXk (by assumption) (by assumption) ?_; intro p hp)
    | (with_reducible refine rIX (by assumption) (by omega) (by omega) ?_; intro p a ha hp)
    | with_reducible refine rLDi (by assumption) ?_
    | (with_reducible refine rLD (by assumption) ?_; intro c hc)
    | with_reducible refine rADD (by omega) ?_
    | with_reducible refine rSUB (by omega) ?_
    | with_reducible refine rLSS ?_
    | with_reducible refine rLEQ ?_
    | with_reducible refine rGTR ?_
    | with_reducible refine rGEQ ?_
    | with_reducible refine rEQL ?_
    | with_reducible refine rNEQ ?_
    | with_reducible refine rNOT ?_
    | (with_reducible refine rBRK ?_ ?_ <;> intro hb)
    | (with_reducible refine rBRKn ?_ ?_ <;> intro hb)
    | (with_reducible refine rBRKnb ?_ ?_ <;> intro hb)
    | (with_reducible refine rBRKb ?_ ?_ <;> intro hb)
    | (with_reducible refine rSPL ?_ ?_ <;> intro hb)
    | (with_reducible refine rSPLn ?_ ?_ <;> intro hb)
    | (with_reducible refine rSPLnb ?_ ?_ <;> intro hb)
    | (with_reducible refine rSPLb ?_ ?_ <;> intro hb)
    | (exfalso; omega))
    have ha' : t[k]? = some a := by simpa using ha
    have hja := hj a (List.mem_of_getElem? ha')
    repeat' (first
    | with_reducible refine rTT ?_
    | with_reducible refine rRFL ?_
    | with_reducible refine rLEN (by assumption) ?_
    | (with_reducible refine rIXk (by assumption) (by assumption) ?_; intro p hp)
    | (with_reducible refine rIX (by assumption) (by omega) (by omega) ?_; intro p a ha hp)
    | with_reducible refine rLDi (by assumption) ?_
    | (with_reducible refine rLD (by assumption) ?_; intro c hc)
    | with_reducible refine rADD (by omega) ?_
    | with_reducible refine rSUB (by omega) ?_
    | with_reducible refine rLSS ?_
    | with_reducible refine rLEQ ?_
    | with_reducible refine rGTR ?_
    | with_reducible refine rGEQ ?_
    | with_reducible refine rEQL ?_
    | with_reducible refine rNEQ ?_
    | with_reducible refine rNOT ?_
    | (with_reducible refine rBRK ?_ ?_ <;> intro hb)
    | (with_reducible refine rBRKn ?_ ?_ <;> intro hb)
    | (with_reducible refine rBRKnb ?_ ?_ <;> intro hb)
    | (with_reducible refine rBRKb ?_ ?_ <;> intro hb)
    | (with_reducible refine rSPL ?_ ?_ <;> intro hb)
    | (with_reducible refine rSPLn ?_ ?_ <;> intro hb)
    | (with_reducible refine rSPLnb ?_ ?_ <;> intro hb)
    | (with_reducible refine rSPLb ?_ ?_ <;> intro hb)
    | (exfalso; omega))
    refine rLIT1 rfl ?_
    repeat' (first
    | with_reducible refine rTT ?_
    | with_reducible refine rRFL ?_
    | with_reducible refine rLEN (by assumption) ?_
    | (with_reducible refine rIXk (by assumption) (by assumption) ?_; intro p hp)
    | (with_reducible refine rIX (by assumption) (by omega) (by omega) ?_; intro p a ha hp)
    | with_reducible refine rLDi (by assumption) ?_
    | (with_reducible refine rLD (by assumption) ?_; intro c hc)
    | with_reducible refine rADD (by omega) ?_
    | with_reducible refine rSUB (by omega) ?_
    | with_reducible refine rLSS ?_
    | with_reducible refine rLEQ ?_
    | with_reducible refine rGTR ?_
    | with_reducible refine rGEQ ?_
    | with_reducible refine rEQL ?_
    | with_reducible refine rNEQ ?_
    | with_reducible refine rNOT ?_
    | (with_reducible refine rBRK ?_ ?_ <;> intro hb)
    | (with_reducible refine rBRKn ?_ ?_ <;> intro hb)
    | (with_reducible refine rBRKnb ?_ ?_ <;> intro hb)
    | (with_reducible refine rBRKb ?_ ?_ <;> intro hb)
    | (with_reducible refine rSPL ?_ ?_ <;> intro hb)
    | (with_reducible refine rSPLn ?_ ?_ <;> intro hb)
    | (with_reducible refine rSPLnb ?_ ?_ <;> intro hb)
    | (with_reducible refine rSPLb ?_ ?_ <;> intro hb)
    | (exfalso; omega))
    refine rAPK1 hb0 (by simp [col]; omega) fun v' H' hb1 => ?_
    repeat' (first
    | with_reducible refine rTT ?_
    | with_reducible refine rRFL ?_
    | with_reducible refine rLEN (by assumption) ?_
    | (with_reducible refine rIXk (by assumption) (by assumption) ?_; intro p hp)
    | (with_reducible refine rIX (by assumption) (by omega) (by omega) ?_; intro p a ha hp)
    | with_reducible refine rLDi (by assumption) ?_
    | (with_reducible refine rLD (by assumption) ?_; intro c hc)
    | with_reducible refine rADD (by omega) ?_
    | with_reducible refine rSUB (by omega) ?_
    | with_reducible refine rLSS ?_
    | with_reducible refine rLEQ ?_
    | with_reducible refine rGTR ?_
    | with_reducible refine rGEQ ?_
    | with_reducible refine rEQL ?_
    | with_reducible refine rNEQ ?_
    | with_reducible refine rNOT ?_
    | (with_reducible refine rBRK ?_ ?_ <;> intro hb)
    | (with_reducible refine rBRKn ?_ ?_ <;> intro hb)
    | (with_reducible refine rBRKnb ?_ ?_ <;> intro hb)
    | (with_reducible refine rBRKb ?_ ?_ <;> intro hb)
    | (with_reducible refine rSPL ?_ ?_ <;> intro hb)
    | (with_reducible refine rSPLn ?_ ?_ <;> intro hb)
    | (with_reducible refine rSPLnb ?_ ?_ <;> intro hb)
    | (with_reducible refine rSPLb ?_ ?_ <;> intro hb)
    | (exfalso; omega))
    refine ih (k + 1) v' H' (by omega) ?_
    rw [take_some ha']
    have hy := ha
    simp only [Int.toNat_natCast] at hy
    simpa [col, List.getD, hy] using hb1
theorem column_ok {t : List (List Int)} {j : Nat} {v : AVal} (hv : IsTab v t) (hl : t.length ≤ 1000000) (hj : ∀ r ∈ t, j < r.length) {H : Heap} : ACalls Try.prog 94 [v, I j] H fun r H' => IsInts r (col t j) ∧ H' = H := by
  apply ACalls.pure
  apply impl_column.start
  unfold impl_column.start_vc
  repeat' (first
    | with_reducible refine rTT ?_
    | with_reducible refine rRFL ?_
    | with_reducible refine rLEN (by assumption) ?_
    | (with_reducible refine rIXk (by assumption) (by assumption) ?_; intro p hp)
    | (with_reducible refine rIX (by assumption) (by omega) (by omega) ?_; intro p a ha hp)
    | with_reducible refine rLDi (by assumption) ?_
    | (with_reducible refine rLD (by assumption) ?_; intro c hc)
    | with_reducible refine rADD (by omega) ?_
    | with_reducible refine rSUB (by omega) ?_
    | with_reducible refine rLSS ?_
    | with_reducible refine rLEQ ?_
    | with_reducible refine rGTR ?_
    | with_reducible refine rGEQ ?_
    | with_reducible refine rEQL ?_
    | with_reducible refine rNEQ ?_
    | with_reducible refine rNOT ?_
    | (with_reducible refine rBRK ?_ ?_ <;> intro hb)
    | (with_reducible refine rBRKn ?_ ?_ <;> intro hb)
    | (with_reducible refine rBRKnb ?_ ?_ <;> intro hb)
    | (with_reducible refine rBRKb ?_ ?_ <;> intro hb)
    | (with_reducible refine rSPL ?_ ?_ <;> intro hb)
    | (with_reducible refine rSPLn ?_ ?_ <;> intro hb)
    | (with_reducible refine rSPLnb ?_ ?_ <;> intro hb)
    | (with_reducible refine rSPLb ?_ ?_ <;> intro hb)
    | (exfalso; omega))
  refine rLIT0 ?_
  repeat' (first
    | with_reducible refine rTT ?_
    | with_reducible refine rRFL ?_
    | with_reducible refine rLEN (by assumption) ?_
    | (with_reducible refine rIXk (by assumption) (by assumption) ?_; intro p hp)
    | (with_reducible refine rIX (by assumption) (by omega) (by omega) ?_; intro p a ha hp)
    | with_reducible refine rLDi (by assumption) ?_
    | (with_reducible refine rLD (by assumption) ?_; intro c hc)
    | with_reducible refine rADD (by omega) ?_
    | with_reducible refine rSUB (by omega) ?_
    | with_reducible refine rLSS ?_
    | with_reducible refine rLEQ ?_
    | with_reducible refine rGTR ?_
    | with_reducible refine rGEQ ?_
    | with_reducible refine rEQL ?_
    | with_reducible refine rNEQ ?_
    | with_reducible refine rNOT ?_
    | (with_reducible refine rBRK ?_ ?_ <;> intro hb)
    | (with_reducible refine rBRKn ?_ ?_ <;> intro hb)
    | (with_reducible refine rBRKnb ?_ ?_ <;> intro hb)
    | (with_reducible refine rBRKb ?_ ?_ <;> intro hb)
    | (with_reducible refine rSPL ?_ ?_ <;> intro hb)
    | (with_reducible refine rSPLn ?_ ?_ <;> intro hb)
    | (with_reducible refine rSPLnb ?_ ?_ <;> intro hb)
    | (with_reducible refine rSPLb ?_ ?_ <;> intro hb)
    | (exfalso; omega))
  refine column_loop hv hl hj (fun v' H' hb => ?_) t.length 0 _ _ (by omega) (bld_lit H)
  exact hb.ints (Q := fun r H' => IsInts r (col t j) ∧ H' = H) fun r hr => ⟨hr, rfl⟩

end Go.Proofs.Ytccioplhchmilaa.AL
