/-
  Contracts: sign matrices, as the program and as the reference tells them.
-/
import Derived.Test.YtccioplhchmilaaC1
set_option linter.unusedVariables false
set_option maxRecDepth 100000
namespace Go.Proofs.Ytccioplhchmilaa.AL
open Go Go.Proofs

/-! slices.IndexFunc[[][]int,[]int] (slots: 0 s, 1 f, 2 s, 3 f, 5 i) -/
namespace slices_IndexFunc_T2_T1
def lv : List (Nat × List Nat) := [(2, [0, 1, 7, 8])]
noncomputable def K2 : List KF := [.lp (cB (cB (cR (cL (cR (bodyOf Try.f110)))))), .bl 0, .sq (cR (cR (bodyOf Try.f110)))]
def L2 (Q : AVal → Heap → Prop) (v0 v1 v7 v8 : AVal) (H : Heap) : Prop := At Try.prog 110 19 K2 Q (slotsOf [(0, v0), (1, v1), (7, v7), (8, v8)]) H
theorem L2_frz {Q : AVal → Heap → Prop} {v0 v1 v7 v8 w0 w1 w7 w8 : AVal} {H Hf Hk : Heap} {k : Nat} (hs : Split H Hf Hk) (hp : PurL Hf k [(0, v0, w0), (1, v1, w1), (7, v7, w7), (8, v8, w8)]) (h : L2 Q w0 w1 w7 w8 Hk) : L2 Q v0 v1 v7 v8 H := at_frz (ks := K2) hs hp h
def start_vc (Q : AVal → Heap → Prop) (a0 a1 : AVal) (H : Heap) : Prop :=
LENK a0 fun x1 =>
slices_IndexFunc_T2_T1.L2 Q a0 a1 x1 (AVal.int .i64 0) H
theorem start_eq (Q : AVal → Heap → Prop) (a0 a1 : AVal) (H : Heap) : vs Try.prog lv 110 19 Try.f110.results.toList Q true 1000 [.sq (bodyOf Try.f110)] (entry [a0, a1]) H = start_vc Q a0 a1 H := by kernel_rfl
theorem start {Q : AVal → Heap → Prop} {a0 a1 : AVal} {H : Heap} (h : start_vc Q a0 a1 H) : ACalls Try.prog 110 [a0, a1] H Q := acalls_vs (lv := lv) mixed Try.func110 rfl (by kernel_rfl) (by kernel_rfl) (start_eq Q a0 a1 H ▸ h)
def step2_vc (Q : AVal → Heap → Prop) (v0 v1 v7 v8 : AVal) (H : Heap) : Prop :=
BINK .lss v8 v7 fun x1 =>
BRK x1 (TT ∧ IXK 1 v0 v8 fun x2 =>
TT ∧ TT ∧ LDK false 1 H x2 fun x3 =>
CALLK Try.prog v1 [x3] H fun x4 H5 =>
BRK x4 (Q v8 H5) (BINK .add v8 (AVal.int .i64 1) fun x6 =>
slices_IndexFunc_T2_T1.L2 Q v0 v1 v7 x6 H5)) (Q (AVal.int .i64 (-1)) H)
theorem step2_eq (Q : AVal → Heap → Prop) (v0 v1 v7 v8 : AVal) (H : Heap) : vs Try.prog lv 110 19 Try.f110.results.toList Q true 1000 (.sq (cB (cB (cR (cL (cR (bodyOf Try.f110)))))) :: K2) (slotsOf [(0, v0), (1, v1), (7, v7), (8, v8)]) H = step2_vc Q v0 v1 v7 v8 H := by kernel_rfl
theorem step2 {Q : AVal → Heap → Prop} {v0 v1 v7 v8 : AVal} {H : Heap} (h : step2_vc Q v0 v1 v7 v8 H) : L2 Q v0 v1 v7 v8 H := at_lp_vs (lv := lv) (ks := K2.tail) mixed Try.func110 (step2_eq Q v0 v1 v7 v8 H ▸ h)
end slices_IndexFunc_T2_T1

/-! slices.ContainsFunc[[][]int,[]int] (slots: 0 s, 1 f, 2 s, 3 f) -/
namespace slices_ContainsFunc_T2_T1
def lv : List (Nat × List Nat) := []
def start_vc (Q : AVal → Heap → Prop) (a0 a1 : AVal) (H : Heap) : Prop :=
ACalls Try.prog 110 [a0, a1] H fun x1 H2 =>
BINK .geq x1 (AVal.int .i64 0) fun x3 =>
Q x3 H2
theorem start_eq (Q : AVal → Heap → Prop) (a0 a1 : AVal) (H : Heap) : vs Try.prog lv 117 9 Try.f117.results.toList Q true 1000 [.sq (bodyOf Try.f117)] (entry [a0, a1]) H = start_vc Q a0 a1 H := by kernel_rfl
theorem start {Q : AVal → Heap → Prop} {a0 a1 : AVal} {H : Heap} (h : start_vc Q a0 a1 H) : ACalls Try.prog 117 [a0, a1] H Q := acalls_vs (lv := lv) mixed Try.func117 rfl (by kernel_rfl) (by kernel_rfl) (start_eq Q a0 a1 H ▸ h)
end slices_ContainsFunc_T2_T1

/-! impl.isSquare (slots: 0 m, 1 m) -/
namespace impl_isSquare
def lv : List (Nat × List Nat) := []
def start_vc (Q : AVal → Heap → Prop) (a0 : AVal) (H : Heap) : Prop :=
BOXK a0 H fun x1 H2 =>
TT ∧ TT ∧ LDK false 1 H2 x1 fun x3 =>
ACalls Try.prog 117 [x3, (AVal.fn 125 [] [x1])] H2 fun x4 H5 =>
NOTK x4 fun x6 =>
Q x6 H5
theorem start_eq (Q : AVal → Heap → Prop) (a0 : AVal) (H : Heap) : vs Try.prog lv 81 7 Try.f81.results.toList Q true 1000 [.sq (bodyOf Try.f81)] (entry [a0]) H = start_vc Q a0 H := by kernel_rfl
theorem start {Q : AVal → Heap → Prop} {a0 : AVal} {H : Heap} (h : start_vc Q a0 H) : ACalls Try.prog 81 [a0] H Q := acalls_vs (lv := lv) mixed Try.func81 rfl (by kernel_rfl) (by kernel_rfl) (start_eq Q a0 H ▸ h)
end impl_isSquare

/-! impl.isSquare$1 (slots: 0 row, 2 row) -/
namespace impl_isSquare_1
def lv : List (Nat × List Nat) := []
def start_vc (Q : AVal → Heap → Prop) (a0 a1 : AVal) (H : Heap) : Prop :=
LENK a0 fun x1 =>
TT ∧ TT ∧ LDK false 1 H a1 fun x2 =>
LENK x2 fun x3 =>
BINK .neq x1 x3 fun x4 =>
Q x4 H
theorem start_eq (Q : AVal → Heap → Prop) (a0 a1 : AVal) (H : Heap) : vs Try.prog lv 125 9 Try.f125.results.toList Q true 1000 [.sq (bodyOf Try.f125)] (entry [a0, a1]) H = start_vc Q a0 a1 H := by kernel_rfl
theorem start {Q : AVal → Heap → Prop} {a0 a1 : AVal} {H : Heap} (h : start_vc Q a0 a1 H) : ACalls Try.prog 125 [a0, a1] H Q := acalls_vs (lv := lv) mixed Try.func125 rfl (by kernel_rfl) (by kernel_rfl) (start_eq Q a0 a1 H ▸ h)
end impl_isSquare_1

/-! impl.IsSignMatrix (slots: 0 m, 1 m, 3 i) -/
namespace impl_IsSignMatrix
def lv : List (Nat × List Nat) := [(4, [0, 14, 15])]
noncomputable def K4 : List KF := [.lp (cB (cB (cR (cL (cR (cR (bodyOf Try.f40))))))), .bl 0, .sq (cR (cR (cR (bodyOf Try.f40))))]
def L4 (Q : AVal → Heap → Prop) (v0 v14 v15 : AVal) (H : Heap) : Prop := At Try.prog 40 32 K4 Q (slotsOf [(0, v0), (14, v14), (15, v15)]) H
theorem L4_frz {Q : AVal → Heap → Prop} {v0 v14 v15 w0 w14 w15 : AVal} {H Hf Hk : Heap} {k : Nat} (hs : Split H Hf Hk) (hp : PurL Hf k [(0, v0, w0), (14, v14, w14), (15, v15, w15)]) (h : L4 Q w0 w14 w15 Hk) : L4 Q v0 v14 v15 H := at_frz (ks := K4) hs hp h
def start_vc (Q : AVal → Heap → Prop) (a0 : AVal) (H : Heap) : Prop :=
LENK a0 fun x1 =>
ACalls Try.prog 80 [x1] H fun x2 H3 =>
NOTK x2 fun x4 =>
SPL x4 (Q (AVal.bool false) H3) (ACalls Try.prog 81 [a0] H3 fun x5 H6 =>
NOTK x5 fun x7 =>
BRK x7 (Q (AVal.bool false) H6) (LENK a0 fun x8 =>
impl_IsSignMatrix.L4 Q a0 x8 (AVal.int .i64 0) H6))
theorem start_eq (Q : AVal → Heap → Prop) (a0 : AVal) (H : Heap) : vs Try.prog lv 40 32 Try.f40.results.toList Q true 1000 [.sq (bodyOf Try.f40)] (entry [a0]) H = start_vc Q a0 H := by kernel_rfl
theorem start {Q : AVal → Heap → Prop} {a0 : AVal} {H : Heap} (h : start_vc Q a0 H) : ACalls Try.prog 40 [a0] H Q := acalls_vs (lv := lv) mixed Try.func40 rfl (by kernel_rfl) (by kernel_rfl) (start_eq Q a0 H ▸ h)
def step4_vc (Q : AVal → Heap → Prop) (v0 v14 v15 : AVal) (H : Heap) : Prop :=
BINK .lss v15 v14 fun x1 =>
BRK x1 (TT ∧ IXK 1 v0 v15 fun x2 =>
TT ∧ TT ∧ LDK false 1 H x2 fun x3 =>
ACalls Try.prog 93 [x3] H fun x4 H5 =>
NOTK x4 fun x6 =>
SPL x6 (Q (AVal.bool false) H5) (ACalls Try.prog 94 [v0, v15] H5 fun x7 H8 =>
ACalls Try.prog 93 [x7] H8 fun x9 H10 =>
NOTK x9 fun x11 =>
BRK x11 (Q (AVal.bool false) H10) (BINK .add v15 (AVal.int .i64 1) fun x12 =>
impl_IsSignMatrix.L4 Q v0 v14 x12 H10))) (Q (AVal.bool true) H)
theorem step4_eq (Q : AVal → Heap → Prop) (v0 v14 v15 : AVal) (H : Heap) : vs Try.prog lv 40 32 Try.f40.results.toList Q true 1000 (.sq (cB (cB (cR (cL (cR (cR (bodyOf Try.f40))))))) :: K4) (slotsOf [(0, v0), (14, v14), (15, v15)]) H = step4_vc Q v0 v14 v15 H := by kernel_rfl
theorem step4 {Q : AVal → Heap → Prop} {v0 v14 v15 : AVal} {H : Heap} (h : step4_vc Q v0 v14 v15 H) : L4 Q v0 v14 v15 H := at_lp_vs (lv := lv) (ks := K4.tail) mixed Try.func40 (step4_eq Q v0 v14 v15 H ▸ h)
end impl_IsSignMatrix

/-! spec.l1In (slots: 0 n, 1 lo, 2 hi, 3 n, 4 lo, 5 hi) -/
namespace spec_l1In
def lv : List (Nat × List Nat) := []
def start_vc (Q : AVal → Heap → Prop) (a0 a1 a2 : AVal) (H : Heap) : Prop :=
BINK .geq a0 a1 fun x1 =>
SPL x1 (BINK .leq a0 a2 fun x2 =>
Q x2 H) (Q (AVal.bool false) H)
theorem start_eq (Q : AVal → Heap → Prop) (a0 a1 a2 : AVal) (H : Heap) : vs Try.prog lv 54 15 Try.f54.results.toList Q true 1000 [.sq (bodyOf Try.f54)] (entry [a0, a1, a2]) H = start_vc Q a0 a1 a2 H := by kernel_rfl
theorem start {Q : AVal → Heap → Prop} {a0 a1 a2 : AVal} {H : Heap} (h : start_vc Q a0 a1 a2 H) : ACalls Try.prog 54 [a0, a1, a2] H Q := acalls_vs (lv := lv) mixed Try.func54 rfl (by kernel_rfl) (by kernel_rfl) (start_eq Q a0 a1 a2 H ▸ h)
end spec_l1In


theorem l1In_ok {n lo hi : Int} {H : Heap} : ACalls Try.prog 54 [I n, I lo, I hi] H fun r H' => r = .bool (decide (lo ≤ n ∧ n ≤ hi)) ∧ H' = H := by
  apply spec_l1In.start
  unfold spec_l1In.start_vc
  repeat' (first
    | with_reducible refine rTT ?_
    | with_reducible refine rRFL ?_
    | with_reducible refine rLEN (by assumption) ?_
    | (with_reducible refine rIXk (by assumption) (by assumption) ?_; intro p hp)
    | (with_reducible refine rIX (by assumption) (by omega) (by omega) ?_; intro p a ha hp)
    | with_reducible refine rLDi (by assumption) ?_
    | (with_reducible refine rLD (by assumption) ?_; intro c hc)
    | with_reducible refine rADD (by omega) ?_
    | with_reducible refine rSUB (by omega) ?_
    | with_reducible refine rLSS ?_
    | with_reducible refine rLEQ ?_
    | with_reducible refine rGTR ?_
    | with_reducible refine rGEQ ?_
    | with_reducible refine rEQL ?_
    | with_reducible refine rNEQ ?_
    | with_reducible refine rNOT ?_
    | (with_reducible refine rBRK ?_ ?_ <;> intro hb)
    | (with_reducible refine rBRKn ?_ ?_ <;> intro hb)
    | (with_reducible refine rBRKnb ?_ ?_ <;> intro hb)
    | (with_reducible refine rBRKb ?_ ?_ <;> intro hb)
    | (with_reducible refine rSPL ?_ ?_ <;> intro hb)
    | (with_reducible refine rSPLn ?_ ?_ <;> intro hb)
    | (with_reducible refine rSPLnb ?_ ?_ <;> intro hb)
    | (with_reducible refine rSPLb ?_ ?_ <;> intro hb)
    | (exfalso; omega))
  · exact ⟨by simp [hb], rfl⟩
  · exact ⟨by simp [hb], rfl⟩

/-! ### Searching -/
theorem rCALL {P : Program} {f : FuncId} {first caps args : List AVal} {H : Heap} {K : AVal → Heap → Prop} (h : ACalls P f (first ++ args ++ caps) H K) : CALLK P (.fn f first caps) args H K := h

section
variable {v f : AVal} {H : Heap}
theorem indexT_loop {t : List (List Int)} {b : List Int → Bool} (hv : IsTab v t) (hl : t.length ≤ 1000000) (hf : ∀ a ∈ t, ∀ c, IsInts c a → CALLK Try.prog f [c] H fun r H' => r = .bool (b a) ∧ H' = H) {Q : AVal → Heap → Prop} : ∀ (n k : Nat), k + n = t.length →
    Q (I (match (t.drop k).findIdx? b with | some i => ((k + i : Nat) : Int) | none => -1)) H → slices_IndexFunc_T2_T1.L2 Q v f (I t.length) (I k) H := by
  intro n
  induction n with
  | zero =>
    intro k hk hq
    apply slices_IndexFunc_T2_T1.step2
    unfold slices_IndexFunc_T2_T1.step2_vc
    repeat' (first
    | with_reducible refine rTT ?_
    | with_reducible refine rRFL ?_
    | with_reducible refine rLEN (by assumption) ?_
    | (with_reducible refine rIXk (by assumption) (by assumption) ?_; intro p hp)
    | (with_reducible refine rIX (by assumption) (by omega) (by omega) ?_; intro p a ha hp)
    | with_reducible refine rLDi (by assumption) ?_
    | (with_reducible refine rLD (by assumption) ?_; intro c hc)
    | with_reducible refine rADD (by omega) ?_
    | with_reducible refine rSUB (by omega) ?_
    | with_reducible refine rLSS ?_
    | with_reducible refine rLEQ ?_
    | with_reducible refine rGTR ?_
    | with_reducible refine rGEQ ?_
    | with_reducible refine rEQL ?_
    | with_reducible refine rNEQ ?_
    | with_reducible refine rNOT ?_
    | (with_reducible refine rBRK ?_ ?_ <;> intro hb)
    | (with_reducible refine rBRKn ?_ ?_ <;> intro hb)
    | (with_reducible refine rBRKnb ?_ ?_ <;> intro hb)
    | (with_reducible refine rBRKb ?_ ?_ <;> intro hb)
    | (with_reducible refine rSPL ?_ ?_ <;> intro hb)
    | (with_reducible refine rSPLn ?_ ?_ <;> intro hb)
    | (with_reducible refine rSPLnb ?_ ?_ <;> intro hb)
    | (with_reducible refine rSPLb ?_ ?_ <;> intro hb)
    | (exfalso; omega))
    rw [List.drop_eq_nil_of_le (by omega)] at hq
    exact hq
  | succ n ih =>
    intro k hk hq
    apply slices_IndexFunc_T2_T1.step2
    unfold slices_IndexFunc_T2_T1.step2_vc
    repeat' (first
    | with_reducible refine rTT ?_
    | with_reducible refine rRFL ?_
    | with_reducible refine rLEN (by assumption) ?_
    | (with_reducible refine rIXk (by assumption) (by assumption) ?_; intro p hp)
    | (with_reducible refine rIX (by assumption) (by omega) (by omega) ?_; intro p a ha hp)
    | with_reducible refine rLDi (by assumption) ?_
    | (with_reducible refine rLD (by assumption) ?_; intro c hc)
    | with_reducible refine rADD (by omega) ?_
    | with_reducible refine rSUB (by omega) ?_
    | with_reducible refine rLSS ?_
    | with_reducible refine rLEQ ?_
    | with_reducible refine rGTR ?_
    | with_reducible refine rGEQ ?_
    | with_reducible refine rEQL ?_
    | with_reducible refine rNEQ ?_
    | with_reducible refine rNOT ?_
    | (with_reducible refine rBRK ?_ ?_ <;> intro hb)
    | (with_reducible refine rBRKn ?_ ?_ <;> intro hb)
    | (with_reducible refine rBRKnb ?_ ?_ <;> intro hb)
    | (with_reducible refine rBRKb ?_ ?_ <;> intro hb)
    | (with_reducible refine rSPL ?_ ?_ <;> intro hb)
    | (with_reducible refine rSPLn ?_ ?_ <;> intro hb)
    | (with_reducible refine rSPLnb ?_ ?_ <;> intro hb)
    | (with_reducible refine rSPLb ?_ ?_ <;> intro hb)
    | (exfalso; omega))
    rw [drop_someI ha] at hq
    refine CALLK_mono ?_ (hf a (List.mem_of_getElem? ha) c hc)
    rintro r H' ⟨rfl, rfl⟩
    repeat' (first
    | with_reducible refine rTT ?_
    | with_reducible refine rRFL ?_
    | with_reducible refine rLEN (by assumption) ?_
    | (with_reducible refine rIXk (by assumption) (by assumption) ?_; intro p hp)
    | (with_reducible refine rIX (by assumption) (by omega) (by omega) ?_; intro p a ha hp)
    | with_reducible refine rLDi (by assumption) ?_
    | (with_reducible refine rLD (by assumption) ?_; intro c hc)
    | with_reducible refine rADD (by omega) ?_
    | with_reducible refine rSUB (by omega) ?_
    | with_reducible refine rLSS ?_
    | with_reducible refine rLEQ ?_
    | with_reducible refine rGTR ?_
    | with_reducible refine rGEQ ?_
    | with_reducible refine rEQL ?_
    | with_reducible refine rNEQ ?_
    | with_reducible refine rNOT ?_
    | (with_reducible refine rBRK ?_ ?_ <;> intro hb)
    | (with_reducible refine rBRKn ?_ ?_ <;> intro hb)
    | (with_reducible refine rBRKnb ?_ ?_ <;> intro hb)
    | (with_reducible refine rBRKb ?_ ?_ <;> intro hb)
    | (with_reducible refine rSPL ?_ ?_ <;> intro hb)
    | (with_reducible refine rSPLn ?_ ?_ <;> intro hb)
    | (with_reducible refine rSPLnb ?_ ?_ <;> intro hb)
    | (with_reducible refine rSPLb ?_ ?_ <;> intro hb)
    | (exfalso; omega))
    · simp only [List.findIdx?_cons, hb] at hq
      simpa using hq
    · refine ih (k + 1) (by omega) ?_
      simp only [List.findIdx?_cons, hb] at hq
      cases hx : (t.drop (k + 1)).findIdx? b with
      | none => rw [hx] at hq; simpa using hq
      | some i =>
        rw [hx] at hq
        have : k + 1 + i = k + (i + 1) := by omega
        simp only [this]
        simpa using hq
theorem containsT_ok {t : List (List Int)} {b : List Int → Bool} (hv : IsTab v t) (hl : t.length ≤ 1000000) (hf : ∀ a ∈ t, ∀ c, IsInts c a → CALLK Try.prog f [c] H fun r H' => r = .bool (b a) ∧ H' = H) :
    ACalls Try.prog 117 [v, f] H fun r H' => r = .bool (t.any b) ∧ H' = H := by
  apply slices_ContainsFunc_T2_T1.start
  unfold slices_ContainsFunc_T2_T1.start_vc
  apply slices_IndexFunc_T2_T1.start
  unfold slices_IndexFunc_T2_T1.start_vc
  repeat' (first
    | with_reducible refine rTT ?_
    | with_reducible refine rRFL ?_
    | with_reducible refine rLEN (by assumption) ?_
    | (with_reducible refine rIXk (by assumption) (by assumption) ?_; intro p hp)
    | (with_reducible refine rIX (by assumption) (by omega) (by omega) ?_; intro p a ha hp)
    | with_reducible refine rLDi (by assumption) ?_
    | (with_reducible refine rLD (by assumption) ?_; intro c hc)
    | with_reducible refine rADD (by omega) ?_
    | with_reducible refine rSUB (by omega) ?_
    | with_reducible refine rLSS ?_
    | with_reducible refine rLEQ ?_
    | with_reducible refine rGTR ?_
    | with_reducible refine rGEQ ?_
    | with_reducible refine rEQL ?_
    | with_reducible refine rNEQ ?_
    | with_reducible refine rNOT ?_
    | (with_reducible refine rBRK ?_ ?_ <;> intro hb)
    | (with_reducible refine rBRKn ?_ ?_ <;> intro hb)
    | (with_reducible refine rBRKnb ?_ ?_ <;> intro hb)
    | (with_reducible refine rBRKb ?_ ?_ <;> intro hb)
    | (with_reducible refine rSPL ?_ ?_ <;> intro hb)
    | (with_reducible refine rSPLn ?_ ?_ <;> intro hb)
    | (with_reducible refine rSPLnb ?_ ?_ <;> intro hb)
    | (with_reducible refine rSPLb ?_ ?_ <;> intro hb)
    | (exfalso; omega))
  refine indexT_loop hv hl hf t.length 0 (by omega) ?_
  repeat' (first
    | with_reducible refine rTT ?_
    | with_reducible refine rRFL ?_
    | with_reducible refine rLEN (by assumption) ?_
    | (with_reducible refine rIXk (by assumption) (by assumption) ?_; intro p hp)
    | (with_reducible refine rIX (by assumption) (by omega) (by omega) ?_; intro p a ha hp)
    | with_reducible refine rLDi (by assumption) ?_
    | (with_reducible refine rLD (by assumption) ?_; intro c hc)
    | with_reducible refine rADD (by omega) ?_
    | with_reducible refine rSUB (by omega) ?_
    | with_reducible refine rLSS ?_
    | with_reducible refine rLEQ ?_
    | with_reducible refine rGTR ?_
    | with_reducible refine rGEQ ?_
    | with_reducible refine rEQL ?_
    | with_reducible refine rNEQ ?_
    | with_reducible refine rNOT ?_
    | (with_reducible refine rBRK ?_ ?_ <;> intro hb)
    | (with_reducible refine rBRKn ?_ ?_ <;> intro hb)
    | (with_reducible refine rBRKnb ?_ ?_ <;> intro hb)
    | (with_reducible refine rBRKb ?_ ?_ <;> intro hb)
    | (with_reducible refine rSPL ?_ ?_ <;> intro hb)
    | (with_reducible refine rSPLn ?_ ?_ <;> intro hb)
    | (with_reducible refine rSPLnb ?_ ?_ <;> intro hb)
    | (with_reducible refine rSPLb ?_ ?_ <;> intro hb)
    | (exfalso; omega))
  refine ⟨?_, rfl⟩
  congr 1
  simp only [List.drop_zero]
  cases hx : t.findIdx? b with
  | none =>
    rw [List.findIdx?_eq_none_iff] at hx
    symm
    simpa using hx
  | some i =>
    have : t.any b = true := by
      rw [List.findIdx?_eq_some_iff_getElem] at hx
      obtain ⟨h1, h2, _⟩ := hx
      exact List.any_eq_true.2 ⟨_, List.getElem_mem h1, h2⟩
    rw [this]
    simp
end

def isSquareB (t : List (List Int)) : Bool := t.all fun r => decide (r.length = t.length)
theorem isSquare_ok {t : List (List Int)} {v : AVal} (hv : IsTab v t) (hl : t.length ≤ 1000000) {H : Heap} : ACalls Try.prog 81 [v] H fun r H' => r = .bool (isSquareB t) ∧ H' = H := by
  apply ACalls.sub
  apply impl_isSquare.start
  unfold impl_isSquare.start_vc
  refine rBOX hv.one fun g => ?_
  repeat' (first
    | with_reducible refine rTT ?_
    | with_reducible refine rRFL ?_
    | with_reducible refine rLEN (by assumption) ?_
    | (with_reducible refine rIXk (by assumption) (by assumption) ?_; intro p hp)
    | (with_reducible refine rIX (by assumption) (by omega) (by omega) ?_; intro p a ha hp)
    | with_reducible refine rLDi (by assumption) ?_
    | (with_reducible refine rLD (by assumption) ?_; intro c hc)
    | with_reducible refine rADD (by omega) ?_
    | with_reducible refine rSUB (by omega) ?_
    | with_reducible refine rLSS ?_
    | with_reducible refine rLEQ ?_
    | with_reducible refine rGTR ?_
    | with_reducible refine rGEQ ?_
    | with_reducible refine rEQL ?_
    | with_reducible refine rNEQ ?_
    | with_reducible refine rNOT ?_
    | (with_reducible refine rBRK ?_ ?_ <;> intro hb)
    | (with_reducible refine rBRKn ?_ ?_ <;> intro hb)
    | (with_reducible refine rBRKnb ?_ ?_ <;> intro hb)
    | (with_reducible refine rBRKb ?_ ?_ <;> intro hb)
    | (with_reducible refine rSPL ?_ ?_ <;> intro hb)
    | (with_reducible refine rSPLn ?_ ?_ <;> intro hb)
    | (with_reducible refine rSPLnb ?_ ?_ <;> intro hb)
    | (with_reducible refine rSPLb ?_ ?_ <;> intro hb)
    | (exfalso; omega))
  refine rLDp (hget_new _ _ _) ?_
  refine ACalls.mono (containsT_ok (b := fun r => decide (r.length ≠ t.length)) hv hl fun a ha c hc => rCALL ?_) ?_
  · show ACalls Try.prog 125 [c, .ptr H.length g 0] _ _
    apply impl_isSquare_1.start
    unfold impl_isSquare_1.start_vc
    repeat' (first
    | with_reducible refine rTT ?_
    | with_reducible refine rRFL ?_
    | with_reducible refine rLEN (by assumption) ?_
    | (with_reducible refine rIXk (by assumption) (by assumption) ?_; intro p hp)
    | (with_reducible refine rIX (by assumption) (by omega) (by omega) ?_; intro p a ha hp)
    | with_reducible refine rLDi (by assumption) ?_
    | (with_reducible refine rLD (by assumption) ?_; intro c hc)
    | with_reducible refine rADD (by omega) ?_
    | with_reducible refine rSUB (by omega) ?_
    | with_reducible refine rLSS ?_
    | with_reducible refine rLEQ ?_
    | with_reducible refine rGTR ?_
    | with_reducible refine rGEQ ?_
    | with_reducible refine rEQL ?_
    | with_reducible refine rNEQ ?_
    | with_reducible refine rNOT ?_
    | (with_reducible refine rBRK ?_ ?_ <;> intro hb)
    | (with_reducible refine rBRKn ?_ ?_ <;> intro hb)
    | (with_reducible refine rBRKnb ?_ ?_ <;> intro hb)
    | (with_reducible refine rBRKb ?_ ?_ <;> intro hb)
    | (with_reducible refine rSPL ?_ ?_ <;> intro hb)
    | (with_reducible refine rSPLn ?_ ?_ <;> intro hb)
    | (with_reducible refine rSPLnb ?_ ?_ <;> intro hb)
    | (with_reducible refine rSPLb ?_ ?_ <;> intro hb)
    | (exfalso; omega))
    refine rLDp (hget_new _ _ _) ?_
    repeat' (first
    | with_reducible refine rTT ?_
    | with_reducible refine rRFL ?_
    | with_reducible refine rLEN (by assumption) ?_
    | (with_reducible refine rIXk (by assumption) (by assumption) ?_; intro p hp)
    | (with_reducible refine rIX (by assumption) (by omega) (by omega) ?_; intro p a ha hp)
    | with_reducible refine rLDi (by assumption) ?_
    | (with_reducible refine rLD (by assumption) ?_; intro c hc)
    | with_reducible refine rADD (by omega) ?_
    | with_reducible refine rSUB (by omega) ?_
    | with_reducible refine rLSS ?_
    | with_reducible refine rLEQ ?_
    | with_reducible refine rGTR ?_
    | with_reducible refine rGEQ ?_
    | with_reducible refine rEQL ?_
    | with_reducible refine rNEQ ?_
    | with_reducible refine rNOT ?_
    | (with_reducible refine rBRK ?_ ?_ <;> intro hb)
    | (with_reducible refine rBRKn ?_ ?_ <;> intro hb)
    | (with_reducible refine rBRKnb ?_ ?_ <;> intro hb)
    | (with_reducible refine rBRKb ?_ ?_ <;> intro hb)
    | (with_reducible refine rSPL ?_ ?_ <;> intro hb)
    | (with_reducible refine rSPLn ?_ ?_ <;> intro hb)
    | (with_reducible refine rSPLnb ?_ ?_ <;> intro hb)
    | (with_reducible refine rSPLb ?_ ?_ <;> intro hb)
    | (exfalso; omega))
    refine ⟨?_, rfl⟩
    congr 1
    simp only [decide_eq_decide]
    omega
  · rintro r H' ⟨rfl, rfl⟩
    repeat' (first
    | with_reducible refine rTT ?_
    | with_reducible refine rRFL ?_
    | with_reducible refine rLEN (by assumption) ?_
    | (with_reducible refine rIXk (by assumption) (by assumption) ?_; intro p hp)
    | (with_reducible refine rIX (by assumption) (by omega) (by omega) ?_; intro p a ha hp)
    | with_reducible refine rLDi (by assumption) ?_
    | (with_reducible refine rLD (by assumption) ?_; intro c hc)
    | with_reducible refine rADD (by omega) ?_
    | with_reducible refine rSUB (by omega) ?_
    | with_reducible refine rLSS ?_
    | with_reducible refine rLEQ ?_
    | with_reducible refine rGTR ?_
    | with_reducible refine rGEQ ?_
    | with_reducible refine rEQL ?_
    | with_reducible refine rNEQ ?_
    | with_reducible refine rNOT ?_
    | (with_reducible refine rBRK ?_ ?_ <;> intro hb)
    | (with_reducible refine rBRKn ?_ ?_ <;> intro hb)
    | (with_reducible refine rBRKnb ?_ ?_ <;> intro hb)
    | (with_reducible refine rBRKb ?_ ?_ <;> intro hb)
    | (with_reducible refine rSPL ?_ ?_ <;> intro hb)
    | (with_reducible refine rSPLn ?_ ?_ <;> intro hb)
    | (with_reducible refine rSPLnb ?_ ?_ <;> intro hb)
    | (with_reducible refine rSPLb ?_ ?_ <;> intro hb)
    | (exfalso; omega))
    refine ⟨H, hsub_new _ _ _, ?_, rfl⟩
    simp [isSquareB, List.all_eq_not_any_not]

/-! ### Sign matrices -/
def chk (t : List (List Int)) (i : Nat) : Bool := alternateB (t.getD i []) && alternateB (col t i)
def goodB (t : List (List Int)) : Bool := decide (1 ≤ t.length ∧ t.length ≤ 6) && (isSquareB t && (List.range t.length).all (chk t))
theorem sq_len {t : List (List Int)} (h : isSquareB t = true) {r : List Int} (hr : r ∈ t) : r.length = t.length := by
  simp only [isSquareB, List.all_eq_true, decide_eq_true_eq] at h
  exact h r hr
theorem good_loop {t : List (List Int)} {v : AVal} (hv : IsTab v t) (hl : t.length ≤ 6) (hs : isSquareB t = true) {H : Heap} {Q : AVal → Heap → Prop} : ∀ (n k : Nat), k + n = t.length → Q (.bool (((List.range t.length).drop k).all (chk t))) H →
    impl_IsSignMatrix.L4 Q v (I t.length) (I k) H := by
  intro n
  induction n with
  | zero =>
    intro k hk hq
    apply impl_IsSignMatrix.step4
    unfold impl_IsSignMatrix.step4_vc
    repeat' (first
    | with_reducible refine rTT ?_
    | with_reducible refine rRFL ?_
    | with_reducible refine rLEN (by assumption) ?_
    | (with_reducible refine rIXk (by assumption) (by assumption) ?_; intro p hp)
    | (with_reducible refine rIX (by assumption) (by omega) (by omega) ?_; intro p a ha hp)
    | with_reducible refine rLDi (by assumption) ?_
    | (with_reducible refine rLD (by assumption) ?_; intro c hc)
    | with_reducible refine rADD (by omega) ?_
    | with_reducible refine rSUB (by omega) ?_
    | with_reducible refine rLSS ?_
    | with_reducible refine rLEQ ?_
    | with_reducible refine rGTR ?_
    | with_reducible refine rGEQ ?_
    | with_reducible refine rEQL ?_
    | with_reducible refine rNEQ ?_
    | with_reducible refine rNOT ?_
    | (with_reducible refine rBRK ?_ ?_ <;> intro hb)
    | (with_reducible refine rBRKn ?_ ?_ <;> intro hb)
    | (with_reducible refine rBRKnb ?_ ?_ <;> intro hb)
    | (with_reducible refine rBRKb ?_ ?_ <;> intro hb)
    | (with_reducible refine rSPL ?_ ?_ <;> intro hb)
    | (with_reducible refine rSPLn ?_ ?_ <;> intro hb)
    | (with_reducible refine rSPLnb ?_ ?_ <;> intro hb)
    | (with_reducible refine rSPLb ?_ ?_ <;> intro hb)
    | (exfalso; omega))
    rw [List.drop_eq_nil_of_le (by simp; omega)] at hq
    exact hq
  | succ n ih =>
    intro k hk hq
    apply impl_IsSignMatrix.step4
    unfold impl_IsSignMatrix.step4_vc
    repeat' (first
    | with_reducible refine rTT ?_
    | with_reducible refine rRFL ?_
    | with_reducible refine rLEN (by assumption) ?_
    | (with_reducible refine rIXk (by assumption) (by assumption) ?_; intro p hp)
    | (with_reducible refine rIX (by assumption) (by omega) (by omega) ?_; intro p a ha hp)
    | with_reducible refine rLDi (by assumption) ?_
    | (with_reducible refine rLD (by assumption) ?_; intro c hc)
    | with_reducible refine rADD (by omega) ?_
    | with_reducible refine rSUB (by omega) ?_
    | with_reducible refine rLSS ?_
    | with_reducible refine rLEQ ?_
    | with_reducible refine rGTR ?_
    | with_reducible refine rGEQ ?_
    | with_reducible refine rEQL ?_
    | with_reducible refine rNEQ ?_
    | with_reducible refine rNOT ?_
    | (with_reducible refine rBRK ?_ ?_ <;> intro hb)
    | (with_reducible refine rBRKn ?_ ?_ <;> intro hb)
    | (with_reducible refine rBRKnb ?_ ?_ <;> intro hb)
    | (with_reducible refine rBRKb ?_ ?_ <;> intro hb)
    | (with_reducible refine rSPL ?_ ?_ <;> intro hb)
    | (with_reducible refine rSPLn ?_ ?_ <;> intro hb)
    | (with_reducible refine rSPLnb ?_ ?_ <;> intro hb)
    | (with_reducible refine rSPLb ?_ ?_ <;> intro hb)
    | (exfalso; omega))
    have ha' : t[k]? = some a := by simpa using ha
    have hal := sq_len hs (List.mem_of_getElem? ha')
    have e : (List.range t.length)[k]? = some k := by rw [List.getElem?_range (by omega)]
    rw [drop_some e] at hq
    have eg : t.getD k [] = a := by simp [List.getD, ha']
    simp only [List.all_cons, chk, eg] at hq
    refine ACalls.mono (alternate_ok hc (by omega)) ?_
    rintro r H' ⟨rfl, rfl⟩
    repeat' (first
    | with_reducible refine rTT ?_
    | with_reducible refine rRFL ?_
    | with_reducible refine rLEN (by assumption) ?_
    | (with_reducible refine rIXk (by assumption) (by assumption) ?_; intro p hp)
    | (with_reducible refine rIX (by assumption) (by omega) (by omega) ?_; intro p a ha hp)
    | with_reducible refine rLDi (by assumption) ?_
    | (with_reducible refine rLD (by assumption) ?_; intro c hc)
    | with_reducible refine rADD (by omega) ?_
    | with_reducible refine rSUB (by omega) ?_
    | with_reducible refine rLSS ?_
    | with_reducible refine rLEQ ?_
    | with_reducible refine rGTR ?_
    | with_reducible refine rGEQ ?_
    | with_reducible refine rEQL ?_
    | with_reducible refine rNEQ ?_
    | with_reducible refine rNOT ?_
    | (with_reducible refine rBRK ?_ ?_ <;> intro hb)
    | (with_reducible refine rBRKn ?_ ?_ <;> intro hb)
    | (with_reducible refine rBRKnb ?_ ?_ <;> intro hb)
    | (with_reducible refine rBRKb ?_ ?_ <;> intro hb)
    | (with_reducible refine rSPL ?_ ?_ <;> intro hb)
    | (with_reducible refine rSPLn ?_ ?_ <;> intro hb)
    | (with_reducible refine rSPLnb ?_ ?_ <;> intro hb)
    | (with_reducible refine rSPLb ?_ ?_ <;> intro hb)
    | (exfalso; omega))
    · rw [hb] at hq; exact hq
    · rw [hb] at hq
      refine ACalls.mono (column_ok hv (by omega) fun r hr => by rw [sq_len hs hr]; omega) ?_
      rintro r H' ⟨hr, rfl⟩
      refine ACalls.mono (alternate_ok hr (by simp [col]; omega)) ?_
      rintro r H' ⟨rfl, rfl⟩
      repeat' (first
    | with_reducible refine rTT ?_
    | with_reducible refine rRFL ?_
    | with_reducible refine rLEN (by assumption) ?_
    | (with_reducible refine rIXk (by assumption) (by assumption) ?_; intro p hp)
    | (with_reducible refine rIX (by assumption) (by omega) (by omega) ?_; intro p a ha hp)
    | with_reducible refine rLDi (by assumption) ?_
    | (with_reducible refine rLD (by assumption) ?_; intro c hc)
    | with_reducible refine rADD (by omega) ?_
    | with_reducible refine rSUB (by omega) ?_
    | with_reducible refine rLSS ?_
    | with_reducible refine rLEQ ?_
    | with_reducible refine rGTR ?_
    | with_reducible refine rGEQ ?_
    | with_reducible refine rEQL ?_
    | with_reducible refine rNEQ ?_
    | with_reducible refine rNOT ?_
    | (with_reducible refine rBRK ?_ ?_ <;> intro hb)
    | (with_reducible refine rBRKn ?_ ?_ <;> intro hb)
    | (with_reducible refine rBRKnb ?_ ?_ <;> intro hb)
    | (with_reducible refine rBRKb ?_ ?_ <;> intro hb)
    | (with_reducible refine rSPL ?_ ?_ <;> intro hb)
    | (with_reducible refine rSPLn ?_ ?_ <;> intro hb)
    | (with_reducible refine rSPLnb ?_ ?_ <;> intro hb)
    | (with_reducible refine rSPLb ?_ ?_ <;> intro hb)
    | (exfalso; omega))
      · rw [hb] at hq; exact hq
      · rw [hb] at hq; exact ih (k + 1) (by omega) hq
theorem isSign_ok {t : List (List Int)} {v : AVal} (hv : IsTab v t) (hl : t.length ≤ 1000000) {H : Heap} : ACalls Try.prog 40 [v] H fun r H' => r = .bool (goodB t) ∧ H' = H := by
  apply impl_IsSignMatrix.start
  unfold impl_IsSignMatrix.start_vc
  repeat' (first
    | with_reducible refine rTT ?_
    | (with_reducible refine ACalls.mono (isSquare_ok hv hl) ?_; rintro r H' ⟨rfl, rfl⟩)
    | (with_reducible refine ACalls.mono (isSide_ok) ?_; rintro r H' ⟨rfl, rfl⟩)
    | with_reducible refine rRFL ?_
    | with_reducible refine rLEN (by assumption) ?_
    | (with_reducible refine rIXk (by assumption) (by assumption) ?_; intro p hp)
    | (with_reducible refine rIX (by assumption) (by omega) (by omega) ?_; intro p a ha hp)
    | with_reducible refine rLDi (by assumption) ?_
    | (with_reducible refine rLD (by assumption) ?_; intro c hc)
    | with_reducible refine rADD (by omega) ?_
    | with_reducible refine rSUB (by omega) ?_
    | with_reducible refine rLSS ?_
    | with_reducible refine rLEQ ?_
    | with_reducible refine rGTR ?_
    | with_reducible refine rGEQ ?_
    | with_reducible refine rEQL ?_
    | with_reducible refine rNEQ ?_
    | with_reducible refine rNOT ?_
    | (with_reducible refine rBRK ?_ ?_ <;> intro hb)
    | (with_reducible refine rBRKn ?_ ?_ <;> intro hb)
    | (with_reducible refine rBRKnb ?_ ?_ <;> intro hb)
    | (with_reducible refine rBRKb ?_ ?_ <;> intro hb)
    | (with_reducible refine rSPL ?_ ?_ <;> intro hb)
    | (with_reducible refine rSPLn ?_ ?_ <;> intro hb)
    | (with_reducible refine rSPLnb ?_ ?_ <;> intro hb)
    | (with_reducible refine rSPLb ?_ ?_ <;> intro hb)
    | (exfalso; omega))
  · exact ⟨by simp only [goodB]; rw [decide_eq_false (by omega)]; rfl, rfl⟩
  · exact ⟨by simp [goodB, hb], rfl⟩
  · refine good_loop hv (by omega) hb t.length 0 (by omega) ⟨?_, rfl⟩
    simp only [goodB, hb]
    rw [decide_eq_true (by omega)]
    simp

end Go.Proofs.Ytccioplhchmilaa.AL
