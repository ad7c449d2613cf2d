/-
  Contracts: comparing lists and tables.
-/
import Derived.Test.YtccioplhchmilaaD4
set_option linter.unusedVariables false
set_option maxRecDepth 100000
namespace Go.Proofs.Ytccioplhchmilaa.AL
open Go Go.Proofs

/-! cmp.isNaN[int] (slots: 0 x, 1 x) -/
namespace cmp_isNaN_int
def lv : List (Nat × List Nat) := []
def start_vc (Q : AVal → Heap → Prop) (a0 : AVal) (H : Heap) : Prop :=
BINK .neq a0 a0 fun x1 =>
Q x1 H
theorem start_eq (Q : AVal → Heap → Prop) (a0 : AVal) (H : Heap) : vs Try.prog lv 138 6 Try.f138.results.toList Q true 1000 [.sq (bodyOf Try.f138)] (entry [a0]) H = start_vc Q a0 H := by kernel_rfl
theorem start {Q : AVal → Heap → Prop} {a0 : AVal} {H : Heap} (h : start_vc Q a0 H) : ACalls Try.prog 138 [a0] H Q := acalls_vs (lv := lv) mixed Try.func138 rfl (by kernel_rfl) (by kernel_rfl) (start_eq Q a0 H ▸ h)
end cmp_isNaN_int

/-! cmp.Compare[int] (slots: 0 x, 1 y, 2 x, 3 y, 5 xNaN, 6 yNaN) -/
namespace cmp_Compare_int
def lv : List (Nat × List Nat) := []
def start_vc (Q : AVal → Heap → Prop) (a0 a1 : AVal) (H : Heap) : Prop :=
ACalls Try.prog 138 [a0] H fun x1 H2 =>
ACalls Try.prog 138 [a1] H2 fun x3 H4 =>
BRK x1 (BRK x3 (Q (AVal.int .i64 0) H4) (Q (AVal.int .i64 (-1)) H4)) (BRK x3 (Q (AVal.int .i64 1) H4) (BINK .lss a0 a1 fun x5 =>
BRK x5 (Q (AVal.int .i64 (-1)) H4) (BINK .gtr a0 a1 fun x6 =>
BRK x6 (Q (AVal.int .i64 1) H4) (Q (AVal.int .i64 0) H4))))
theorem start_eq (Q : AVal → Heap → Prop) (a0 a1 : AVal) (H : Heap) : vs Try.prog lv 137 20 Try.f137.results.toList Q true 1000 [.sq (bodyOf Try.f137)] (entry [a0, a1]) H = start_vc Q a0 a1 H := by kernel_rfl
theorem start {Q : AVal → Heap → Prop} {a0 a1 : AVal} {H : Heap} (h : start_vc Q a0 a1 H) : ACalls Try.prog 137 [a0, a1] H Q := acalls_vs (lv := lv) mixed Try.func137 rfl (by kernel_rfl) (by kernel_rfl) (start_eq Q a0 a1 H ▸ h)
end cmp_Compare_int

/-! slices.Compare[[]int,int] (slots: 0 s1, 1 s2, 2 s1, 3 s2, 5 i, 6 v1, 7 v2, 8 c) -/
namespace slices_Compare_T1_int
def lv : List (Nat × List Nat) := [(2, [0, 1, 9, 10, 11])]
noncomputable def K2 : List KF := [.lp (cB (cB (cR (cL (cR (bodyOf Try.f128)))))), .bl 0, .sq (cR (cR (bodyOf Try.f128)))]
def L2 (Q : AVal → Heap → Prop) (v0 v1 v9 v10 v11 : AVal) (H : Heap) : Prop := At Try.prog 128 36 K2 Q (slotsOf [(0, v0), (1, v1), (9, v9), (10, v10), (11, v11)]) H
theorem L2_frz {Q : AVal → Heap → Prop} {v0 v1 v9 v10 v11 w0 w1 w9 w10 w11 : AVal} {H Hf Hk : Heap} {k : Nat} (hs : Split H Hf Hk) (hp : PurL Hf k [(0, v0, w0), (1, v1, w1), (9, v9, w9), (10, v10, w10), (11, v11, w11)]) (h : L2 Q w0 w1 w9 w10 w11 Hk) : L2 Q v0 v1 v9 v10 v11 H := at_frz (ks := K2) hs hp h
def start_vc (Q : AVal → Heap → Prop) (a0 a1 : AVal) (H : Heap) : Prop :=
LENK a0 fun x1 =>
slices_Compare_T1_int.L2 Q a0 a1 a0 x1 (AVal.int .i64 0) H
theorem start_eq (Q : AVal → Heap → Prop) (a0 a1 : AVal) (H : Heap) : vs Try.prog lv 128 36 Try.f128.results.toList Q true 1000 [.sq (bodyOf Try.f128)] (entry [a0, a1]) H = start_vc Q a0 a1 H := by kernel_rfl
theorem start {Q : AVal → Heap → Prop} {a0 a1 : AVal} {H : Heap} (h : start_vc Q a0 a1 H) : ACalls Try.prog 128 [a0, a1] H Q := acalls_vs (lv := lv) mixed Try.func128 rfl (by kernel_rfl) (by kernel_rfl) (start_eq Q a0 a1 H ▸ h)
def step2_vc (Q : AVal → Heap → Prop) (v0 v1 v9 v10 v11 : AVal) (H : Heap) : Prop :=
BINK .lss v11 v10 fun x1 =>
BRK x1 (TT ∧ IXK 1 v9 v11 fun x2 =>
TT ∧ TT ∧ LDK false 1 H x2 fun x3 =>
LENK v1 fun x4 =>
BINK .geq v11 x4 fun x5 =>
BRK x5 (Q (AVal.int .i64 1) H) (TT ∧ IXK 1 v1 v11 fun x6 =>
TT ∧ TT ∧ LDK false 1 H x6 fun x7 =>
ACalls Try.prog 137 [x3, x7] H fun x8 H9 =>
BINK .neq x8 (AVal.int .i64 0) fun x10 =>
BRK x10 (Q x8 H9) (BINK .add v11 (AVal.int .i64 1) fun x11 =>
slices_Compare_T1_int.L2 Q v0 v1 v9 v10 x11 H9))) (LENK v0 fun x12 =>
LENK v1 fun x13 =>
BINK .lss x12 x13 fun x14 =>
BRK x14 (Q (AVal.int .i64 (-1)) H) (Q (AVal.int .i64 0) H))
theorem step2_eq (Q : AVal → Heap → Prop) (v0 v1 v9 v10 v11 : AVal) (H : Heap) : vs Try.prog lv 128 36 Try.f128.results.toList Q true 1000 (.sq (cB (cB (cR (cL (cR (bodyOf Try.f128)))))) :: K2) (slotsOf [(0, v0), (1, v1), (9, v9), (10, v10), (11, v11)]) H = step2_vc Q v0 v1 v9 v10 v11 H := by kernel_rfl
theorem step2 {Q : AVal → Heap → Prop} {v0 v1 v9 v10 v11 : AVal} {H : Heap} (h : step2_vc Q v0 v1 v9 v10 v11 H) : L2 Q v0 v1 v9 v10 v11 H := at_lp_vs (lv := lv) (ks := K2.tail) mixed Try.func128 (step2_eq Q v0 v1 v9 v10 v11 H ▸ h)
end slices_Compare_T1_int

/-! slices.CompareFunc[[][]int,[][]int,[]int,[]int] (slots: 0 s1, 1 s2, 2 cmp, 3 s1, 4 s2, 5 cmp, 7 i, 8 v1, 9 v2, 10 c) -/
namespace slices_CompareFunc_T2_T2_T1_T1
def lv : List (Nat × List Nat) := [(2, [0, 1, 2, 11, 12, 13])]
noncomputable def K2 : List KF := [.lp (cB (cB (cR (cL (cR (bodyOf Try.f126)))))), .bl 0, .sq (cR (cR (bodyOf Try.f126)))]
def L2 (Q : AVal → Heap → Prop) (v0 v1 v2 v11 v12 v13 : AVal) (H : Heap) : Prop := At Try.prog 126 39 K2 Q (slotsOf [(0, v0), (1, v1), (2, v2), (11, v11), (12, v12), (13, v13)]) H
theorem L2_frz {Q : AVal → Heap → Prop} {v0 v1 v2 v11 v12 v13 w0 w1 w2 w11 w12 w13 : AVal} {H Hf Hk : Heap} {k : Nat} (hs : Split H Hf Hk) (hp : PurL Hf k [(0, v0, w0), (1, v1, w1), (2, v2, w2), (11, v11, w11), (12, v12, w12), (13, v13, w13)]) (h : L2 Q w0 w1 w2 w11 w12 w13 Hk) : L2 Q v0 v1 v2 v11 v12 v13 H := at_frz (ks := K2) hs hp h
def start_vc (Q : AVal → Heap → Prop) (a0 a1 a2 : AVal) (H : Heap) : Prop :=
LENK a0 fun x1 =>
slices_CompareFunc_T2_T2_T1_T1.L2 Q a0 a1 a2 a0 x1 (AVal.int .i64 0) H
theorem start_eq (Q : AVal → Heap → Prop) (a0 a1 a2 : AVal) (H : Heap) : vs Try.prog lv 126 39 Try.f126.results.toList Q true 1000 [.sq (bodyOf Try.f126)] (entry [a0, a1, a2]) H = start_vc Q a0 a1 a2 H := by kernel_rfl
theorem start {Q : AVal → Heap → Prop} {a0 a1 a2 : AVal} {H : Heap} (h : start_vc Q a0 a1 a2 H) : ACalls Try.prog 126 [a0, a1, a2] H Q := acalls_vs (lv := lv) mixed Try.func126 rfl (by kernel_rfl) (by kernel_rfl) (start_eq Q a0 a1 a2 H ▸ h)
def step2_vc (Q : AVal → Heap → Prop) (v0 v1 v2 v11 v12 v13 : AVal) (H : Heap) : Prop :=
BINK .lss v13 v12 fun x1 =>
BRK x1 (TT ∧ IXK 1 v11 v13 fun x2 =>
TT ∧ TT ∧ LDK false 1 H x2 fun x3 =>
LENK v1 fun x4 =>
BINK .geq v13 x4 fun x5 =>
BRK x5 (Q (AVal.int .i64 1) H) (TT ∧ IXK 1 v1 v13 fun x6 =>
TT ∧ TT ∧ LDK false 1 H x6 fun x7 =>
CALLK Try.prog v2 [x3, x7] H fun x8 H9 =>
BINK .neq x8 (AVal.int .i64 0) fun x10 =>
BRK x10 (Q x8 H9) (BINK .add v13 (AVal.int .i64 1) fun x11 =>
slices_CompareFunc_T2_T2_T1_T1.L2 Q v0 v1 v2 v11 v12 x11 H9))) (LENK v0 fun x12 =>
LENK v1 fun x13 =>
BINK .lss x12 x13 fun x14 =>
BRK x14 (Q (AVal.int .i64 (-1)) H) (Q (AVal.int .i64 0) H))
theorem step2_eq (Q : AVal → Heap → Prop) (v0 v1 v2 v11 v12 v13 : AVal) (H : Heap) : vs Try.prog lv 126 39 Try.f126.results.toList Q true 1000 (.sq (cB (cB (cR (cL (cR (bodyOf Try.f126)))))) :: K2) (slotsOf [(0, v0), (1, v1), (2, v2), (11, v11), (12, v12), (13, v13)]) H = step2_vc Q v0 v1 v2 v11 v12 v13 H := by kernel_rfl
theorem step2 {Q : AVal → Heap → Prop} {v0 v1 v2 v11 v12 v13 : AVal} {H : Heap} (h : step2_vc Q v0 v1 v2 v11 v12 v13 H) : L2 Q v0 v1 v2 v11 v12 v13 H := at_lp_vs (lv := lv) (ks := K2.tail) mixed Try.func126 (step2_eq Q v0 v1 v2 v11 v12 v13 H ▸ h)
end slices_CompareFunc_T2_T2_T1_T1

/-! impl.compareTables (slots: 0 a, 1 b, 2 a, 3 b) -/
namespace impl_compareTables
def lv : List (Nat × List Nat) := []
def start_vc (Q : AVal → Heap → Prop) (a0 a1 : AVal) (H : Heap) : Prop :=
ACalls Try.prog 126 [a0, a1, (AVal.fn 127 [] [])] H fun x1 H2 =>
Q x1 H2
theorem start_eq (Q : AVal → Heap → Prop) (a0 a1 : AVal) (H : Heap) : vs Try.prog lv 82 8 Try.f82.results.toList Q true 1000 [.sq (bodyOf Try.f82)] (entry [a0, a1]) H = start_vc Q a0 a1 H := by kernel_rfl
theorem start {Q : AVal → Heap → Prop} {a0 a1 : AVal} {H : Heap} (h : start_vc Q a0 a1 H) : ACalls Try.prog 82 [a0, a1] H Q := acalls_vs (lv := lv) mixed Try.func82 rfl (by kernel_rfl) (by kernel_rfl) (start_eq Q a0 a1 H ▸ h)
end impl_compareTables

/-! impl.compareTables$1 (slots: 0 x, 1 y, 2 x, 3 y) -/
namespace impl_compareTables_1
def lv : List (Nat × List Nat) := []
def start_vc (Q : AVal → Heap → Prop) (a0 a1 : AVal) (H : Heap) : Prop :=
ACalls Try.prog 128 [a0, a1] H fun x1 H2 =>
Q x1 H2
theorem start_eq (Q : AVal → Heap → Prop) (a0 a1 : AVal) (H : Heap) : vs Try.prog lv 127 8 Try.f127.results.toList Q true 1000 [.sq (bodyOf Try.f127)] (entry [a0, a1]) H = start_vc Q a0 a1 H := by kernel_rfl
theorem start {Q : AVal → Heap → Prop} {a0 a1 : AVal} {H : Heap} (h : start_vc Q a0 a1 H) : ACalls Try.prog 127 [a0, a1] H Q := acalls_vs (lv := lv) mixed Try.func127 rfl (by kernel_rfl) (by kernel_rfl) (start_eq Q a0 a1 H ▸ h)
end impl_compareTables_1


def cmpI (a b : Int) : Int := if a < b then -1 else if b < a then 1 else 0
def cmpBy {α : Type} (f : α → α → Int) : List α → List α → Int
  | [], [] => 0
  | [], _ :: _ => -1
  | _ :: _, [] => 1
  | a :: l, b :: m => if f a b = 0 then cmpBy f l m else f a b
def cmpL : List Int → List Int → Int := cmpBy cmpI
def cmpT : List (List Int) → List (List Int) → Int := cmpBy cmpL
theorem cmpI_eq {a b : Int} : cmpI a b = 0 ↔ a = b := by unfold cmpI; split <;> (try split) <;> omega
theorem cmpBy_eq {α : Type} {f : α → α → Int} (hf : ∀ a b, f a b = 0 ↔ a = b) : ∀ {l m : List α}, cmpBy f l m = 0 ↔ l = m
  | [], [] => by simp [cmpBy]
  | [], _ :: _ => by simp [cmpBy]
  | _ :: _, [] => by simp [cmpBy]
  | a :: l, b :: m => by
    simp only [cmpBy]
    split
    · rename_i h; rw [cmpBy_eq hf, (hf a b).1 h]; simp
    · rename_i h
      constructor
      · intro h'; exact absurd h' h
      · intro h'; cases h'; exact absurd ((hf a a).2 rfl) h
theorem cmpT_eq {l m : List (List Int)} : cmpT l m = 0 ↔ l = m := cmpBy_eq fun _ _ => cmpBy_eq fun _ _ => cmpI_eq

theorem isNaN_ok {a : Int} {H : Heap} : ACalls Try.prog 138 [I a] H fun r H' => r = .bool false ∧ H' = H := by
  apply cmp_isNaN_int.start
  unfold cmp_isNaN_int.start_vc
  repeat' (first
    | with_reducible refine rTT ?_
    | with_reducible refine rRFL ?_
    | with_reducible refine rLEN (by assumption) ?_
    | (with_reducible refine rIXk (by assumption) (by assumption) ?_; intro p hp)
    | (with_reducible refine rIX (by assumption) (by omega) (by omega) ?_; intro p a ha hp)
    | with_reducible refine rLDi (by assumption) ?_
    | (with_reducible refine rLD (by assumption) ?_; intro c hc)
    | with_reducible refine rADD (by omega) ?_
    | with_reducible refine rSUB (by omega) ?_
    | with_reducible refine rLSS ?_
    | with_reducible refine rLEQ ?_
    | with_reducible refine rGTR ?_
    | with_reducible refine rGEQ ?_
    | with_reducible refine rEQL ?_
    | with_reducible refine rNEQ ?_
    | with_reducible refine rNOT ?_
    | (with_reducible refine rBRK ?_ ?_ <;> intro hb)
    | (with_reducible refine rBRKn ?_ ?_ <;> intro hb)
    | (with_reducible refine rBRKnb ?_ ?_ <;> intro hb)
    | (with_reducible refine rBRKb ?_ ?_ <;> intro hb)
    | (with_reducible refine rSPL ?_ ?_ <;> intro hb)
    | (with_reducible refine rSPLn ?_ ?_ <;> intro hb)
    | (with_reducible refine rSPLnb ?_ ?_ <;> intro hb)
    | (with_reducible refine rSPLb ?_ ?_ <;> intro hb)
    | (exfalso; omega))
  exact ⟨by simp, rfl⟩
theorem compare_ok {a b : Int} {H : Heap} : ACalls Try.prog 137 [I a, I b] H fun r H' => r = I (cmpI a b) ∧ H' = H := by
  apply cmp_Compare_int.start
  unfold cmp_Compare_int.start_vc
  refine ACalls.mono isNaN_ok ?_
  rintro r H1 ⟨rfl, rfl⟩
  refine ACalls.mono isNaN_ok ?_
  rintro r H1 ⟨rfl, rfl⟩
  refine rBRKb (fun h => by cases h) (fun _ => rBRKb (fun h => by cases h) (fun _ => ?_))
  repeat' (first
    | with_reducible refine rTT ?_
    | with_reducible refine rRFL ?_
    | with_reducible refine rLEN (by assumption) ?_
    | (with_reducible refine rIXk (by assumption) (by assumption) ?_; intro p hp)
    | (with_reducible refine rIX (by assumption) (by omega) (by omega) ?_; intro p a ha hp)
    | with_reducible refine rLDi (by assumption) ?_
    | (with_reducible refine rLD (by assumption) ?_; intro c hc)
    | with_reducible refine rADD (by omega) ?_
    | with_reducible refine rSUB (by omega) ?_
    | with_reducible refine rLSS ?_
    | with_reducible refine rLEQ ?_
    | with_reducible refine rGTR ?_
    | with_reducible refine rGEQ ?_
    | with_reducible refine rEQL ?_
    | with_reducible refine rNEQ ?_
    | with_reducible refine rNOT ?_
    | (with_reducible refine rBRK ?_ ?_ <;> intro hb)
    | (with_reducible refine rBRKn ?_ ?_ <;> intro hb)
    | (with_reducible refine rBRKnb ?_ ?_ <;> intro hb)
    | (with_reducible refine rBRKb ?_ ?_ <;> intro hb)
    | (with_reducible refine rSPL ?_ ?_ <;> intro hb)
    | (with_reducible refine rSPLn ?_ ?_ <;> intro hb)
    | (with_reducible refine rSPLnb ?_ ?_ <;> intro hb)
    | (with_reducible refine rSPLb ?_ ?_ <;> intro hb)
    | (exfalso; omega))
  · exact ⟨by rw [cmpI, if_pos hb], rfl⟩
  · exact ⟨by rw [cmpI, if_neg (by omega), if_pos hb], rfl⟩
  · exact ⟨by rw [cmpI, if_neg (by omega), if_neg hb], rfl⟩

theorem cmpBy_nil {α : Type} {f : α → α → Int} {m : List α} : cmpBy f [] m = if 0 < m.length then -1 else 0 := by
  cases m <;> simp [cmpBy]
theorem compareL_loop {a b : List Int} {v u : AVal} (hv : IsInts v a) (hu : IsInts u b) (hl : a.length ≤ 1000000) {H : Heap} {Q : AVal → Heap → Prop} : ∀ (n k : Nat), k + n = a.length → k ≤ b.length → Q (I (cmpL (a.drop k) (b.drop k))) H →
    slices_Compare_T1_int.L2 Q v u v (I a.length) (I k) H := by
  intro n
  induction n with
  | zero =>
    intro k hk hkb hq
    rw [List.drop_eq_nil_of_le (by omega), cmpL, cmpBy_nil, List.length_drop] at hq
    apply slices_Compare_T1_int.step2
    unfold slices_Compare_T1_int.step2_vc
    repeat' (first
    | with_reducible refine rTT ?_
    | with_reducible refine rRFL ?_
    | with_reducible refine rLEN (by assumption) ?_
    | (with_reducible refine rIXk (by assumption) (by assumption) ?_; intro p hp)
    | (with_reducible refine rIX (by assumption) (by omega) (by omega) ?_; intro p a ha hp)
    | with_reducible refine rLDi (by assumption) ?_
    | (with_reducible refine rLD (by assumption) ?_; intro c hc)
    | with_reducible refine rADD (by omega) ?_
    | with_reducible refine rSUB (by omega) ?_
    | with_reducible refine rLSS ?_
    | with_reducible refine rLEQ ?_
    | with_reducible refine rGTR ?_
    | with_reducible refine rGEQ ?_
    | with_reducible refine rEQL ?_
    | with_reducible refine rNEQ ?_
    | with_reducible refine rNOT ?_
    | (with_reducible refine rBRK ?_ ?_ <;> intro hb)
    | (with_reducible refine rBRKn ?_ ?_ <;> intro hb)
    | (with_reducible refine rBRKnb ?_ ?_ <;> intro hb)
    | (with_reducible refine rBRKb ?_ ?_ <;> intro hb)
    | (with_reducible refine rSPL ?_ ?_ <;> intro hb)
    | (with_reducible refine rSPLn ?_ ?_ <;> intro hb)
    | (with_reducible refine rSPLnb ?_ ?_ <;> intro hb)
    | (with_reducible refine rSPLb ?_ ?_ <;> intro hb)
    | (exfalso; omega))
    · rw [if_pos (by omega)] at hq; exact hq
    · rw [if_neg (by omega)] at hq; exact hq
  | succ n ih =>
    intro k hk hkb hq
    obtain ⟨x, hx⟩ := ex_get (l := a) (k := k) (by omega)
    apply slices_Compare_T1_int.step2
    unfold slices_Compare_T1_int.step2_vc
    repeat' (first
    | with_reducible refine rTT ?_
    | with_reducible refine rRFL ?_
    | with_reducible refine rLEN (by assumption) ?_
    | (with_reducible refine rIXk (by assumption) (by assumption) ?_; intro p hp)
    | (with_reducible refine rIX (by assumption) (by omega) (by omega) ?_; intro p a ha hp)
    | with_reducible refine rLDi (by assumption) ?_
    | (with_reducible refine rLD (by assumption) ?_; intro c hc)
    | with_reducible refine rADD (by omega) ?_
    | with_reducible refine rSUB (by omega) ?_
    | with_reducible refine rLSS ?_
    | with_reducible refine rLEQ ?_
    | with_reducible refine rGTR ?_
    | with_reducible refine rGEQ ?_
    | with_reducible refine rEQL ?_
    | with_reducible refine rNEQ ?_
    | with_reducible refine rNOT ?_
    | (with_reducible refine rBRK ?_ ?_ <;> intro hb)
    | (with_reducible refine rBRKn ?_ ?_ <;> intro hb)
    | (with_reducible refine rBRKnb ?_ ?_ <;> intro hb)
    | (with_reducible refine rBRKb ?_ ?_ <;> intro hb)
    | (with_reducible refine rSPL ?_ ?_ <;> intro hb)
    | (with_reducible refine rSPLn ?_ ?_ <;> intro hb)
    | (with_reducible refine rSPLnb ?_ ?_ <;> intro hb)
    | (with_reducible refine rSPLb ?_ ?_ <;> intro hb)
    | (exfalso; omega))
    · have hbn : b.drop k = [] := List.drop_eq_nil_of_le (by omega)
      rw [drop_some hx, hbn] at hq
      exact hq
    · rw [drop_some hx, drop_someI ha] at hq
      simp only [cmpL, cmpBy] at hq
      refine ACalls.mono compare_ok ?_
      rintro r H1 ⟨rfl, rfl⟩
      repeat' (first
    | with_reducible refine rTT ?_
    | with_reducible refine rRFL ?_
    | with_reducible refine rLEN (by assumption) ?_
    | (with_reducible refine rIXk (by assumption) (by assumption) ?_; intro p hp)
    | (with_reducible refine rIX (by assumption) (by omega) (by omega) ?_; intro p a ha hp)
    | with_reducible refine rLDi (by assumption) ?_
    | (with_reducible refine rLD (by assumption) ?_; intro c hc)
    | with_reducible refine rADD (by omega) ?_
    | with_reducible refine rSUB (by omega) ?_
    | with_reducible refine rLSS ?_
    | with_reducible refine rLEQ ?_
    | with_reducible refine rGTR ?_
    | with_reducible refine rGEQ ?_
    | with_reducible refine rEQL ?_
    | with_reducible refine rNEQ ?_
    | with_reducible refine rNOT ?_
    | (with_reducible refine rBRK ?_ ?_ <;> intro hb)
    | (with_reducible refine rBRKn ?_ ?_ <;> intro hb)
    | (with_reducible refine rBRKnb ?_ ?_ <;> intro hb)
    | (with_reducible refine rBRKb ?_ ?_ <;> intro hb)
    | (with_reducible refine rSPL ?_ ?_ <;> intro hb)
    | (with_reducible refine rSPLn ?_ ?_ <;> intro hb)
    | (with_reducible refine rSPLnb ?_ ?_ <;> intro hb)
    | (with_reducible refine rSPLb ?_ ?_ <;> intro hb)
    | (exfalso; omega))
      · rw [if_neg hb] at hq; exact hq
      · rw [if_pos (Decidable.not_not.1 hb)] at hq
        exact ih (k + 1) (by omega) (by omega) hq
theorem compareL_ok {a b : List Int} {v u : AVal} (hv : IsInts v a) (hu : IsInts u b) (hl : a.length ≤ 1000000) {H : Heap} : ACalls Try.prog 128 [v, u] H fun r H' => r = I (cmpL a b) ∧ H' = H := by
  apply slices_Compare_T1_int.start
  unfold slices_Compare_T1_int.start_vc
  repeat' (first
    | with_reducible refine rTT ?_
    | with_reducible refine rRFL ?_
    | with_reducible refine rLEN (by assumption) ?_
    | (with_reducible refine rIXk (by assumption) (by assumption) ?_; intro p hp)
    | (with_reducible refine rIX (by assumption) (by omega) (by omega) ?_; intro p a ha hp)
    | with_reducible refine rLDi (by assumption) ?_
    | (with_reducible refine rLD (by assumption) ?_; intro c hc)
    | with_reducible refine rADD (by omega) ?_
    | with_reducible refine rSUB (by omega) ?_
    | with_reducible refine rLSS ?_
    | with_reducible refine rLEQ ?_
    | with_reducible refine rGTR ?_
    | with_reducible refine rGEQ ?_
    | with_reducible refine rEQL ?_
    | with_reducible refine rNEQ ?_
    | with_reducible refine rNOT ?_
    | (with_reducible refine rBRK ?_ ?_ <;> intro hb)
    | (with_reducible refine rBRKn ?_ ?_ <;> intro hb)
    | (with_reducible refine rBRKnb ?_ ?_ <;> intro hb)
    | (with_reducible refine rBRKb ?_ ?_ <;> intro hb)
    | (with_reducible refine rSPL ?_ ?_ <;> intro hb)
    | (with_reducible refine rSPLn ?_ ?_ <;> intro hb)
    | (with_reducible refine rSPLnb ?_ ?_ <;> intro hb)
    | (with_reducible refine rSPLb ?_ ?_ <;> intro hb)
    | (exfalso; omega))
  exact compareL_loop hv hu hl a.length 0 (by omega) (by omega) ⟨rfl, rfl⟩

theorem compareT_loop {a b : List (List Int)} {v u f : AVal} (hv : IsTab v a) (hu : IsTab u b) (hl : a.length ≤ 1000000) {H : Heap} (hf : ∀ x ∈ a, ∀ (y : List Int) (c d : AVal), IsInts c x → IsInts d y → CALLK Try.prog f [c, d] H fun r H' => r = I (cmpL x y) ∧ H' = H) {Q : AVal → Heap → Prop} : ∀ (n k : Nat), k + n = a.length → k ≤ b.length → Q (I (cmpT (a.drop k) (b.drop k))) H →
    slices_CompareFunc_T2_T2_T1_T1.L2 Q v u f v (I a.length) (I k) H := by
  intro n
  induction n with
  | zero =>
    intro k hk hkb hq
    rw [List.drop_eq_nil_of_le (by omega), cmpT, cmpBy_nil, List.length_drop] at hq
    apply slices_CompareFunc_T2_T2_T1_T1.step2
    unfold slices_CompareFunc_T2_T2_T1_T1.step2_vc
    repeat' (first
    | with_reducible refine rTT ?_
    | with_reducible refine rRFL ?_
    | with_reducible refine rLEN (by assumption) ?_
    | (with_reducible refine rIXk (by assumption) (by assumption) ?_; intro p hp)
    | (with_reducible refine rIX (by assumption) (by omega) (by omega) ?_; intro p a ha hp)
    | with_reducible refine rLDi (by assumption) ?_
    | (with_reducible refine rLD (by assumption) ?_; intro c hc)
    | with_reducible refine rADD (by omega) ?_
    | with_reducible refine rSUB (by omega) ?_
    | with_reducible refine rLSS ?_
    | with_reducible refine rLEQ ?_
    | with_reducible refine rGTR ?_
    | with_reducible refine rGEQ ?_
    | with_reducible refine rEQL ?_
    | with_reducible refine rNEQ ?_
    | with_reducible refine rNOT ?_
    | (with_reducible refine rBRK ?_ ?_ <;> intro hb)
    | (with_reducible refine rBRKn ?_ ?_ <;> intro hb)
    | (with_reducible refine rBRKnb ?_ ?_ <;> intro hb)
    | (with_reducible refine rBRKb ?_ ?_ <;> intro hb)
    | (with_reducible refine rSPL ?_ ?_ <;> intro hb)
    | (with_reducible refine rSPLn ?_ ?_ <;> intro hb)
    | (with_reducible refine rSPLnb ?_ ?_ <;> intro hb)
    | (with_reducible refine rSPLb ?_ ?_ <;> intro hb)
    | (exfalso; omega))
    · rw [if_pos (by omega)] at hq; exact hq
    · rw [if_neg (by omega)] at hq; exact hq
  | succ n ih =>
    intro k hk hkb hq
    obtain ⟨x, hx⟩ := ex_get (l := a) (k := k) (by omega)
    apply slices_CompareFunc_T2_T2_T1_T1.step2
    unfold slices_CompareFunc_T2_T2_T1_T1.step2_vc
    repeat' (first
    | with_reducible refine rTT ?_
    | with_reducible refine rRFL ?_
    | with_reducible refine rLEN (by assumption) ?_
    | (with_reducible refine rIXk (by assumption) (by assumption) ?_; intro p hp)
    | (with_reducible refine rIX (by assumption) (by omega) (by omega) ?_; intro p a ha hp)
    | with_reducible refine rLDi (by assumption) ?_
    | (with_reducible refine rLD (by assumption) ?_; intro c hc)
    | with_reducible refine rADD (by omega) ?_
    | with_reducible refine rSUB (by omega) ?_
    | with_reducible refine rLSS ?_
    | with_reducible refine rLEQ ?_
    | with_reducible refine rGTR ?_
    | with_reducible refine rGEQ ?_
    | with_reducible refine rEQL ?_
    | with_reducible refine rNEQ ?_
    | with_reducible refine rNOT ?_
    | (with_reducible refine rBRK ?_ ?_ <;> intro hb)
    | (with_reducible refine rBRKn ?_ ?_ <;> intro hb)
    | (with_reducible refine rBRKnb ?_ ?_ <;> intro hb)
    | (with_reducible refine rBRKb ?_ ?_ <;> intro hb)
    | (with_reducible refine rSPL ?_ ?_ <;> intro hb)
    | (with_reducible refine rSPLn ?_ ?_ <;> intro hb)
    | (with_reducible refine rSPLnb ?_ ?_ <;> intro hb)
    | (with_reducible refine rSPLb ?_ ?_ <;> intro hb)
    | (exfalso; omega))
    · have hbn : b.drop k = [] := List.drop_eq_nil_of_le (by omega)
      rw [drop_some hx, hbn] at hq
      exact hq
    · rw [drop_some hx, drop_someI ha] at hq
      simp only [cmpT, cmpBy] at hq
      refine CALLK_mono ?_ (hf x (List.mem_of_getElem? hx) _ _ _ (by assumption) (by assumption))
      rintro r H1 ⟨rfl, rfl⟩
      repeat' (first
    | with_reducible refine rTT ?_
    | with_reducible refine rRFL ?_
    | with_reducible refine rLEN (by assumption) ?_
    | (with_reducible refine rIXk (by assumption) (by assumption) ?_; intro p hp)
    | (with_reducible refine rIX (by assumption) (by omega) (by omega) ?_; intro p a ha hp)
    | with_reducible refine rLDi (by assumption) ?_
    | (with_reducible refine rLD (by assumption) ?_; intro c hc)
    | with_reducible refine rADD (by omega) ?_
    | with_reducible refine rSUB (by omega) ?_
    | with_reducible refine rLSS ?_
    | with_reducible refine rLEQ ?_
    | with_reducible refine rGTR ?_
    | with_reducible refine rGEQ ?_
    | with_reducible refine rEQL ?_
    | with_reducible refine rNEQ ?_
    | with_reducible refine rNOT ?_
    | (with_reducible refine rBRK ?_ ?_ <;> intro hb)
    | (with_reducible refine rBRKn ?_ ?_ <;> intro hb)
    | (with_reducible refine rBRKnb ?_ ?_ <;> intro hb)
    | (with_reducible refine rBRKb ?_ ?_ <;> intro hb)
    | (with_reducible refine rSPL ?_ ?_ <;> intro hb)
    | (with_reducible refine rSPLn ?_ ?_ <;> intro hb)
    | (with_reducible refine rSPLnb ?_ ?_ <;> intro hb)
    | (with_reducible refine rSPLb ?_ ?_ <;> intro hb)
    | (exfalso; omega))
      · rw [if_neg hb] at hq; exact hq
      · rw [if_pos (Decidable.not_not.1 hb)] at hq
        exact ih (k + 1) (by omega) (by omega) hq
theorem compareTables_ok {a b : List (List Int)} {v u : AVal} (hv : IsTab v a) (hu : IsTab u b) (hl : a.length ≤ 1000000) (hr : ∀ x ∈ a, x.length ≤ 1000000) {H : Heap} : ACalls Try.prog 82 [v, u] H fun r H' => r = I (cmpT a b) ∧ H' = H := by
  apply impl_compareTables.start
  unfold impl_compareTables.start_vc
  apply slices_CompareFunc_T2_T2_T1_T1.start
  unfold slices_CompareFunc_T2_T2_T1_T1.start_vc
  repeat' (first
    | with_reducible refine rTT ?_
    | with_reducible refine rRFL ?_
    | with_reducible refine rLEN (by assumption) ?_
    | (with_reducible refine rIXk (by assumption) (by assumption) ?_; intro p hp)
    | (with_reducible refine rIX (by assumption) (by omega) (by omega) ?_; intro p a ha hp)
    | with_reducible refine rLDi (by assumption) ?_
    | (with_reducible refine rLD (by assumption) ?_; intro c hc)
    | with_reducible refine rADD (by omega) ?_
    | with_reducible refine rSUB (by omega) ?_
    | with_reducible refine rLSS ?_
    | with_reducible refine rLEQ ?_
    | with_reducible refine rGTR ?_
    | with_reducible refine rGEQ ?_
    | with_reducible refine rEQL ?_
    | with_reducible refine rNEQ ?_
    | with_reducible refine rNOT ?_
    | (with_reducible refine rBRK ?_ ?_ <;> intro hb)
    | (with_reducible refine rBRKn ?_ ?_ <;> intro hb)
    | (with_reducible refine rBRKnb ?_ ?_ <;> intro hb)
    | (with_reducible refine rBRKb ?_ ?_ <;> intro hb)
    | (with_reducible refine rSPL ?_ ?_ <;> intro hb)
    | (with_reducible refine rSPLn ?_ ?_ <;> intro hb)
    | (with_reducible refine rSPLnb ?_ ?_ <;> intro hb)
    | (with_reducible refine rSPLb ?_ ?_ <;> intro hb)
    | (exfalso; omega))
  refine compareT_loop hv hu hl (fun x hx y c d hc hd => rCALL ?_) a.length 0 (by omega) (by omega) ⟨rfl, rfl⟩
  show ACalls Try.prog 127 [c, d] _ _
  apply impl_compareTables_1.start
  unfold impl_compareTables_1.start_vc
  exact compareL_ok hc hd (hr x hx)

end Go.Proofs.Ytccioplhchmilaa.AL
