/-
  Contracts: what the reference draws.
-/
import Derived.Test.YtccioplhchmilaaC4
set_option linter.unusedVariables false
set_option maxRecDepth 100000
namespace Go.Proofs.Ytccioplhchmilaa.AL
open Go Go.Proofs

/-! (*spec.l1Cur).next (slots: 0 c, 1 c, 3 b) -/
namespace spec_l1Cur_next
def lv : List (Nat × List Nat) := []
def start_vc (Q : AVal → Heap → Prop) (a0 : AVal) (H : Heap) : Prop :=
TT ∧ NILK a0 fun x1 =>
TT ∧ FADK 1 x1 fun x2 =>
TT ∧ TT ∧ LDK false 1 H x2 fun x3 =>
NILK a0 fun x4 =>
TT ∧ FADK 0 x4 fun x5 =>
TT ∧ TT ∧ LDK false 1 H x5 fun x6 =>
LENK x6 fun x7 =>
BINK .lss x3 x7 fun x8 =>
BRK x8 (TT ∧ NILK a0 fun x9 =>
TT ∧ FADK 0 x9 fun x10 =>
TT ∧ TT ∧ LDK false 1 H x10 fun x11 =>
NILK a0 fun x12 =>
TT ∧ FADK 1 x12 fun x13 =>
TT ∧ TT ∧ LDK false 1 H x13 fun x14 =>
TT ∧ IXK 1 x11 x14 fun x15 =>
TT ∧ TT ∧ LDK false 1 H x15 fun x16 =>
ICVK .i64 x16 fun x17 =>
(TT ∧ TT ∧ LDK false 1 H x13 fun x18 =>
x18 = x14) ∧
(TT ∧ TT ∧ LDK false 1 H x10 fun x19 =>
x19 = x11) ∧
NILK a0 fun x20 =>
TT ∧ FADK 1 x20 fun x21 =>
TT ∧ TT ∧ LDK false 1 H x21 fun x22 =>
BINK .add x22 (AVal.int .i64 1) fun x23 =>
NILK a0 fun x24 =>
TT ∧ FADK 1 x24 fun x25 =>
TT ∧ STK 1 H x25 x23 fun H26 =>
NILK a0 fun x27 =>
TT ∧ FADK 2 x27 fun x28 =>
TT ∧ TT ∧ LDK false 1 H26 x28 fun x29 =>
BINK .mul x29 (AVal.int .u64 6364136223846793005) fun x30 =>
ICVK .u64 x17 fun x31 =>
BINK .add x30 x31 fun x32 =>
BINK .add x32 (AVal.int .u64 1442695040888963407) fun x33 =>
NILK a0 fun x34 =>
TT ∧ FADK 2 x34 fun x35 =>
TT ∧ STK 1 H26 x35 x33 fun H36 =>
TT ∧ NILK a0 fun x37 =>
TT ∧ FADK 1 x37 fun x38 =>
TT ∧ TT ∧ LDK false 1 H36 x38 fun x39 =>
NILK a0 fun x40 =>
TT ∧ FADK 0 x40 fun x41 =>
TT ∧ TT ∧ LDK false 1 H36 x41 fun x42 =>
LENK x42 fun x43 =>
BINK .leq x39 x43 fun x44 =>
BRK x44 (Q x17 H36) (NILK a0 fun x45 =>
TT ∧ FADK 2 x45 fun x46 =>
TT ∧ TT ∧ LDK false 1 H36 x46 fun x47 =>
BINK .shr x47 (AVal.int .u64 40) fun x48 =>
BINK .and x48 (AVal.int .u64 255) fun x49 =>
ICVK .i64 x49 fun x50 =>
Q x50 H36)) (NILK a0 fun x51 =>
TT ∧ FADK 1 x51 fun x52 =>
TT ∧ TT ∧ LDK false 1 H x52 fun x53 =>
BINK .add x53 (AVal.int .i64 1) fun x54 =>
NILK a0 fun x55 =>
TT ∧ FADK 1 x55 fun x56 =>
TT ∧ STK 1 H x56 x54 fun H57 =>
NILK a0 fun x58 =>
TT ∧ FADK 2 x58 fun x59 =>
TT ∧ TT ∧ LDK false 1 H57 x59 fun x60 =>
BINK .mul x60 (AVal.int .u64 6364136223846793005) fun x61 =>
ICVK .u64 (AVal.int .i64 0) fun x62 =>
BINK .add x61 x62 fun x63 =>
BINK .add x63 (AVal.int .u64 1442695040888963407) fun x64 =>
NILK a0 fun x65 =>
TT ∧ FADK 2 x65 fun x66 =>
TT ∧ STK 1 H57 x66 x64 fun H67 =>
TT ∧ NILK a0 fun x68 =>
TT ∧ FADK 1 x68 fun x69 =>
TT ∧ TT ∧ LDK false 1 H67 x69 fun x70 =>
NILK a0 fun x71 =>
TT ∧ FADK 0 x71 fun x72 =>
TT ∧ TT ∧ LDK false 1 H67 x72 fun x73 =>
LENK x73 fun x74 =>
BINK .leq x70 x74 fun x75 =>
BRK x75 (Q (AVal.int .i64 0) H67) (NILK a0 fun x76 =>
TT ∧ FADK 2 x76 fun x77 =>
TT ∧ TT ∧ LDK false 1 H67 x77 fun x78 =>
BINK .shr x78 (AVal.int .u64 40) fun x79 =>
BINK .and x79 (AVal.int .u64 255) fun x80 =>
ICVK .i64 x80 fun x81 =>
Q x81 H67))
theorem start_eq (Q : AVal → Heap → Prop) (a0 : AVal) (H : Heap) : vs Try.prog lv 122 62 Try.f122.results.toList Q true 1000 [.sq (bodyOf Try.f122)] (entry [a0]) H = start_vc Q a0 H := by kernel_rfl
theorem start {Q : AVal → Heap → Prop} {a0 : AVal} {H : Heap} (h : start_vc Q a0 H) : ACalls Try.prog 122 [a0] H Q := acalls_vs (lv := lv) mixed Try.func122 rfl (by kernel_rfl) (by kernel_rfl) (start_eq Q a0 H ▸ h)
end spec_l1Cur_next

/-! (*spec.l1Cur).pick (slots: 0 c, 1 n, 2 c, 3 n, 5 x) -/
namespace spec_l1Cur_pick
def lv : List (Nat × List Nat) := []
def start_vc (Q : AVal → Heap → Prop) (a0 a1 : AVal) (H : Heap) : Prop :=
BINK .leq a1 (AVal.int .i64 1) fun x1 =>
BRK x1 (Q (AVal.int .i64 0) H) (ACalls Try.prog 122 [a0] H fun x2 H3 =>
BINK .gtr a1 (AVal.int .i64 200) fun x4 =>
BRK x4 (BINK .mul x2 (AVal.int .i64 256) fun x5 =>
ACalls Try.prog 122 [a0] H3 fun x6 H7 =>
BINK .add x5 x6 fun x8 =>
BINK .rem x8 a1 fun x9 =>
Q x9 H7) (BINK .rem x2 a1 fun x10 =>
Q x10 H3))
theorem start_eq (Q : AVal → Heap → Prop) (a0 a1 : AVal) (H : Heap) : vs Try.prog lv 68 20 Try.f68.results.toList Q true 1000 [.sq (bodyOf Try.f68)] (entry [a0, a1]) H = start_vc Q a0 a1 H := by kernel_rfl
theorem start {Q : AVal → Heap → Prop} {a0 a1 : AVal} {H : Heap} (h : start_vc Q a0 a1 H) : ACalls Try.prog 68 [a0, a1] H Q := acalls_vs (lv := lv) mixed Try.func68 rfl (by kernel_rfl) (by kernel_rfl) (start_eq Q a0 a1 H ▸ h)
end spec_l1Cur_pick

/-! (*spec.l1Cur).one (slots: 0 c, 1 n, 2 c, 3 n) -/
namespace spec_l1Cur_one
def lv : List (Nat × List Nat) := []
def start_vc (Q : AVal → Heap → Prop) (a0 a1 : AVal) (H : Heap) : Prop :=
ACalls Try.prog 68 [a0, a1] H fun x1 H2 =>
BINK .eql x1 (AVal.int .i64 0) fun x3 =>
Q x3 H2
theorem start_eq (Q : AVal → Heap → Prop) (a0 a1 : AVal) (H : Heap) : vs Try.prog lv 70 9 Try.f70.results.toList Q true 1000 [.sq (bodyOf Try.f70)] (entry [a0, a1]) H = start_vc Q a0 a1 H := by kernel_rfl
theorem start {Q : AVal → Heap → Prop} {a0 a1 : AVal} {H : Heap} (h : start_vc Q a0 a1 H) : ACalls Try.prog 70 [a0, a1] H Q := acalls_vs (lv := lv) mixed Try.func70 rfl (by kernel_rfl) (by kernel_rfl) (start_eq Q a0 a1 H ▸ h)
end spec_l1Cur_one

/-! (*spec.l1Cur).among (slots: 0 c, 1 list, 2 c, 3 list) -/
namespace spec_l1Cur_among
def lv : List (Nat × List Nat) := []
def start_vc (Q : AVal → Heap → Prop) (a0 a1 : AVal) (H : Heap) : Prop :=
LENK a1 fun x1 =>
ACalls Try.prog 68 [a0, x1] H fun x2 H3 =>
TT ∧ IXK 1 a1 x2 fun x4 =>
TT ∧ TT ∧ LDK false 1 H3 x4 fun x5 =>
Q x5 H3
theorem start_eq (Q : AVal → Heap → Prop) (a0 a1 : AVal) (H : Heap) : vs Try.prog lv 50 12 Try.f50.results.toList Q true 1000 [.sq (bodyOf Try.f50)] (entry [a0, a1]) H = start_vc Q a0 a1 H := by kernel_rfl
theorem start {Q : AVal → Heap → Prop} {a0 a1 : AVal} {H : Heap} (h : start_vc Q a0 a1 H) : ACalls Try.prog 50 [a0, a1] H Q := acalls_vs (lv := lv) mixed Try.func50 rfl (by kernel_rfl) (by kernel_rfl) (start_eq Q a0 a1 H ▸ h)
end spec_l1Cur_among


def IsB (v : AVal) (b : Int) : Prop := v = .int .u8 b ∧ 0 ≤ b ∧ b ≤ 255
/-- A cursor that has gone at most so far. -/
def Cur (A : Int) (H : Heap) (i g : Nat) : Prop := ∃ cv code at' s, hget H i = some (g, [cv, I at', .int .u64 s]) ∧ IsSl IsB cv code ∧ code.length ≤ 1099511627776 ∧ 0 ≤ at' ∧ at' ≤ A

theorem next_ok {A : Int} {H : Heap} {i g : Nat} (h : Cur A H i g) (hA : A ≤ 1099511627776) : ACalls Try.prog 122 [.ptr i g 0] H fun r H' => ∃ x cs, r = I x ∧ 0 ≤ x ∧ x ≤ 255 ∧ H' = hset H i g cs ∧ Cur (A + 1) H' i g := by
  obtain ⟨cv, code, at', s, hh, hcv, hcl, h0, h1⟩ := h
  have hi := hlt_of_get hh
  have fin : ∀ (x s' : Int), 0 ≤ x → x ≤ 255 → ∃ x' cs, I x = I x' ∧ 0 ≤ x' ∧ x' ≤ 255 ∧ hset (hset H i g [cv, I (at' + 1), .int .u64 s]) i g [cv, I (at' + 1), .int .u64 s'] = hset H i g cs ∧ Cur (A + 1) (hset (hset H i g [cv, I (at' + 1), .int .u64 s]) i g [cv, I (at' + 1), .int .u64 s']) i g := by
    intro x s' hx0 hx1
    rw [hset_set]
    exact ⟨x, _, rfl, hx0, hx1, rfl, cv, code, at' + 1, s', hget_set _ _ hi, hcv, hcl, by omega, by omega⟩
  have hh1 : hget (hset H i g [cv, I (at' + 1), .int .u64 s]) i = some (g, [cv, I (at' + 1), .int .u64 s]) := hget_set _ _ hi
  have hi1 : i < (hset H i g [cv, I (at' + 1), .int .u64 s]).length := by rw [hlen_set]; exact hi
  have hh2 : ∀ s', hget (hset (hset H i g [cv, I (at' + 1), .int .u64 s]) i g [cv, I (at' + 1), .int .u64 s']) i = some (g, [cv, I (at' + 1), .int .u64 s']) := fun s' => hget_set _ _ hi1
  apply spec_l1Cur_next.start
  unfold spec_l1Cur_next.start_vc
  repeat' (first | with_reducible refine rTT ?_ | with_reducible refine rNILp ?_ | with_reducible refine rFADp ?_ | refine rLDf hh rfl ?_ | with_reducible refine rLEN hcv ?_ | with_reducible refine rLSS ?_ | with_reducible refine rADD (by omega) ?_ | (with_reducible refine rBRK ?_ ?_ <;> intro hb))
  · refine rIX hcv h0 hb fun p b hb' hp => ?_
    repeat' (first | with_reducible refine rTT ?_)
    refine rLD hp ?_
    rintro c ⟨rfl, hb0, hb1⟩
    refine rICVi (by omega) ?_
    refine ⟨⟨rfl, rfl, rLDf hh rfl rfl⟩, ⟨rfl, rfl, rLDf hh rfl rfl⟩, ?_⟩
    repeat' (first | with_reducible refine rTT ?_ | with_reducible refine rNILp ?_ | with_reducible refine rFADp ?_ | refine rLDf hh rfl ?_ | with_reducible refine rADD (by omega) ?_)
    refine rSTp hh (by simp) rfl ?_
    show NILK _ _
    repeat' (first | with_reducible refine rTT ?_ | with_reducible refine rNILp ?_ | with_reducible refine rFADp ?_ | refine rLDf hh1 rfl ?_)
    refine ⟨rfl, rfl, rfl, rfl, ?_⟩
    repeat' (first | with_reducible refine rTT ?_ | with_reducible refine rNILp ?_ | with_reducible refine rFADp ?_)
    refine rSTp hh1 (by simp) rfl ?_
    show TT ∧ _
    repeat' (first | with_reducible refine rTT ?_ | with_reducible refine rNILp ?_ | with_reducible refine rFADp ?_ | refine rLDf (hh2 _) rfl ?_ | with_reducible refine rLEN hcv ?_ | with_reducible refine rLEQ ?_ | (with_reducible refine rBRK ?_ ?_ <;> intro hb))
    · exact fin _ _ hb0 hb1
    · refine ⟨by decide, ?_⟩
      refine ⟨rfl, ?_⟩
      simp only [ariK]
      exact rICVi ⟨Int.le_trans (by decide) (and255 _).1, Int.le_trans (and255 _).2 (by decide)⟩ (fin _ _ (and255 _).1 (and255 _).2)
  · refine rSTp hh (by simp) rfl ?_
    show NILK _ _
    repeat' (first | with_reducible refine rTT ?_ | with_reducible refine rNILp ?_ | with_reducible refine rFADp ?_ | refine rLDf hh1 rfl ?_)
    refine ⟨rfl, rfl, rfl, rfl, ?_⟩
    repeat' (first | with_reducible refine rTT ?_ | with_reducible refine rNILp ?_ | with_reducible refine rFADp ?_)
    refine rSTp hh1 (by simp) rfl ?_
    show TT ∧ _
    repeat' (first | with_reducible refine rTT ?_ | with_reducible refine rNILp ?_ | with_reducible refine rFADp ?_ | refine rLDf (hh2 _) rfl ?_ | with_reducible refine rLEN hcv ?_ | with_reducible refine rLEQ ?_ | (with_reducible refine rBRK ?_ ?_ <;> intro hb))
    · exact fin 0 _ (by omega) (by omega)
    · refine ⟨by decide, ?_⟩
      refine ⟨rfl, ?_⟩
      simp only [ariK]
      exact rICVi ⟨Int.le_trans (by decide) (and255 _).1, Int.le_trans (and255 _).2 (by decide)⟩ (fin _ _ (and255 _).1 (and255 _).2)

theorem Cur.le {A B : Int} {H : Heap} {i g : Nat} (h : Cur A H i g) (hab : A ≤ B) : Cur B H i g := by
  obtain ⟨cv, code, a, s, h1, h2, h3, h4, h5⟩ := h
  exact ⟨cv, code, a, s, h1, h2, h3, h4, by omega⟩
theorem Cur.self {A : Int} {H : Heap} {i g : Nat} (h : Cur A H i g) : ∃ cs, H = hset H i g cs := by
  obtain ⟨cv, code, a, s, h1, _⟩ := h
  exact ⟨_, (hset_self h1).symm⟩
/-- What a draw leaves: a number below n (0 if there is none), and the cursor gone on. -/
def Drawn (A : Int) (i g : Nat) (H : Heap) (n : Int) (r : AVal) (H' : Heap) : Prop := ∃ x cs, r = I x ∧ 0 ≤ x ∧ (x < n ∨ x = 0) ∧ H' = hset H i g cs ∧ Cur A H' i g
theorem pick_ok {A : Int} {H : Heap} {i g : Nat} {n : Int} (h : Cur A H i g) (hA : A ≤ 1000000000000) (hn : n ≤ 1000000) : ACalls Try.prog 68 [.ptr i g 0, I n] H (Drawn (A + 2) i g H n) := by
  apply spec_l1Cur_pick.start
  unfold spec_l1Cur_pick.start_vc
  repeat' (first
    | with_reducible refine rTT ?_
    | with_reducible refine rRFL ?_
    | with_reducible refine rLEN (by assumption) ?_
    | (with_reducible refine rIXk (by assumption) (by assumption) ?_; intro p hp)
    | (with_reducible refine rIX (by assumption) (by omega) (by omega) ?_; intro p a ha hp)
    | with_reducible refine rLDi (by assumption) ?_
    | (with_reducible refine rLD (by assumption) ?_; intro c hc)
    | with_reducible refine rADD (by omega) ?_
    | with_reducible refine rSUB (by omega) ?_
    | with_reducible refine rLSS ?_
    | with_reducible refine rLEQ ?_
    | with_reducible refine rGTR ?_
    | with_reducible refine rGEQ ?_
    | with_reducible refine rEQL ?_
    | with_reducible refine rNEQ ?_
    | with_reducible refine rNOT ?_
    | (with_reducible refine rBRK ?_ ?_ <;> intro hb)
    | (with_reducible refine rBRKn ?_ ?_ <;> intro hb)
    | (with_reducible refine rBRKnb ?_ ?_ <;> intro hb)
    | (with_reducible refine rBRKb ?_ ?_ <;> intro hb)
    | (with_reducible refine rSPL ?_ ?_ <;> intro hb)
    | (with_reducible refine rSPLn ?_ ?_ <;> intro hb)
    | (with_reducible refine rSPLnb ?_ ?_ <;> intro hb)
    | (with_reducible refine rSPLb ?_ ?_ <;> intro hb)
    | (exfalso; omega))
  · obtain ⟨cs, hcs⟩ := h.self
    exact ⟨0, cs, rfl, by omega, .inr rfl, hcs, h.le (by omega)⟩
  · refine ACalls.mono (next_ok h (by omega)) ?_
    rintro r H1 ⟨x, cs, rfl, hx0, hx1, rfl, hc1⟩
    repeat' (first
    | with_reducible refine rTT ?_
    | with_reducible refine rRFL ?_
    | with_reducible refine rLEN (by assumption) ?_
    | (with_reducible refine rIXk (by assumption) (by assumption) ?_; intro p hp)
    | (with_reducible refine rIX (by assumption) (by omega) (by omega) ?_; intro p a ha hp)
    | with_reducible refine rLDi (by assumption) ?_
    | (with_reducible refine rLD (by assumption) ?_; intro c hc)
    | with_reducible refine rADD (by omega) ?_
    | with_reducible refine rSUB (by omega) ?_
    | with_reducible refine rLSS ?_
    | with_reducible refine rLEQ ?_
    | with_reducible refine rGTR ?_
    | with_reducible refine rGEQ ?_
    | with_reducible refine rEQL ?_
    | with_reducible refine rNEQ ?_
    | with_reducible refine rNOT ?_
    | (with_reducible refine rBRK ?_ ?_ <;> intro hb)
    | (with_reducible refine rBRKn ?_ ?_ <;> intro hb)
    | (with_reducible refine rBRKnb ?_ ?_ <;> intro hb)
    | (with_reducible refine rBRKb ?_ ?_ <;> intro hb)
    | (with_reducible refine rSPL ?_ ?_ <;> intro hb)
    | (with_reducible refine rSPLn ?_ ?_ <;> intro hb)
    | (with_reducible refine rSPLnb ?_ ?_ <;> intro hb)
    | (with_reducible refine rSPLb ?_ ?_ <;> intro hb)
    | (exfalso; omega))
    · refine rMUL (by omega) ?_
      refine ACalls.mono (next_ok hc1 (by omega)) ?_
      rintro r H2 ⟨y, ds, rfl, hy0, hy1, rfl, hc2⟩
      repeat' (first
    | with_reducible refine rTT ?_
    | with_reducible refine rRFL ?_
    | with_reducible refine rLEN (by assumption) ?_
    | (with_reducible refine rIXk (by assumption) (by assumption) ?_; intro p hp)
    | (with_reducible refine rIX (by assumption) (by omega) (by omega) ?_; intro p a ha hp)
    | with_reducible refine rLDi (by assumption) ?_
    | (with_reducible refine rLD (by assumption) ?_; intro c hc)
    | with_reducible refine rADD (by omega) ?_
    | with_reducible refine rSUB (by omega) ?_
    | with_reducible refine rLSS ?_
    | with_reducible refine rLEQ ?_
    | with_reducible refine rGTR ?_
    | with_reducible refine rGEQ ?_
    | with_reducible refine rEQL ?_
    | with_reducible refine rNEQ ?_
    | with_reducible refine rNOT ?_
    | (with_reducible refine rBRK ?_ ?_ <;> intro hb)
    | (with_reducible refine rBRKn ?_ ?_ <;> intro hb)
    | (with_reducible refine rBRKnb ?_ ?_ <;> intro hb)
    | (with_reducible refine rBRKb ?_ ?_ <;> intro hb)
    | (with_reducible refine rSPL ?_ ?_ <;> intro hb)
    | (with_reducible refine rSPLn ?_ ?_ <;> intro hb)
    | (with_reducible refine rSPLnb ?_ ?_ <;> intro hb)
    | (with_reducible refine rSPLb ?_ ?_ <;> intro hb)
    | (exfalso; omega))
      refine rREM (by omega) ?_
      refine ⟨_, ds, rfl, Int.tmod_nonneg _ (by omega), .inl ?_, by rw [hset_set], ?_⟩
      · have := Int.tmod_lt_of_pos (x * 256 + y) (show 0 < n by omega); exact this
      · have := hc2.le (show A + 1 + 1 ≤ A + 2 by omega); exact this
    · refine rREM (by omega) ?_
      exact ⟨_, cs, rfl, Int.tmod_nonneg _ (by omega), .inl (Int.tmod_lt_of_pos x (show 0 < n by omega)), rfl, hc1.le (by omega)⟩
theorem one_ok {A : Int} {H : Heap} {i g : Nat} {n : Int} (h : Cur A H i g) (hA : A ≤ 1000000000000) (hn : n ≤ 1000000) : ACalls Try.prog 70 [.ptr i g 0, I n] H fun r H' => ∃ b cs, r = .bool b ∧ H' = hset H i g cs ∧ Cur (A + 2) H' i g := by
  apply spec_l1Cur_one.start
  unfold spec_l1Cur_one.start_vc
  refine ACalls.mono (pick_ok h hA hn) ?_
  rintro r H1 ⟨x, cs, rfl, hx0, hx1, rfl, hc1⟩
  repeat' (first
    | with_reducible refine rTT ?_
    | with_reducible refine rRFL ?_
    | with_reducible refine rLEN (by assumption) ?_
    | (with_reducible refine rIXk (by assumption) (by assumption) ?_; intro p hp)
    | (with_reducible refine rIX (by assumption) (by omega) (by omega) ?_; intro p a ha hp)
    | with_reducible refine rLDi (by assumption) ?_
    | (with_reducible refine rLD (by assumption) ?_; intro c hc)
    | with_reducible refine rADD (by omega) ?_
    | with_reducible refine rSUB (by omega) ?_
    | with_reducible refine rLSS ?_
    | with_reducible refine rLEQ ?_
    | with_reducible refine rGTR ?_
    | with_reducible refine rGEQ ?_
    | with_reducible refine rEQL ?_
    | with_reducible refine rNEQ ?_
    | with_reducible refine rNOT ?_
    | (with_reducible refine rBRK ?_ ?_ <;> intro hb)
    | (with_reducible refine rBRKn ?_ ?_ <;> intro hb)
    | (with_reducible refine rBRKnb ?_ ?_ <;> intro hb)
    | (with_reducible refine rBRKb ?_ ?_ <;> intro hb)
    | (with_reducible refine rSPL ?_ ?_ <;> intro hb)
    | (with_reducible refine rSPLn ?_ ?_ <;> intro hb)
    | (with_reducible refine rSPLnb ?_ ?_ <;> intro hb)
    | (with_reducible refine rSPLb ?_ ?_ <;> intro hb)
    | (exfalso; omega))
  exact ⟨_, cs, rfl, rfl, hc1⟩
theorem among_ok {A : Int} {H : Heap} {i g : Nat} {l : List Int} {v : AVal} (h : Cur A H i g) (hA : A ≤ 1000000000000) (hv : IsInts v l) (h0 : 0 < l.length) (hl : l.length ≤ 1000000) : ACalls Try.prog 50 [.ptr i g 0, v] H fun r H' => ∃ x cs, r = I x ∧ x ∈ l ∧ H' = hset H i g cs ∧ Cur (A + 2) H' i g := by
  apply spec_l1Cur_among.start
  unfold spec_l1Cur_among.start_vc
  repeat' (first
    | with_reducible refine rTT ?_
    | with_reducible refine rRFL ?_
    | with_reducible refine rLEN (by assumption) ?_
    | (with_reducible refine rIXk (by assumption) (by assumption) ?_; intro p hp)
    | (with_reducible refine rIX (by assumption) (by omega) (by omega) ?_; intro p a ha hp)
    | with_reducible refine rLDi (by assumption) ?_
    | (with_reducible refine rLD (by assumption) ?_; intro c hc)
    | with_reducible refine rADD (by omega) ?_
    | with_reducible refine rSUB (by omega) ?_
    | with_reducible refine rLSS ?_
    | with_reducible refine rLEQ ?_
    | with_reducible refine rGTR ?_
    | with_reducible refine rGEQ ?_
    | with_reducible refine rEQL ?_
    | with_reducible refine rNEQ ?_
    | with_reducible refine rNOT ?_
    | (with_reducible refine rBRK ?_ ?_ <;> intro hb)
    | (with_reducible refine rBRKn ?_ ?_ <;> intro hb)
    | (with_reducible refine rBRKnb ?_ ?_ <;> intro hb)
    | (with_reducible refine rBRKb ?_ ?_ <;> intro hb)
    | (with_reducible refine rSPL ?_ ?_ <;> intro hb)
    | (with_reducible refine rSPLn ?_ ?_ <;> intro hb)
    | (with_reducible refine rSPLnb ?_ ?_ <;> intro hb)
    | (with_reducible refine rSPLb ?_ ?_ <;> intro hb)
    | (exfalso; omega))
  refine ACalls.mono (pick_ok h hA (by omega)) ?_
  rintro r H1 ⟨x, cs, rfl, hx0, hx1, rfl, hc1⟩
  repeat' (first
    | with_reducible refine rTT ?_
    | with_reducible refine rRFL ?_
    | with_reducible refine rLEN (by assumption) ?_
    | (with_reducible refine rIXk (by assumption) (by assumption) ?_; intro p hp)
    | (with_reducible refine rIX (by assumption) (by omega) (by omega) ?_; intro p a ha hp)
    | with_reducible refine rLDi (by assumption) ?_
    | (with_reducible refine rLD (by assumption) ?_; intro c hc)
    | with_reducible refine rADD (by omega) ?_
    | with_reducible refine rSUB (by omega) ?_
    | with_reducible refine rLSS ?_
    | with_reducible refine rLEQ ?_
    | with_reducible refine rGTR ?_
    | with_reducible refine rGEQ ?_
    | with_reducible refine rEQL ?_
    | with_reducible refine rNEQ ?_
    | with_reducible refine rNOT ?_
    | (with_reducible refine rBRK ?_ ?_ <;> intro hb)
    | (with_reducible refine rBRKn ?_ ?_ <;> intro hb)
    | (with_reducible refine rBRKnb ?_ ?_ <;> intro hb)
    | (with_reducible refine rBRKb ?_ ?_ <;> intro hb)
    | (with_reducible refine rSPL ?_ ?_ <;> intro hb)
    | (with_reducible refine rSPLn ?_ ?_ <;> intro hb)
    | (with_reducible refine rSPLnb ?_ ?_ <;> intro hb)
    | (with_reducible refine rSPLb ?_ ?_ <;> intro hb)
    | (exfalso; omega))
  exact ⟨a, cs, rfl, List.mem_of_getElem? ha, rfl, hc1⟩

end Go.Proofs.Ytccioplhchmilaa.AL
