/-
  Contracts: the matrix of heights.
-/
import Derived.Test.YtccioplhchmilaaD5
set_option linter.unusedVariables false
set_option maxRecDepth 100000
namespace Go.Proofs.Ytccioplhchmilaa.AL
open Go Go.Proofs

/-! impl.fromHeights (slots: 0 h, 1 h, 3 corner) -/
namespace impl_fromHeights
def lv : List (Nat × List Nat) := []
def start_vc (Q : AVal → Heap → Prop) (a0 : AVal) (H : Heap) : Prop :=
BOXK a0 H fun x1 H2 =>
TT ∧ BOXK AVal.nilF H2 fun x3 H4 =>
TT ∧ STK 1 H4 x3 (AVal.fn 120 [] [x1]) fun H5 =>
TT ∧ TT ∧ LDK false 1 H5 x1 fun x6 =>
LENK x6 fun x7 =>
BINK .sub x7 (AVal.int .i64 1) fun x8 =>
TT ∧ TT ∧ LDK false 1 H5 x1 fun x9 =>
LENK x9 fun x10 =>
BINK .sub x10 (AVal.int .i64 1) fun x11 =>
ACalls Try.prog 107 [x8, x11, (AVal.fn 121 [] [x3])] H5 fun x12 H13 =>
Q x12 H13
theorem start_eq (Q : AVal → Heap → Prop) (a0 : AVal) (H : Heap) : vs Try.prog lv 67 13 Try.f67.results.toList Q true 1000 [.sq (bodyOf Try.f67)] (entry [a0]) H = start_vc Q a0 H := by kernel_rfl
theorem start {Q : AVal → Heap → Prop} {a0 : AVal} {H : Heap} (h : start_vc Q a0 H) : ACalls Try.prog 67 [a0] H Q := acalls_vs (lv := lv) mixed Try.func67 rfl (by kernel_rfl) (by kernel_rfl) (start_eq Q a0 H ▸ h)
end impl_fromHeights

/-! impl.fromHeights$1 (slots: 0 i, 1 j, 3 i, 4 j) -/
namespace impl_fromHeights_1
def lv : List (Nat × List Nat) := []
def start_vc (Q : AVal → Heap → Prop) (a0 a1 a2 : AVal) (H : Heap) : Prop :=
BINK .add a0 a1 fun x1 =>
TT ∧ TT ∧ LDK false 1 H a2 fun x2 =>
TT ∧ IXK 1 x2 a0 fun x3 =>
TT ∧ TT ∧ LDK false 1 H x3 fun x4 =>
TT ∧ IXK 1 x4 a1 fun x5 =>
TT ∧ TT ∧ LDK false 1 H x5 fun x6 =>
BINK .sub x1 x6 fun x7 =>
BINK .quo x7 (AVal.int .i64 2) fun x8 =>
Q x8 H
theorem start_eq (Q : AVal → Heap → Prop) (a0 a1 a2 : AVal) (H : Heap) : vs Try.prog lv 120 18 Try.f120.results.toList Q true 1000 [.sq (bodyOf Try.f120)] (entry [a0, a1, a2]) H = start_vc Q a0 a1 a2 H := by kernel_rfl
theorem start {Q : AVal → Heap → Prop} {a0 a1 a2 : AVal} {H : Heap} (h : start_vc Q a0 a1 a2 H) : ACalls Try.prog 120 [a0, a1, a2] H Q := acalls_vs (lv := lv) mixed Try.func120 rfl (by kernel_rfl) (by kernel_rfl) (start_eq Q a0 a1 a2 H ▸ h)
end impl_fromHeights_1

/-! impl.fromHeights$2 (slots: 0 i, 1 j, 3 i, 4 j) -/
namespace impl_fromHeights_2
def lv : List (Nat × List Nat) := []
def start_vc (Q : AVal → Heap → Prop) (a0 a1 a2 : AVal) (H : Heap) : Prop :=
TT ∧ TT ∧ TT ∧ LDK false 1 H a2 fun x1 =>
BINK .add a0 (AVal.int .i64 1) fun x2 =>
BINK .add a1 (AVal.int .i64 1) fun x3 =>
TT ∧ TT ∧ LDK false 1 H a2 fun x4 =>
BINK .add a1 (AVal.int .i64 1) fun x5 =>
TT ∧ TT ∧ LDK false 1 H a2 fun x6 =>
BINK .add a0 (AVal.int .i64 1) fun x7 =>
TT ∧ TT ∧ LDK false 1 H a2 fun x8 =>
CALLK Try.prog x1 [x2, x3] H fun x9 H10 =>
(TT ∧ TT ∧ LDK false 1 H10 a2 fun x11 =>
x11 = x8) ∧
(TT ∧ TT ∧ LDK false 1 H10 a2 fun x12 =>
x12 = x6) ∧
(TT ∧ TT ∧ LDK false 1 H10 a2 fun x13 =>
x13 = x4) ∧
CALLK Try.prog x4 [a0, x5] H10 fun x14 H15 =>
(TT ∧ TT ∧ LDK false 1 H15 a2 fun x16 =>
x16 = x8) ∧
(TT ∧ TT ∧ LDK false 1 H15 a2 fun x17 =>
x17 = x6) ∧
BINK .sub x9 x14 fun x18 =>
CALLK Try.prog x6 [x7, a1] H15 fun x19 H20 =>
(TT ∧ TT ∧ LDK false 1 H20 a2 fun x21 =>
x21 = x8) ∧
BINK .sub x18 x19 fun x22 =>
CALLK Try.prog x8 [a0, a1] H20 fun x23 H24 =>
BINK .add x22 x23 fun x25 =>
Q x25 H24
theorem start_eq (Q : AVal → Heap → Prop) (a0 a1 a2 : AVal) (H : Heap) : vs Try.prog lv 121 29 Try.f121.results.toList Q true 1000 [.sq (bodyOf Try.f121)] (entry [a0, a1, a2]) H = start_vc Q a0 a1 a2 H := by kernel_rfl
theorem start {Q : AVal → Heap → Prop} {a0 a1 a2 : AVal} {H : Heap} (h : start_vc Q a0 a1 a2 H) : ACalls Try.prog 121 [a0, a1, a2] H Q := acalls_vs (lv := lv) mixed Try.func121 rfl (by kernel_rfl) (by kernel_rfl) (start_eq Q a0 a1 a2 H ▸ h)
end impl_fromHeights_2


def hcAt (t : List (List Int)) (i j : Nat) : Int := (w64 ((i + j : Nat) - (t.getD i []).getD j 0)).tdiv 2
theorem half_in {n : Int} (h : R64 n) : R64 (n.tdiv 2) := by
  obtain ⟨h1, h2⟩ := h
  rcases Int.le_total 0 n with h0 | h0
  · rw [Int.tdiv_eq_ediv_of_nonneg h0]; omega
  · have : n = -(-n) := by omega
    rw [this, Int.neg_tdiv, Int.tdiv_eq_ediv_of_nonneg (by omega)]; omega
theorem hc_ok {t : List (List Int)} {v : AVal} {i j k g : Nat} (hv : IsTab v t) (hl : t.length ≤ 100000) (hs : isSquareB t = true) (hi : i < t.length) (hj : j < t.length) {H : Heap} (hg : hget H k = some (g, [v])) {a b : Int} (ha : a = i) (hb : b = j) : ACalls Try.prog 120 [I a, I b, .ptr k g 0] H fun r H' => r = I (hcAt t i j) ∧ H' = H := by
  subst ha; subst hb
  obtain ⟨r, hr⟩ := ex_get (l := t) (k := i) hi
  have hrl := sq_len hs (List.mem_of_getElem? hr)
  obtain ⟨x, hx⟩ := ex_get (l := r) (k := j) (by omega)
  apply impl_fromHeights_1.start
  unfold impl_fromHeights_1.start_vc
  repeat' (first
    | with_reducible refine rTT ?_
    | with_reducible refine rRFL ?_
    | with_reducible refine rLEN (by assumption) ?_
    | (with_reducible refine rIXk (by assumption) (by assumption) ?_; intro p hp)
    | (with_reducible refine rIX (by assumption) (by omega) (by omega) ?_; intro p a ha hp)
    | with_reducible refine rLDi (by assumption) ?_
    | (with_reducible refine rLD (by assumption) ?_; intro c hc)
    | with_reducible refine rADD (by omega) ?_
    | with_reducible refine rSUB (by omega) ?_
    | with_reducible refine rLSS ?_
    | with_reducible refine rLEQ ?_
    | with_reducible refine rGTR ?_
    | with_reducible refine rGEQ ?_
    | with_reducible refine rEQL ?_
    | with_reducible refine rNEQ ?_
    | with_reducible refine rNOT ?_
    | (with_reducible refine rBRK ?_ ?_ <;> intro hb)
    | (with_reducible refine rBRKn ?_ ?_ <;> intro hb)
    | (with_reducible refine rBRKnb ?_ ?_ <;> intro hb)
    | (with_reducible refine rBRKb ?_ ?_ <;> intro hb)
    | (with_reducible refine rSPL ?_ ?_ <;> intro hb)
    | (with_reducible refine rSPLn ?_ ?_ <;> intro hb)
    | (with_reducible refine rSPLnb ?_ ?_ <;> intro hb)
    | (with_reducible refine rSPLb ?_ ?_ <;> intro hb)
    | (exfalso; omega))
  refine rLDp hg ?_
  repeat' (first
    | with_reducible refine rTT ?_
    | with_reducible refine rRFL ?_
    | with_reducible refine rLEN (by assumption) ?_
    | (with_reducible refine rIXk (by assumption) (by assumption) ?_; intro p hp)
    | (with_reducible refine rIX (by assumption) (by omega) (by omega) ?_; intro p a ha hp)
    | with_reducible refine rLDi (by assumption) ?_
    | (with_reducible refine rLD (by assumption) ?_; intro c hc)
    | with_reducible refine rADD (by omega) ?_
    | with_reducible refine rSUB (by omega) ?_
    | with_reducible refine rLSS ?_
    | with_reducible refine rLEQ ?_
    | with_reducible refine rGTR ?_
    | with_reducible refine rGEQ ?_
    | with_reducible refine rEQL ?_
    | with_reducible refine rNEQ ?_
    | with_reducible refine rNOT ?_
    | (with_reducible refine rBRK ?_ ?_ <;> intro hb)
    | (with_reducible refine rBRKn ?_ ?_ <;> intro hb)
    | (with_reducible refine rBRKnb ?_ ?_ <;> intro hb)
    | (with_reducible refine rBRKb ?_ ?_ <;> intro hb)
    | (with_reducible refine rSPL ?_ ?_ <;> intro hb)
    | (with_reducible refine rSPLn ?_ ?_ <;> intro hb)
    | (with_reducible refine rSPLnb ?_ ?_ <;> intro hb)
    | (with_reducible refine rSPLb ?_ ?_ <;> intro hb)
    | (exfalso; omega))
  refine rSUBw ?_
  refine rQUO (by decide) (half_in (w64_range _)) ?_
  refine ⟨?_, rfl⟩
  simp [hcAt, List.getD, hr, hx]

def fromH (t : List (List Int)) (i j : Nat) : Int := w64 (w64 (w64 (hcAt t (i + 1) (j + 1) - hcAt t i (j + 1)) - hcAt t (i + 1) j) + hcAt t i j)
def fromHeightsF (t : List (List Int)) : List (List Int) := tabT (t.length - 1) (t.length - 1) (fromH t)
theorem fromHeights_ok {t : List (List Int)} {v : AVal} (hv : IsTab v t) (hl : t.length ≤ 100000) (h1 : 1 ≤ t.length) (hs : isSquareB t = true) {H : Heap} : ACalls Try.prog 67 [v] H fun r H' => IsTab r (fromHeightsF t) ∧ H' = H := by
  apply ACalls.freeze
  apply impl_fromHeights.start
  unfold impl_fromHeights.start_vc
  refine rBOX hv.one fun g => ?_
  refine rTT (rBOX rfl fun g' => ?_)
  refine rTT (rSTp (hget_new _ _ _) (by simp) rfl ?_)
  rw [hset_new]
  have hb1 : ∀ (H1 : Heap), Fresh (hnew (hnew H g [v]) g' [.fn 120 [] [.ptr H.length g 0]]) H1 → hget H1 H.length = some (g, [v]) := fun H1 hF => by
    rw [hF.old _ (by rw [hlen_new, hlen_new]; omega), hget_old _ _ (by rw [hlen_new]; omega), hget_new]
  have hb2 : ∀ (H1 : Heap), Fresh (hnew (hnew H g [v]) g' [.fn 120 [] [.ptr H.length g 0]]) H1 → hget H1 (hnew H g [v]).length = some (g', [.fn 120 [] [.ptr H.length g 0]]) := fun H1 hF => by
    rw [hF.old _ (by rw [hlen_new (hnew H g [v])]; omega), hget_new]
  refine rTT (rTT (rLDp (hb1 _ (Fresh.refl _)) ?_))
  repeat' (first
    | with_reducible refine rTT ?_
    | with_reducible refine rRFL ?_
    | with_reducible refine rLEN (by assumption) ?_
    | (with_reducible refine rIXk (by assumption) (by assumption) ?_; intro p hp)
    | (with_reducible refine rIX (by assumption) (by omega) (by omega) ?_; intro p a ha hp)
    | with_reducible refine rLDi (by assumption) ?_
    | (with_reducible refine rLD (by assumption) ?_; intro c hc)
    | with_reducible refine rADD (by omega) ?_
    | with_reducible refine rSUB (by omega) ?_
    | with_reducible refine rLSS ?_
    | with_reducible refine rLEQ ?_
    | with_reducible refine rGTR ?_
    | with_reducible refine rGEQ ?_
    | with_reducible refine rEQL ?_
    | with_reducible refine rNEQ ?_
    | with_reducible refine rNOT ?_
    | (with_reducible refine rBRK ?_ ?_ <;> intro hb)
    | (with_reducible refine rBRKn ?_ ?_ <;> intro hb)
    | (with_reducible refine rBRKnb ?_ ?_ <;> intro hb)
    | (with_reducible refine rBRKb ?_ ?_ <;> intro hb)
    | (with_reducible refine rSPL ?_ ?_ <;> intro hb)
    | (with_reducible refine rSPLn ?_ ?_ <;> intro hb)
    | (with_reducible refine rSPLnb ?_ ?_ <;> intro hb)
    | (with_reducible refine rSPLb ?_ ?_ <;> intro hb)
    | (exfalso; omega))
  refine rLDp (hb1 _ (Fresh.refl _)) ?_
  repeat' (first
    | with_reducible refine rTT ?_
    | with_reducible refine rRFL ?_
    | with_reducible refine rLEN (by assumption) ?_
    | (with_reducible refine rIXk (by assumption) (by assumption) ?_; intro p hp)
    | (with_reducible refine rIX (by assumption) (by omega) (by omega) ?_; intro p a ha hp)
    | with_reducible refine rLDi (by assumption) ?_
    | (with_reducible refine rLD (by assumption) ?_; intro c hc)
    | with_reducible refine rADD (by omega) ?_
    | with_reducible refine rSUB (by omega) ?_
    | with_reducible refine rLSS ?_
    | with_reducible refine rLEQ ?_
    | with_reducible refine rGTR ?_
    | with_reducible refine rGEQ ?_
    | with_reducible refine rEQL ?_
    | with_reducible refine rNEQ ?_
    | with_reducible refine rNOT ?_
    | (with_reducible refine rBRK ?_ ?_ <;> intro hb)
    | (with_reducible refine rBRKn ?_ ?_ <;> intro hb)
    | (with_reducible refine rBRKnb ?_ ?_ <;> intro hb)
    | (with_reducible refine rBRKb ?_ ?_ <;> intro hb)
    | (with_reducible refine rSPL ?_ ?_ <;> intro hb)
    | (with_reducible refine rSPLn ?_ ?_ <;> intro hb)
    | (with_reducible refine rSPLnb ?_ ?_ <;> intro hb)
    | (with_reducible refine rSPLb ?_ ?_ <;> intro hb)
    | (exfalso; omega))
  have e : ((t.length : Int) - 1) = ((t.length - 1 : Nat) : Int) := by omega
  rw [e]
  refine ACalls.mono (table_ok (F := fromH t) (by omega) (by omega) ?_) ?_
  · intro i j hi hj H1 hF
    refine rCALL ?_
    show ACalls Try.prog 121 [I i, I j, .ptr (hnew H g [v]).length g' 0] _ _
    have hp := hb2 H1 hF
    have pend : (TT ∧ TT ∧ LDK false 1 H1 (.ptr (hnew H g [v]).length g' 0) fun x => x = .fn 120 [] [.ptr H.length g 0]) := ⟨rfl, rfl, rLDp hp rfl⟩
    apply impl_fromHeights_2.start
    unfold impl_fromHeights_2.start_vc
    repeat' (first | with_reducible refine rTT ?_ | refine rLDp hp ?_ | with_reducible refine rADD (by omega) ?_)
    refine CALLK_mono ?_ (rCALL (hc_ok (i := i + 1) (j := j + 1) hv hl hs (by omega) (by omega) (hb1 H1 hF) (by omega) (by omega)))
    rintro r H2 ⟨rfl, rfl⟩
    refine ⟨pend, pend, pend, ?_⟩
    refine CALLK_mono ?_ (rCALL (hc_ok (i := i) (j := j + 1) hv hl hs (by omega) (by omega) (hb1 H2 hF) (by omega) (by omega)))
    rintro r H3 ⟨rfl, rfl⟩
    refine ⟨pend, pend, ?_⟩
    refine rSUBw ?_
    refine CALLK_mono ?_ (rCALL (hc_ok (i := i + 1) (j := j) hv hl hs (by omega) (by omega) (hb1 H3 hF) (by omega) (by omega)))
    rintro r H4 ⟨rfl, rfl⟩
    refine ⟨pend, ?_⟩
    refine rSUBw ?_
    refine CALLK_mono ?_ (rCALL (hc_ok (i := i) (j := j) hv hl hs (by omega) (by omega) (hb1 H4 hF) (by omega) (by omega)))
    rintro r H5 ⟨rfl, rfl⟩
    refine rADDw ?_
    exact ⟨rfl, rfl⟩
  · rintro r H1 ⟨h2, h3⟩
    have hsub : HSub H H1 := ((hsub_new _ _ _).trans (hsub_new _ _ _)).trans h3.sub
    obtain ⟨v', q1, q2⟩ := h2.pur (Hf := nw H H1) fun i hi => nw_above H H1 (by rw [hlen_new, hlen_new] at hi; omega)
    exact ⟨nw H H1, H, 2, v', nw_split hsub, q1, q2, rfl⟩

end Go.Proofs.Ytccioplhchmilaa.AL
