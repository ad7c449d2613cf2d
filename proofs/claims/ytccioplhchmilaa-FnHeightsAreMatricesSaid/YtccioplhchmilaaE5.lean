/-
  Contracts: tables by closures, mirrors, the least and the greatest matrix.
-/
import Derived.Test.YtccioplhchmilaaE4
set_option linter.unusedVariables false
set_option maxRecDepth 100000
namespace Go.Proofs.Ytccioplhchmilaa.AL
open Go Go.Proofs

/-! impl.mirrored (slots: 0 m, 1 m, 3 n) -/
namespace impl_mirrored
def lv : List (Nat × List Nat) := []
def start_vc (Q : AVal → Heap → Prop) (a0 : AVal) (H : Heap) : Prop :=
BOXK a0 H fun x1 H2 =>
TT ∧ TT ∧ LDK false 1 H2 x1 fun x3 =>
LENK x3 fun x4 =>
TT ∧ BOXK (AVal.int .i64 0) H2 fun x5 H6 =>
TT ∧ STK 1 H6 x5 x4 fun H7 =>
TT ∧ TT ∧ LDK false 1 H7 x5 fun x8 =>
TT ∧ TT ∧ LDK false 1 H7 x5 fun x9 =>
ACalls Try.prog 107 [x8, x9, (AVal.fn 131 [] [x1, x5])] H7 fun x10 H11 =>
Q x10 H11
theorem start_eq (Q : AVal → Heap → Prop) (a0 : AVal) (H : Heap) : vs Try.prog lv 91 10 Try.f91.results.toList Q true 1000 [.sq (bodyOf Try.f91)] (entry [a0]) H = start_vc Q a0 H := by kernel_rfl
theorem start {Q : AVal → Heap → Prop} {a0 : AVal} {H : Heap} (h : start_vc Q a0 H) : ACalls Try.prog 91 [a0] H Q := acalls_vs (lv := lv) mixed Try.func91 rfl (by kernel_rfl) (by kernel_rfl) (start_eq Q a0 H ▸ h)
end impl_mirrored

/-! impl.mirrored$1 (slots: 0 i, 1 j, 4 i, 5 j) -/
namespace impl_mirrored_1
def lv : List (Nat × List Nat) := []
def start_vc (Q : AVal → Heap → Prop) (a0 a1 a2 a3 : AVal) (H : Heap) : Prop :=
TT ∧ TT ∧ TT ∧ LDK false 1 H a2 fun x1 =>
TT ∧ IXK 1 x1 a0 fun x2 =>
TT ∧ TT ∧ LDK false 1 H x2 fun x3 =>
TT ∧ TT ∧ LDK false 1 H a3 fun x4 =>
BINK .sub x4 (AVal.int .i64 1) fun x5 =>
BINK .sub x5 a1 fun x6 =>
TT ∧ IXK 1 x3 x6 fun x7 =>
TT ∧ TT ∧ LDK false 1 H x7 fun x8 =>
Q x8 H
theorem start_eq (Q : AVal → Heap → Prop) (a0 a1 a2 a3 : AVal) (H : Heap) : vs Try.prog lv 131 17 Try.f131.results.toList Q true 1000 [.sq (bodyOf Try.f131)] (entry [a0, a1, a2, a3]) H = start_vc Q a0 a1 a2 a3 H := by kernel_rfl
theorem start {Q : AVal → Heap → Prop} {a0 a1 a2 a3 : AVal} {H : Heap} (h : start_vc Q a0 a1 a2 a3 H) : ACalls Try.prog 131 [a0, a1, a2, a3] H Q := acalls_vs (lv := lv) mixed Try.func131 rfl (by kernel_rfl) (by kernel_rfl) (start_eq Q a0 a1 a2 a3 H ▸ h)
end impl_mirrored_1

/-! impl.least (slots: 0 n, 1 n) -/
namespace impl_least
def lv : List (Nat × List Nat) := []
def start_vc (Q : AVal → Heap → Prop) (a0 : AVal) (H : Heap) : Prop :=
ACalls Try.prog 107 [a0, a0, (AVal.fn 129 [] [])] H fun x1 H2 =>
Q x1 H2
theorem start_eq (Q : AVal → Heap → Prop) (a0 : AVal) (H : Heap) : vs Try.prog lv 90 6 Try.f90.results.toList Q true 1000 [.sq (bodyOf Try.f90)] (entry [a0]) H = start_vc Q a0 H := by kernel_rfl
theorem start {Q : AVal → Heap → Prop} {a0 : AVal} {H : Heap} (h : start_vc Q a0 H) : ACalls Try.prog 90 [a0] H Q := acalls_vs (lv := lv) mixed Try.func90 rfl (by kernel_rfl) (by kernel_rfl) (start_eq Q a0 H ▸ h)
end impl_least

/-! impl.least$1 (slots: 0 i, 1 j, 2 i, 3 j) -/
namespace impl_least_1
def lv : List (Nat × List Nat) := []
def start_vc (Q : AVal → Heap → Prop) (a0 a1 : AVal) (H : Heap) : Prop :=
BINK .eql a0 a1 fun x1 =>
ACalls Try.prog 130 [x1] H fun x2 H3 =>
Q x2 H3
theorem start_eq (Q : AVal → Heap → Prop) (a0 a1 : AVal) (H : Heap) : vs Try.prog lv 129 9 Try.f129.results.toList Q true 1000 [.sq (bodyOf Try.f129)] (entry [a0, a1]) H = start_vc Q a0 a1 H := by kernel_rfl
theorem start {Q : AVal → Heap → Prop} {a0 a1 : AVal} {H : Heap} (h : start_vc Q a0 a1 H) : ACalls Try.prog 129 [a0, a1] H Q := acalls_vs (lv := lv) mixed Try.func129 rfl (by kernel_rfl) (by kernel_rfl) (start_eq Q a0 a1 H ▸ h)
end impl_least_1

/-! impl.LeastSigns (slots: 0 n, 1 n) -/
namespace impl_LeastSigns
def lv : List (Nat × List Nat) := []
def start_vc (Q : AVal → Heap → Prop) (a0 : AVal) (H : Heap) : Prop :=
ACalls Try.prog 80 [a0] H fun x1 H2 =>
NOTK x1 fun x3 =>
BRK x3 (Q (AVal.tup [AVal.nilS, (AVal.bool false)]) H2) (ACalls Try.prog 90 [a0] H2 fun x4 H5 =>
Q (AVal.tup [x4, (AVal.bool true)]) H5)
theorem start_eq (Q : AVal → Heap → Prop) (a0 : AVal) (H : Heap) : vs Try.prog lv 33 9 Try.f33.results.toList Q true 1000 [.sq (bodyOf Try.f33)] (entry [a0]) H = start_vc Q a0 H := by kernel_rfl
theorem start {Q : AVal → Heap → Prop} {a0 : AVal} {H : Heap} (h : start_vc Q a0 H) : ACalls Try.prog 33 [a0] H Q := acalls_vs (lv := lv) mixed Try.func33 rfl (by kernel_rfl) (by kernel_rfl) (start_eq Q a0 H ▸ h)
end impl_LeastSigns

/-! impl.GreatestSigns (slots: 0 n, 1 n) -/
namespace impl_GreatestSigns
def lv : List (Nat × List Nat) := []
def start_vc (Q : AVal → Heap → Prop) (a0 : AVal) (H : Heap) : Prop :=
ACalls Try.prog 80 [a0] H fun x1 H2 =>
NOTK x1 fun x3 =>
BRK x3 (Q (AVal.tup [AVal.nilS, (AVal.bool false)]) H2) (ACalls Try.prog 90 [a0] H2 fun x4 H5 =>
ACalls Try.prog 91 [x4] H5 fun x6 H7 =>
Q (AVal.tup [x6, (AVal.bool true)]) H7)
theorem start_eq (Q : AVal → Heap → Prop) (a0 : AVal) (H : Heap) : vs Try.prog lv 34 10 Try.f34.results.toList Q true 1000 [.sq (bodyOf Try.f34)] (entry [a0]) H = start_vc Q a0 H := by kernel_rfl
theorem start {Q : AVal → Heap → Prop} {a0 : AVal} {H : Heap} (h : start_vc Q a0 H) : ACalls Try.prog 34 [a0] H Q := acalls_vs (lv := lv) mixed Try.func34 rfl (by kernel_rfl) (by kernel_rfl) (start_eq Q a0 H ▸ h)
end impl_GreatestSigns

/-! impl.MirrorMatrix (slots: 0 m, 1 m) -/
namespace impl_MirrorMatrix
def lv : List (Nat × List Nat) := []
def start_vc (Q : AVal → Heap → Prop) (a0 : AVal) (H : Heap) : Prop :=
ACalls Try.prog 76 [a0, (AVal.fn 91 [] [])] H fun x1 H2 =>
EXTK x1 0 fun x3 =>
EXTK x1 1 fun x4 =>
Q (AVal.tup [x3, x4]) H2
theorem start_eq (Q : AVal → Heap → Prop) (a0 : AVal) (H : Heap) : vs Try.prog lv 89 8 Try.f89.results.toList Q true 1000 [.sq (bodyOf Try.f89)] (entry [a0]) H = start_vc Q a0 H := by kernel_rfl
theorem start {Q : AVal → Heap → Prop} {a0 : AVal} {H : Heap} (h : start_vc Q a0 H) : ACalls Try.prog 89 [a0] H Q := acalls_vs (lv := lv) mixed Try.func89 rfl (by kernel_rfl) (by kernel_rfl) (start_eq Q a0 H ▸ h)
end impl_MirrorMatrix

/-! impl.DualOf (slots: 0 m, 1 m) -/
namespace impl_DualOf
def lv : List (Nat × List Nat) := []
def start_vc (Q : AVal → Heap → Prop) (a0 : AVal) (H : Heap) : Prop :=
ACalls Try.prog 89 [a0] H fun x1 H2 =>
EXTK x1 0 fun x3 =>
EXTK x1 1 fun x4 =>
Q (AVal.tup [x3, x4]) H2
theorem start_eq (Q : AVal → Heap → Prop) (a0 : AVal) (H : Heap) : vs Try.prog lv 32 8 Try.f32.results.toList Q true 1000 [.sq (bodyOf Try.f32)] (entry [a0]) H = start_vc Q a0 H := by kernel_rfl
theorem start {Q : AVal → Heap → Prop} {a0 : AVal} {H : Heap} (h : start_vc Q a0 H) : ACalls Try.prog 32 [a0] H Q := acalls_vs (lv := lv) mixed Try.func32 rfl (by kernel_rfl) (by kernel_rfl) (start_eq Q a0 H ▸ h)
end impl_DualOf


theorem table_pure {rr c : Nat} {F : Nat → Nat → Int} {f : AVal} {H Hb : Heap} {T : List (List Int)} (hT : tabT rr c F = T) (hsub : HSub H Hb) (hl : H.length ≤ Hb.length) (hc : c ≤ 1000000) (hr : rr ≤ 1000000)
    (hf : ∀ i j, i < rr → j < c → ∀ H1, Fresh Hb H1 → CALLK Try.prog f [I (i : Nat), I (j : Nat)] H1 fun v H2 => v = I (F i j) ∧ H2 = H1) :
    ACalls Try.prog 107 [I rr, I c, f] Hb fun r H1 => HSub H H1 ∧ ∃ k r', Pur (nw H H1) k r r' ∧ (IsTab r' T ∧ H = H) := by
  subst hT
  refine ACalls.mono (table_ok hc hr hf) ?_
  rintro r H1 ⟨h1, h2⟩
  obtain ⟨v', q1, q2⟩ := h1.pur (Hf := nw H H1) fun i hi => nw_above H H1 (by omega)
  exact ⟨hsub.trans h2.sub, 2, v', q1, q2, rfl⟩
/-- What was there is there. -/
theorem Fresh.get {H H1 : Heap} (h : Fresh H H1) {i g : Nat} {cs : List AVal} (hg : hget H i = some (g, cs)) : hget H1 i = some (g, cs) := h.sub i g cs hg
theorem hget_new' {H : Heap} {i g : Nat} {cs : List AVal} (g' : Nat) (ds : List AVal) (h : hget H i = some (g, cs)) : hget (hnew H g' ds) i = some (g, cs) := by
  rw [hget_old _ _ (hlt_of_get h)]; exact h

section
variable {t : List (List Int)} {v : AVal} {H : Heap}
theorem bit_ok {b : Bool} : ACalls Try.prog 130 [.bool b] H fun r H' => r = I (if b = true then 1 else 0) ∧ H' = H := by
  apply impl_bit.start
  unfold impl_bit.start_vc
  refine rBRKb (fun h => ?_) (fun h => ?_) <;> subst h <;> exact ⟨rfl, rfl⟩
theorem mirrored_ok (hv : IsTab v t) (hl : t.length ≤ 100000) (hs : isSquareB t = true) : ACalls Try.prog 91 [v] H fun r H' => IsTab r (mirF t) ∧ H' = H := by
  apply ACalls.pure
  apply impl_mirrored.start
  unfold impl_mirrored.start_vc
  refine rBOX hv.one fun g => ?_
  have h1 := hget_new H g [v]
  generalize hH1 : hnew H g [v] = H1 at h1 ⊢
  repeat' (first
    | with_reducible refine rTT ?_
    | (refine rLDp h1 ?_)
    | with_reducible refine rRFL ?_
    | with_reducible refine rLEN (by assumption) ?_
    | (with_reducible refine rIXk (by assumption) (by assumption) ?_; intro p hp)
    | (with_reducible refine rIX (by assumption) (by omega) (by omega) ?_; intro p a ha hp)
    | with_reducible refine rLDi (by assumption) ?_
    | (with_reducible refine rLD (by assumption) ?_; intro c hc)
    | with_reducible refine rADD (by omega) ?_
    | with_reducible refine rSUB (by omega) ?_
    | with_reducible refine rLSS ?_
    | with_reducible refine rLEQ ?_
    | with_reducible refine rGTR ?_
    | with_reducible refine rGEQ ?_
    | with_reducible refine rEQL ?_
    | with_reducible refine rNEQ ?_
    | with_reducible refine rNOT ?_
    | (with_reducible refine rBRK ?_ ?_ <;> intro hb)
    | (with_reducible refine rBRKn ?_ ?_ <;> intro hb)
    | (with_reducible refine rBRKnb ?_ ?_ <;> intro hb)
    | (with_reducible refine rBRKb ?_ ?_ <;> intro hb)
    | (with_reducible refine rSPL ?_ ?_ <;> intro hb)
    | (with_reducible refine rSPLn ?_ ?_ <;> intro hb)
    | (with_reducible refine rSPLnb ?_ ?_ <;> intro hb)
    | (with_reducible refine rSPLb ?_ ?_ <;> intro hb)
    | (exfalso; omega))
  refine rBOX rfl fun g2 => ?_
  repeat' (first
    | with_reducible refine rTT ?_
    | with_reducible refine rRFL ?_
    | with_reducible refine rLEN (by assumption) ?_
    | (with_reducible refine rIXk (by assumption) (by assumption) ?_; intro p hp)
    | (with_reducible refine rIX (by assumption) (by omega) (by omega) ?_; intro p a ha hp)
    | with_reducible refine rLDi (by assumption) ?_
    | (with_reducible refine rLD (by assumption) ?_; intro c hc)
    | with_reducible refine rADD (by omega) ?_
    | with_reducible refine rSUB (by omega) ?_
    | with_reducible refine rLSS ?_
    | with_reducible refine rLEQ ?_
    | with_reducible refine rGTR ?_
    | with_reducible refine rGEQ ?_
    | with_reducible refine rEQL ?_
    | with_reducible refine rNEQ ?_
    | with_reducible refine rNOT ?_
    | (with_reducible refine rBRK ?_ ?_ <;> intro hb)
    | (with_reducible refine rBRKn ?_ ?_ <;> intro hb)
    | (with_reducible refine rBRKnb ?_ ?_ <;> intro hb)
    | (with_reducible refine rBRKb ?_ ?_ <;> intro hb)
    | (with_reducible refine rSPL ?_ ?_ <;> intro hb)
    | (with_reducible refine rSPLn ?_ ?_ <;> intro hb)
    | (with_reducible refine rSPLnb ?_ ?_ <;> intro hb)
    | (with_reducible refine rSPLb ?_ ?_ <;> intro hb)
    | (exfalso; omega))
  refine rSTp (hget_new _ _ _) (by simp) rfl ?_
  rw [hset_new]
  have h2 := hget_new H1 g2 ([I 0].set 0 (I t.length))
  have h3 := hget_new' g2 ([I 0].set 0 (I t.length)) h1
  have hL : H1.length = H.length + 1 := by rw [← hH1, hlen_new]
  have hS : HSub H (hnew H1 g2 ([I 0].set 0 (I t.length))) := by rw [← hH1]; exact (hsub_new _ _ _).trans (hsub_new _ _ _)
  generalize hH2 : hnew H1 g2 ([I 0].set 0 (I t.length)) = H2 at h2 h3 hS ⊢
  have hL2 : H2.length = H.length + 2 := by rw [← hH2, hlen_new, hL]
  have h2 : hget H2 H1.length = some (g2, [I t.length]) := h2
  repeat' (first
    | with_reducible refine rTT ?_
    | (refine rLDp h2 ?_)
    | with_reducible refine rRFL ?_
    | with_reducible refine rLEN (by assumption) ?_
    | (with_reducible refine rIXk (by assumption) (by assumption) ?_; intro p hp)
    | (with_reducible refine rIX (by assumption) (by omega) (by omega) ?_; intro p a ha hp)
    | with_reducible refine rLDi (by assumption) ?_
    | (with_reducible refine rLD (by assumption) ?_; intro c hc)
    | with_reducible refine rADD (by omega) ?_
    | with_reducible refine rSUB (by omega) ?_
    | with_reducible refine rLSS ?_
    | with_reducible refine rLEQ ?_
    | with_reducible refine rGTR ?_
    | with_reducible refine rGEQ ?_
    | with_reducible refine rEQL ?_
    | with_reducible refine rNEQ ?_
    | with_reducible refine rNOT ?_
    | (with_reducible refine rBRK ?_ ?_ <;> intro hb)
    | (with_reducible refine rBRKn ?_ ?_ <;> intro hb)
    | (with_reducible refine rBRKnb ?_ ?_ <;> intro hb)
    | (with_reducible refine rBRKb ?_ ?_ <;> intro hb)
    | (with_reducible refine rSPL ?_ ?_ <;> intro hb)
    | (with_reducible refine rSPLn ?_ ?_ <;> intro hb)
    | (with_reducible refine rSPLnb ?_ ?_ <;> intro hb)
    | (with_reducible refine rSPLb ?_ ?_ <;> intro hb)
    | (exfalso; omega))
  refine table_pure (F := fun i j => getM t i (t.length - 1 - j)) rfl hS (by omega) (by omega) (by omega) (fun i j hi hj H3 hF => rCALL ?_)
  show ACalls Try.prog 131 [I i, I j, .ptr H.length g 0, .ptr H1.length g2 0] _ _
  obtain ⟨r, hr⟩ := ex_get (l := t) (k := i) hi
  have hrl := sq_len hs (getElem_mem' hr)
  apply impl_mirrored_1.start
  unfold impl_mirrored_1.start_vc
  repeat' (first
    | with_reducible refine rTT ?_
    | (refine rLDp (hF.get h3) ?_)
    | (refine rLDp (hF.get h2) ?_)
    | with_reducible refine rRFL ?_
    | with_reducible refine rLEN (by assumption) ?_
    | (with_reducible refine rIXk (by assumption) (by assumption) ?_; intro p hp)
    | (with_reducible refine rIX (by assumption) (by omega) (by omega) ?_; intro p a ha hp)
    | with_reducible refine rLDi (by assumption) ?_
    | (with_reducible refine rLD (by assumption) ?_; intro c hc)
    | with_reducible refine rADD (by omega) ?_
    | with_reducible refine rSUB (by omega) ?_
    | with_reducible refine rLSS ?_
    | with_reducible refine rLEQ ?_
    | with_reducible refine rGTR ?_
    | with_reducible refine rGEQ ?_
    | with_reducible refine rEQL ?_
    | with_reducible refine rNEQ ?_
    | with_reducible refine rNOT ?_
    | (with_reducible refine rBRK ?_ ?_ <;> intro hb)
    | (with_reducible refine rBRKn ?_ ?_ <;> intro hb)
    | (with_reducible refine rBRKnb ?_ ?_ <;> intro hb)
    | (with_reducible refine rBRKb ?_ ?_ <;> intro hb)
    | (with_reducible refine rSPL ?_ ?_ <;> intro hb)
    | (with_reducible refine rSPLn ?_ ?_ <;> intro hb)
    | (with_reducible refine rSPLnb ?_ ?_ <;> intro hb)
    | (with_reducible refine rSPLb ?_ ?_ <;> intro hb)
    | (exfalso; omega))
  refine ⟨?_, rfl⟩
  rw [show ((t.length : Int) - 1 - j).toNat = t.length - 1 - j by omega] at ha
  simp [getM, List.getD, hr, ha]
theorem least_ok {n : Nat} (hn : n ≤ 100000) : ACalls Try.prog 90 [I n] H fun r H' => IsTab r (leastF n) ∧ H' = H := by
  apply ACalls.pure
  apply impl_least.start
  unfold impl_least.start_vc
  refine table_pure (F := fun i j => if i = j then 1 else 0) rfl (HSub.refl H) (Nat.le_refl _) (by omega) (by omega) (fun i j hi hj H3 hF => rCALL ?_)
  show ACalls Try.prog 129 [I i, I j] _ _
  apply impl_least_1.start
  unfold impl_least_1.start_vc
  repeat' (first
    | with_reducible refine rTT ?_
    | (with_reducible refine ACalls.mono (bit_ok) ?_; rintro r H' ⟨rfl, rfl⟩)
    | with_reducible refine rRFL ?_
    | with_reducible refine rLEN (by assumption) ?_
    | (with_reducible refine rIXk (by assumption) (by assumption) ?_; intro p hp)
    | (with_reducible refine rIX (by assumption) (by omega) (by omega) ?_; intro p a ha hp)
    | with_reducible refine rLDi (by assumption) ?_
    | (with_reducible refine rLD (by assumption) ?_; intro c hc)
    | with_reducible refine rADD (by omega) ?_
    | with_reducible refine rSUB (by omega) ?_
    | with_reducible refine rLSS ?_
    | with_reducible refine rLEQ ?_
    | with_reducible refine rGTR ?_
    | with_reducible refine rGEQ ?_
    | with_reducible refine rEQL ?_
    | with_reducible refine rNEQ ?_
    | with_reducible refine rNOT ?_
    | (with_reducible refine rBRK ?_ ?_ <;> intro hb)
    | (with_reducible refine rBRKn ?_ ?_ <;> intro hb)
    | (with_reducible refine rBRKnb ?_ ?_ <;> intro hb)
    | (with_reducible refine rBRKb ?_ ?_ <;> intro hb)
    | (with_reducible refine rSPL ?_ ?_ <;> intro hb)
    | (with_reducible refine rSPLn ?_ ?_ <;> intro hb)
    | (with_reducible refine rSPLnb ?_ ?_ <;> intro hb)
    | (with_reducible refine rSPLb ?_ ?_ <;> intro hb)
    | (exfalso; omega))
  refine ⟨?_, rfl⟩
  congr 1
  simp only [decide_eq_true_eq]
  split <;> split <;> omega
theorem leastSigns_ok {n : Int} : ACalls Try.prog 33 [I n] H fun r H' => TabOk (decide (1 ≤ n ∧ n ≤ 6)) (leastF n.toNat) r ∧ H' = H := by
  apply impl_LeastSigns.start
  unfold impl_LeastSigns.start_vc
  repeat' (first
    | with_reducible refine rTT ?_
    | (with_reducible refine ACalls.mono (isSide_ok) ?_; rintro r H' ⟨rfl, rfl⟩)
    | with_reducible refine rRFL ?_
    | with_reducible refine rLEN (by assumption) ?_
    | (with_reducible refine rIXk (by assumption) (by assumption) ?_; intro p hp)
    | (with_reducible refine rIX (by assumption) (by omega) (by omega) ?_; intro p a ha hp)
    | with_reducible refine rLDi (by assumption) ?_
    | (with_reducible refine rLD (by assumption) ?_; intro c hc)
    | with_reducible refine rADD (by omega) ?_
    | with_reducible refine rSUB (by omega) ?_
    | with_reducible refine rLSS ?_
    | with_reducible refine rLEQ ?_
    | with_reducible refine rGTR ?_
    | with_reducible refine rGEQ ?_
    | with_reducible refine rEQL ?_
    | with_reducible refine rNEQ ?_
    | with_reducible refine rNOT ?_
    | (with_reducible refine rBRK ?_ ?_ <;> intro hb)
    | (with_reducible refine rBRKn ?_ ?_ <;> intro hb)
    | (with_reducible refine rBRKnb ?_ ?_ <;> intro hb)
    | (with_reducible refine rBRKb ?_ ?_ <;> intro hb)
    | (with_reducible refine rSPL ?_ ?_ <;> intro hb)
    | (with_reducible refine rSPLn ?_ ?_ <;> intro hb)
    | (with_reducible refine rSPLnb ?_ ?_ <;> intro hb)
    | (with_reducible refine rSPLb ?_ ?_ <;> intro hb)
    | (exfalso; omega))
  · rw [decide_eq_false hb]; exact ⟨tabOk_no, rfl⟩
  · have e : n = (n.toNat : Int) := by omega
    rw [e, Int.toNat_natCast]
    refine ACalls.mono (least_ok (by omega)) ?_
    rintro r H1 ⟨h1, rfl⟩
    rw [decide_eq_true (by omega)]
    exact ⟨⟨_, rfl, h1⟩, rfl⟩
theorem leastF_sq (n : Nat) : isSquareB (leastF n) = true := by
  simp only [isSquareB, List.all_eq_true, decide_eq_true_eq, leastF, tabT_len]
  exact tabT_sq
theorem greatestSigns_ok {n : Int} : ACalls Try.prog 34 [I n] H fun r H' => TabOk (decide (1 ≤ n ∧ n ≤ 6)) (mirF (leastF n.toNat)) r ∧ H' = H := by
  apply impl_GreatestSigns.start
  unfold impl_GreatestSigns.start_vc
  repeat' (first
    | with_reducible refine rTT ?_
    | (with_reducible refine ACalls.mono (isSide_ok) ?_; rintro r H' ⟨rfl, rfl⟩)
    | with_reducible refine rRFL ?_
    | with_reducible refine rLEN (by assumption) ?_
    | (with_reducible refine rIXk (by assumption) (by assumption) ?_; intro p hp)
    | (with_reducible refine rIX (by assumption) (by omega) (by omega) ?_; intro p a ha hp)
    | with_reducible refine rLDi (by assumption) ?_
    | (with_reducible refine rLD (by assumption) ?_; intro c hc)
    | with_reducible refine rADD (by omega) ?_
    | with_reducible refine rSUB (by omega) ?_
    | with_reducible refine rLSS ?_
    | with_reducible refine rLEQ ?_
    | with_reducible refine rGTR ?_
    | with_reducible refine rGEQ ?_
    | with_reducible refine rEQL ?_
    | with_reducible refine rNEQ ?_
    | with_reducible refine rNOT ?_
    | (with_reducible refine rBRK ?_ ?_ <;> intro hb)
    | (with_reducible refine rBRKn ?_ ?_ <;> intro hb)
    | (with_reducible refine rBRKnb ?_ ?_ <;> intro hb)
    | (with_reducible refine rBRKb ?_ ?_ <;> intro hb)
    | (with_reducible refine rSPL ?_ ?_ <;> intro hb)
    | (with_reducible refine rSPLn ?_ ?_ <;> intro hb)
    | (with_reducible refine rSPLnb ?_ ?_ <;> intro hb)
    | (with_reducible refine rSPLb ?_ ?_ <;> intro hb)
    | (exfalso; omega))
  · rw [decide_eq_false hb]; exact ⟨tabOk_no, rfl⟩
  · have e : n = (n.toNat : Int) := by omega
    rw [e, Int.toNat_natCast]
    refine ACalls.mono (least_ok (by omega)) ?_
    rintro r H1 ⟨h1, rfl⟩
    refine ACalls.mono (mirrored_ok h1 (by rw [leastF, tabT_len]; omega) (leastF_sq _)) ?_
    rintro r2 H1 ⟨h2, rfl⟩
    rw [decide_eq_true (by omega)]
    exact ⟨⟨_, rfl, h2⟩, rfl⟩
theorem mirrorMatrix_ok (hv : IsTab v t) (hl : t.length ≤ 100000) : ACalls Try.prog 89 [v] H fun r H' => TabOk (goodB t) (mirF t) r ∧ H' = H := by
  apply impl_MirrorMatrix.start
  unfold impl_MirrorMatrix.start_vc
  apply impl_changed.start
  unfold impl_changed.start_vc
  refine ACalls.mono (isSign_ok hv (by omega)) ?_
  rintro r H1 ⟨rfl, rfl⟩
  repeat' (first
    | with_reducible refine rTT ?_
    | with_reducible refine rRFL ?_
    | with_reducible refine rLEN (by assumption) ?_
    | (with_reducible refine rIXk (by assumption) (by assumption) ?_; intro p hp)
    | (with_reducible refine rIX (by assumption) (by omega) (by omega) ?_; intro p a ha hp)
    | with_reducible refine rLDi (by assumption) ?_
    | (with_reducible refine rLD (by assumption) ?_; intro c hc)
    | with_reducible refine rADD (by omega) ?_
    | with_reducible refine rSUB (by omega) ?_
    | with_reducible refine rLSS ?_
    | with_reducible refine rLEQ ?_
    | with_reducible refine rGTR ?_
    | with_reducible refine rGEQ ?_
    | with_reducible refine rEQL ?_
    | with_reducible refine rNEQ ?_
    | with_reducible refine rNOT ?_
    | (with_reducible refine rBRK ?_ ?_ <;> intro hb)
    | (with_reducible refine rBRKn ?_ ?_ <;> intro hb)
    | (with_reducible refine rBRKnb ?_ ?_ <;> intro hb)
    | (with_reducible refine rBRKb ?_ ?_ <;> intro hb)
    | (with_reducible refine rSPL ?_ ?_ <;> intro hb)
    | (with_reducible refine rSPLn ?_ ?_ <;> intro hb)
    | (with_reducible refine rSPLnb ?_ ?_ <;> intro hb)
    | (with_reducible refine rSPLb ?_ ?_ <;> intro hb)
    | (exfalso; omega))
  · exact ⟨_, rfl, _, rfl, by rw [hb]; exact tabOk_no, rfl⟩
  · refine rCALL ?_
    refine ACalls.mono (mirrored_ok hv hl (goodB_sq hb)) ?_
    rintro r H2 ⟨h1, rfl⟩
    exact ⟨_, rfl, _, rfl, by rw [hb]; exact ⟨_, rfl, h1⟩, rfl⟩
theorem dualOf_ok (hv : IsTab v t) (hl : t.length ≤ 100000) : ACalls Try.prog 32 [v] H fun r H' => TabOk (goodB t) (mirF t) r ∧ H' = H := by
  apply impl_DualOf.start
  unfold impl_DualOf.start_vc
  refine ACalls.mono (mirrorMatrix_ok hv hl) ?_
  rintro r H1 ⟨⟨h, rfl, h1⟩, rfl⟩
  exact ⟨_, rfl, _, rfl, ⟨_, rfl, h1⟩, rfl⟩
end

end Go.Proofs.Ytccioplhchmilaa.AL
