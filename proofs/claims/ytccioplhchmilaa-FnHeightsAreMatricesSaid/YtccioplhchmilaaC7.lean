/-
  Contracts: tables of zeros, and the matrix of corner sums.
-/
import Derived.Test.YtccioplhchmilaaC6
set_option linter.unusedVariables false
set_option maxRecDepth 100000
namespace Go.Proofs.Ytccioplhchmilaa.AL
open Go Go.Proofs

/-! spec.sgZero (slots: 0 n, 1 n, 3 out, 4 i) -/
namespace spec_sgZero
def lv : List (Nat × List Nat) := [(3, [0, 3, 4])]
noncomputable def K3 : List KF := [.lp (cB (cB (cR (cL (cR (cR (bodyOf Try.f123))))))), .bl 0, .sq (cR (cR (cR (bodyOf Try.f123))))]
def L3 (Q : AVal → Heap → Prop) (v0 v3 v4 : AVal) (H : Heap) : Prop := At Try.prog 123 16 K3 Q (slotsOf [(0, v0), (3, v3), (4, v4)]) H
theorem L3_frz {Q : AVal → Heap → Prop} {v0 v3 v4 w0 w3 w4 : AVal} {H Hf Hk : Heap} {k : Nat} (hs : Split H Hf Hk) (hp : PurL Hf k [(0, v0, w0), (3, v3, w3), (4, v4, w4)]) (h : L3 Q w0 w3 w4 Hk) : L3 Q v0 v3 v4 H := at_frz (ks := K3) hs hp h
def start_vc (Q : AVal → Heap → Prop) (a0 : AVal) (H : Heap) : Prop :=
spec_sgZero.L3 Q a0 AVal.nilS (AVal.int .i64 0) H
theorem start_eq (Q : AVal → Heap → Prop) (a0 : AVal) (H : Heap) : vs Try.prog lv 123 16 Try.f123.results.toList Q true 1000 [.sq (bodyOf Try.f123)] (entry [a0]) H = start_vc Q a0 H := by kernel_rfl
theorem start {Q : AVal → Heap → Prop} {a0 : AVal} {H : Heap} (h : start_vc Q a0 H) : ACalls Try.prog 123 [a0] H Q := acalls_vs (lv := lv) mixed Try.func123 rfl (by kernel_rfl) (by kernel_rfl) (start_eq Q a0 H ▸ h)
def step3_vc (Q : AVal → Heap → Prop) (v0 v3 v4 : AVal) (H : Heap) : Prop :=
BINK .lss v4 v0 fun x1 =>
BRK x1 (((Go.Operand.tmp 11) = (Go.Operand.tmp 11)) ∧ TT ∧ MKK 1 (AVal.int .i64 0) v0 H fun x2 H3 =>
TT ∧ TT ∧ TT ∧ BSK 1 [x2] H3 fun x4 H5 =>
TT ∧ TT ∧ APK 1 H5 v3 x4 fun x6 H7 =>
BINK .add v4 (AVal.int .i64 1) fun x8 =>
spec_sgZero.L3 Q v0 x6 x8 H7) (Q v3 H)
theorem step3_eq (Q : AVal → Heap → Prop) (v0 v3 v4 : AVal) (H : Heap) : vs Try.prog lv 123 16 Try.f123.results.toList Q true 1000 (.sq (cB (cB (cR (cL (cR (cR (bodyOf Try.f123))))))) :: K3) (slotsOf [(0, v0), (3, v3), (4, v4)]) H = step3_vc Q v0 v3 v4 H := by kernel_rfl
theorem step3 {Q : AVal → Heap → Prop} {v0 v3 v4 : AVal} {H : Heap} (h : step3_vc Q v0 v3 v4 H) : L3 Q v0 v3 v4 H := at_lp_vs (lv := lv) (ks := K3.tail) mixed Try.func123 (step3_eq Q v0 v3 v4 H ▸ h)
end spec_sgZero

/-! spec.sgFrom (slots: 0 c, 1 c, 3 out, 4 i, 5 j) -/
namespace spec_sgFrom
def lv : List (Nat × List Nat) := [(3, [0, 3, 10, 11]), (6, [0, 3, 4, 10, 11, 15, 16])]
noncomputable def K3 : List KF := [.lp (cB (cB (cR (cL (cR (cR (bodyOf Try.f124))))))), .bl 0, .sq (cR (cR (cR (bodyOf Try.f124))))]
def L3 (Q : AVal → Heap → Prop) (v0 v3 v10 v11 : AVal) (H : Heap) : Prop := At Try.prog 124 51 K3 Q (slotsOf [(0, v0), (3, v3), (10, v10), (11, v11)]) H
theorem L3_frz {Q : AVal → Heap → Prop} {v0 v3 v10 v11 w0 w3 w10 w11 : AVal} {H Hf Hk : Heap} {k : Nat} (hs : Split H Hf Hk) (hp : PurL Hf k [(0, v0, w0), (3, v3, w3), (10, v10, w10), (11, v11, w11)]) (h : L3 Q w0 w3 w10 w11 Hk) : L3 Q v0 v3 v10 v11 H := at_frz (ks := K3) hs hp h
noncomputable def K6 : List KF := [.lp (cB (cB (cR (cR (cB (cL (cR (cR (cB (cB (cR (cL (cR (cR (bodyOf Try.f124))))))))))))))), .bl 2, .bl 1, .sq (cR (cR (cR (cB (cB (cR (cL (cR (cR (bodyOf Try.f124)))))))))), .lp (cB (cB (cR (cL (cR (cR (bodyOf Try.f124))))))), .bl 0, .sq (cR (cR (cR (bodyOf Try.f124))))]
def L6 (Q : AVal → Heap → Prop) (v0 v3 v4 v10 v11 v15 v16 : AVal) (H : Heap) : Prop := At Try.prog 124 51 K6 Q (slotsOf [(0, v0), (3, v3), (4, v4), (10, v10), (11, v11), (15, v15), (16, v16)]) H
theorem L6_frz {Q : AVal → Heap → Prop} {v0 v3 v4 v10 v11 v15 v16 w0 w3 w4 w10 w11 w15 w16 : AVal} {H Hf Hk : Heap} {k : Nat} (hs : Split H Hf Hk) (hp : PurL Hf k [(0, v0, w0), (3, v3, w3), (4, v4, w4), (10, v10, w10), (11, v11, w11), (15, v15, w15), (16, v16, w16)]) (h : L6 Q w0 w3 w4 w10 w11 w15 w16 Hk) : L6 Q v0 v3 v4 v10 v11 v15 v16 H := at_frz (ks := K6) hs hp h
def start_vc (Q : AVal → Heap → Prop) (a0 : AVal) (H : Heap) : Prop :=
LENK a0 fun x1 =>
ACalls Try.prog 123 [x1] H fun x2 H3 =>
LENK a0 fun x4 =>
spec_sgFrom.L3 Q a0 x2 x4 (AVal.int .i64 0) H3
theorem start_eq (Q : AVal → Heap → Prop) (a0 : AVal) (H : Heap) : vs Try.prog lv 124 51 Try.f124.results.toList Q true 1000 [.sq (bodyOf Try.f124)] (entry [a0]) H = start_vc Q a0 H := by kernel_rfl
theorem start {Q : AVal → Heap → Prop} {a0 : AVal} {H : Heap} (h : start_vc Q a0 H) : ACalls Try.prog 124 [a0] H Q := acalls_vs (lv := lv) mixed Try.func124 rfl (by kernel_rfl) (by kernel_rfl) (start_eq Q a0 H ▸ h)
def step3_vc (Q : AVal → Heap → Prop) (v0 v3 v10 v11 : AVal) (H : Heap) : Prop :=
BINK .lss v11 v10 fun x1 =>
BRK x1 (LENK v0 fun x2 =>
spec_sgFrom.L6 Q v0 v3 v11 v10 v11 x2 (AVal.int .i64 0) H) (Q v3 H)
theorem step3_eq (Q : AVal → Heap → Prop) (v0 v3 v10 v11 : AVal) (H : Heap) : vs Try.prog lv 124 51 Try.f124.results.toList Q true 1000 (.sq (cB (cB (cR (cL (cR (cR (bodyOf Try.f124))))))) :: K3) (slotsOf [(0, v0), (3, v3), (10, v10), (11, v11)]) H = step3_vc Q v0 v3 v10 v11 H := by kernel_rfl
theorem step3 {Q : AVal → Heap → Prop} {v0 v3 v10 v11 : AVal} {H : Heap} (h : step3_vc Q v0 v3 v10 v11 H) : L3 Q v0 v3 v10 v11 H := at_lp_vs (lv := lv) (ks := K3.tail) mixed Try.func124 (step3_eq Q v0 v3 v10 v11 H ▸ h)
def step6_vc (Q : AVal → Heap → Prop) (v0 v3 v4 v10 v11 v15 v16 : AVal) (H : Heap) : Prop :=
BINK .lss v16 v15 fun x1 =>
BRK x1 (TT ∧ TT ∧ IXK 1 v3 v4 fun x2 =>
TT ∧ TT ∧ LDK false 1 H x2 fun x3 =>
BINK .sub v4 (AVal.int .i64 1) fun x4 =>
BINK .sub v16 (AVal.int .i64 1) fun x5 =>
BINK .sub v4 (AVal.int .i64 1) fun x6 =>
BINK .sub v16 (AVal.int .i64 1) fun x7 =>
ACalls Try.prog 115 [v0, v4, v16] H fun x8 H9 =>
(TT ∧ TT ∧ LDK false 1 H9 x2 fun x10 =>
x10 = x3) ∧
ACalls Try.prog 115 [v0, x4, v16] H9 fun x11 H12 =>
(TT ∧ TT ∧ LDK false 1 H12 x2 fun x13 =>
x13 = x3) ∧
BINK .sub x8 x11 fun x14 =>
ACalls Try.prog 115 [v0, v4, x5] H12 fun x15 H16 =>
(TT ∧ TT ∧ LDK false 1 H16 x2 fun x17 =>
x17 = x3) ∧
BINK .sub x14 x15 fun x18 =>
ACalls Try.prog 115 [v0, x6, x7] H16 fun x19 H20 =>
(TT ∧ TT ∧ LDK false 1 H20 x2 fun x21 =>
x21 = x3) ∧
BINK .add x18 x19 fun x22 =>
TT ∧ IXK 1 x3 v16 fun x23 =>
TT ∧ STK 1 H20 x23 x22 fun H24 =>
BINK .add v16 (AVal.int .i64 1) fun x25 =>
spec_sgFrom.L6 Q v0 v3 v4 v10 v11 v15 x25 H24) (BINK .add v11 (AVal.int .i64 1) fun x26 =>
spec_sgFrom.L3 Q v0 v3 v10 x26 H)
theorem step6_eq (Q : AVal → Heap → Prop) (v0 v3 v4 v10 v11 v15 v16 : AVal) (H : Heap) : vs Try.prog lv 124 51 Try.f124.results.toList Q true 1000 (.sq (cB (cB (cR (cR (cB (cL (cR (cR (cB (cB (cR (cL (cR (cR (bodyOf Try.f124))))))))))))))) :: K6) (slotsOf [(0, v0), (3, v3), (4, v4), (10, v10), (11, v11), (15, v15), (16, v16)]) H = step6_vc Q v0 v3 v4 v10 v11 v15 v16 H := by kernel_rfl
theorem step6 {Q : AVal → Heap → Prop} {v0 v3 v4 v10 v11 v15 v16 : AVal} {H : Heap} (h : step6_vc Q v0 v3 v4 v10 v11 v15 v16 H) : L6 Q v0 v3 v4 v10 v11 v15 v16 H := at_lp_vs (lv := lv) (ks := K6.tail) mixed Try.func124 (step6_eq Q v0 v3 v4 v10 v11 v15 v16 H ▸ h)
end spec_sgFrom


theorem rep_ints (n : Nat) (x : Int) : rep n [I x] = (List.replicate n x).map I := by
  unfold rep
  induction n with
  | zero => rfl
  | succ n ih => rw [List.replicate_succ, List.flatten_cons, ih, List.replicate_succ]; rfl
theorem rMKI {n : Int} {H : Heap} {K : AVal → Heap → Prop} (h0 : 0 ≤ n) (h1 : n ≤ 1000000000) (k : ∀ g, K (.own H.length g 1 0 n.toNat) (hnew H g ((List.replicate n.toNat 0).map I))) : MKK 1 (I 0) (I n) H K := by
  refine ⟨h0, h1, rfl, rfl, fun g => ?_⟩
  rw [rep_ints]; exact k g

def zeros (n : Nat) : List (List Int) := List.replicate n (List.replicate n 0)
theorem sgZero_loop {m : Nat} (hm : m ≤ 1000000) {H0 : Heap} {Q : AVal → Heap → Prop} (hq : ∀ v H, IsOTab H0.length H v (zeros m) → Fresh H0 H → Q v H) : ∀ (n k : Nat) (v : AVal) (H : Heap), k + n = m → IsOTab H0.length H v (List.replicate k (List.replicate m 0)) → Fresh H0 H →
    spec_sgZero.L3 Q (I m) v (I k) H := by
  intro n
  induction n with
  | zero =>
    intro k v H hk hv hF
    apply spec_sgZero.step3
    unfold spec_sgZero.step3_vc
    repeat' (first
    | with_reducible refine rTT ?_
    | with_reducible refine rRFL ?_
    | with_reducible refine rLEN (by assumption) ?_
    | (with_reducible refine rIXk (by assumption) (by assumption) ?_; intro p hp)
    | (with_reducible refine rIX (by assumption) (by omega) (by omega) ?_; intro p a ha hp)
    | with_reducible refine rLDi (by assumption) ?_
    | (with_reducible refine rLD (by assumption) ?_; intro c hc)
    | with_reducible refine rADD (by omega) ?_
    | with_reducible refine rSUB (by omega) ?_
    | with_reducible refine rLSS ?_
    | with_reducible refine rLEQ ?_
    | with_reducible refine rGTR ?_
    | with_reducible refine rGEQ ?_
    | with_reducible refine rEQL ?_
    | with_reducible refine rNEQ ?_
    | with_reducible refine rNOT ?_
    | (with_reducible refine rBRK ?_ ?_ <;> intro hb)
    | (with_reducible refine rBRKn ?_ ?_ <;> intro hb)
    | (with_reducible refine rBRKnb ?_ ?_ <;> intro hb)
    | (with_reducible refine rBRKb ?_ ?_ <;> intro hb)
    | (with_reducible refine rSPL ?_ ?_ <;> intro hb)
    | (with_reducible refine rSPLn ?_ ?_ <;> intro hb)
    | (with_reducible refine rSPLnb ?_ ?_ <;> intro hb)
    | (with_reducible refine rSPLb ?_ ?_ <;> intro hb)
    | (exfalso; omega))
    have : k = m := by omega
    subst this
    exact hq _ _ hv hF
  | succ n ih =>
    intro k v H hk hv hF
    apply spec_sgZero.step3
    unfold spec_sgZero.step3_vc
    repeat' (first
    | with_reducible refine rTT ?_
    | with_reducible refine rRFL ?_
    | with_reducible refine rLEN (by assumption) ?_
    | (with_reducible refine rIXk (by assumption) (by assumption) ?_; intro p hp)
    | (with_reducible refine rIX (by assumption) (by omega) (by omega) ?_; intro p a ha hp)
    | with_reducible refine rLDi (by assumption) ?_
    | (with_reducible refine rLD (by assumption) ?_; intro c hc)
    | with_reducible refine rADD (by omega) ?_
    | with_reducible refine rSUB (by omega) ?_
    | with_reducible refine rLSS ?_
    | with_reducible refine rLEQ ?_
    | with_reducible refine rGTR ?_
    | with_reducible refine rGEQ ?_
    | with_reducible refine rEQL ?_
    | with_reducible refine rNEQ ?_
    | with_reducible refine rNOT ?_
    | (with_reducible refine rBRK ?_ ?_ <;> intro hb)
    | (with_reducible refine rBRKn ?_ ?_ <;> intro hb)
    | (with_reducible refine rBRKnb ?_ ?_ <;> intro hb)
    | (with_reducible refine rBRKb ?_ ?_ <;> intro hb)
    | (with_reducible refine rSPL ?_ ?_ <;> intro hb)
    | (with_reducible refine rSPLn ?_ ?_ <;> intro hb)
    | (with_reducible refine rSPLnb ?_ ?_ <;> intro hb)
    | (with_reducible refine rSPLb ?_ ?_ <;> intro hb)
    | (exfalso; omega))
    refine rMKI (by omega) (by omega) fun g => ?_
    rw [Int.toNat_natCast]
    refine ⟨rfl, rfl, rfl, rLIT1 rfl ⟨rfl, rfl, ?_⟩⟩
    have hF1 : Fresh H0 (hnew H g ((List.replicate m 0).map I)) := hF.trans (fresh_new H g (ifrees_map _))
    have hl : m = (List.replicate m (0 : Int)).length := by simp
    have := (hv.new g ((List.replicate m 0).map I)).snoc (gr := g) (r := List.replicate m 0) (hget_new _ _ _) hF.len (by simp; omega) hF1.len (b := true)
      (K := fun x6 H7 => BINK .add (I k) (AVal.int .i64 1) fun x8 => spec_sgZero.L3 Q (I m) x6 x8 H7) (fun v' H' h1 h2 => ?_)
    · rw [← hl] at this; exact this
    · repeat' (first
    | with_reducible refine rTT ?_
    | with_reducible refine rRFL ?_
    | with_reducible refine rLEN (by assumption) ?_
    | (with_reducible refine rIXk (by assumption) (by assumption) ?_; intro p hp)
    | (with_reducible refine rIX (by assumption) (by omega) (by omega) ?_; intro p a ha hp)
    | with_reducible refine rLDi (by assumption) ?_
    | (with_reducible refine rLD (by assumption) ?_; intro c hc)
    | with_reducible refine rADD (by omega) ?_
    | with_reducible refine rSUB (by omega) ?_
    | with_reducible refine rLSS ?_
    | with_reducible refine rLEQ ?_
    | with_reducible refine rGTR ?_
    | with_reducible refine rGEQ ?_
    | with_reducible refine rEQL ?_
    | with_reducible refine rNEQ ?_
    | with_reducible refine rNOT ?_
    | (with_reducible refine rBRK ?_ ?_ <;> intro hb)
    | (with_reducible refine rBRKn ?_ ?_ <;> intro hb)
    | (with_reducible refine rBRKnb ?_ ?_ <;> intro hb)
    | (with_reducible refine rBRKb ?_ ?_ <;> intro hb)
    | (with_reducible refine rSPL ?_ ?_ <;> intro hb)
    | (with_reducible refine rSPLn ?_ ?_ <;> intro hb)
    | (with_reducible refine rSPLnb ?_ ?_ <;> intro hb)
    | (with_reducible refine rSPLb ?_ ?_ <;> intro hb)
    | (exfalso; omega))
      refine ih (k + 1) v' H' (by omega) ?_ (hF1.chg (Nat.le_refl _) h2)
      rw [List.replicate_succ']
      exact h1

theorem sgZero_ok {m : Nat} (hm : m ≤ 1000000) {H : Heap} : ACalls Try.prog 123 [I m] H fun r H' => IsOTab H.length H' r (zeros m) ∧ Fresh H H' := by
  apply spec_sgZero.start
  unfold spec_sgZero.start_vc
  exact sgZero_loop hm (fun v H' h1 h2 => ⟨h1, h2⟩) m 0 _ _ (by omega) (.inl ⟨rfl, rfl⟩) (Fresh.refl H)

def atT (c : List (List Int)) (i j : Int) : Int := if i < 0 ∨ j < 0 then 0 else (c.getD i.toNat []).getD j.toNat 0
theorem sgAt_ok {c : List (List Int)} {v : AVal} (hv : IsTab v c) {i j : Int} (hi : i < c.length) (hj : ∀ r ∈ c, j < r.length) {H : Heap} : ACalls Try.prog 115 [v, I i, I j] H fun r H' => r = I (atT c i j) ∧ H' = H := by
  apply spec_sgAt.start
  unfold spec_sgAt.start_vc
  repeat' (first
    | with_reducible refine rTT ?_
    | with_reducible refine rRFL ?_
    | with_reducible refine rLEN (by assumption) ?_
    | (with_reducible refine rIXk (by assumption) (by assumption) ?_; intro p hp)
    | (with_reducible refine rIX (by assumption) (by omega) (by omega) ?_; intro p a ha hp)
    | with_reducible refine rLDi (by assumption) ?_
    | (with_reducible refine rLD (by assumption) ?_; intro c hc)
    | with_reducible refine rADD (by omega) ?_
    | with_reducible refine rSUB (by omega) ?_
    | with_reducible refine rLSS ?_
    | with_reducible refine rLEQ ?_
    | with_reducible refine rGTR ?_
    | with_reducible refine rGEQ ?_
    | with_reducible refine rEQL ?_
    | with_reducible refine rNEQ ?_
    | with_reducible refine rNOT ?_
    | (with_reducible refine rBRK ?_ ?_ <;> intro hb)
    | (with_reducible refine rBRKn ?_ ?_ <;> intro hb)
    | (with_reducible refine rBRKnb ?_ ?_ <;> intro hb)
    | (with_reducible refine rBRKb ?_ ?_ <;> intro hb)
    | (with_reducible refine rSPL ?_ ?_ <;> intro hb)
    | (with_reducible refine rSPLn ?_ ?_ <;> intro hb)
    | (with_reducible refine rSPLnb ?_ ?_ <;> intro hb)
    | (with_reducible refine rSPLb ?_ ?_ <;> intro hb)
    | (exfalso; omega))
  · exact ⟨by rw [atT, if_pos (by omega)], rfl⟩
  · exact ⟨by rw [atT, if_pos (by omega)], rfl⟩
  · have := hj a (List.mem_of_getElem? ha)
    have ha' := ha
    repeat' (first
    | with_reducible refine rTT ?_
    | with_reducible refine rRFL ?_
    | with_reducible refine rLEN (by assumption) ?_
    | (with_reducible refine rIXk (by assumption) (by assumption) ?_; intro p hp)
    | (with_reducible refine rIX (by assumption) (by omega) (by omega) ?_; intro p a ha hp)
    | with_reducible refine rLDi (by assumption) ?_
    | (with_reducible refine rLD (by assumption) ?_; intro c hc)
    | with_reducible refine rADD (by omega) ?_
    | with_reducible refine rSUB (by omega) ?_
    | with_reducible refine rLSS ?_
    | with_reducible refine rLEQ ?_
    | with_reducible refine rGTR ?_
    | with_reducible refine rGEQ ?_
    | with_reducible refine rEQL ?_
    | with_reducible refine rNEQ ?_
    | with_reducible refine rNOT ?_
    | (with_reducible refine rBRK ?_ ?_ <;> intro hb)
    | (with_reducible refine rBRKn ?_ ?_ <;> intro hb)
    | (with_reducible refine rBRKnb ?_ ?_ <;> intro hb)
    | (with_reducible refine rBRKb ?_ ?_ <;> intro hb)
    | (with_reducible refine rSPL ?_ ?_ <;> intro hb)
    | (with_reducible refine rSPLn ?_ ?_ <;> intro hb)
    | (with_reducible refine rSPLnb ?_ ?_ <;> intro hb)
    | (with_reducible refine rSPLb ?_ ?_ <;> intro hb)
    | (exfalso; omega))
    refine ⟨?_, rfl⟩
    rw [atT, if_neg (by omega)]
    simp [List.getD, ha', ha]

def fromAt (c : List (List Int)) (i j : Nat) : Int := w64 (w64 (w64 (atT c i j - atT c (i - 1) j) - atT c i (j - 1)) + atT c (i - 1) (j - 1))
def fromRow (c : List (List Int)) (i : Nat) : List Int := (List.range c.length).map (fromAt c i)
def fromT (c : List (List Int)) : List (List Int) := (List.range c.length).map (fromRow c)
theorem sgFrom_in {c : List (List Int)} {v : AVal} {w10 w11 : AVal} (hv : IsTab v c) (hl : c.length ≤ 1000000) (hs : isSquareB c = true) {H0 : Heap} {i : Nat} (hi : i < c.length) {k g : Nat} {rows : List AVal} {ks : List Nat} {t : List (List Int)} (htl : t.length = c.length) {Q : AVal → Heap → Prop}
    (hq : ∀ (t' : List (List Int)) (H : Heap), t'.length = c.length → (∀ j, j ≠ i → t'[j]? = t[j]?) → t'[i]? = some (fromRow c i) → OTab H0.length H k g rows ks t' → Fresh H0 H → spec_sgFrom.L6 Q v (.own k g 1 0 c.length) (I i) w10 w11 (I c.length) (I c.length) H) : ∀ (n j : Nat) (t1 : List (List Int)) (r : List Int) (H : Heap), j + n = c.length → t1.length = c.length → (∀ x, x ≠ i → t1[x]? = t[x]?) → t1[i]? = some r → r.length = c.length → r.take j = (fromRow c i).take j →
      OTab H0.length H k g rows ks t1 → Fresh H0 H → spec_sgFrom.L6 Q v (.own k g 1 0 c.length) (I i) w10 w11 (I c.length) (I j) H := by
  intro n
  induction n with
  | zero =>
    intro j t1 r H hj h1 h2 h3 h4 h5 ho hF
    have : j = c.length := by omega
    subst this
    refine hq t1 H h1 h2 ?_ ho hF
    rw [h3, List.take_of_length_le (by omega), List.take_of_length_le (by simp [fromRow])] at *
    rw [h5]
  | succ n ih =>
    intro j t1 r H hj h1 h2 h3 h4 h5 ho hF
    obtain ⟨kj, gj, g1, g2, g3, g4, g5⟩ := ho.get h3
    apply spec_sgFrom.step6
    unfold spec_sgFrom.step6_vc
    repeat' (first
    | with_reducible refine rTT ?_
    | with_reducible refine rRFL ?_
    | with_reducible refine rLEN (by assumption) ?_
    | (with_reducible refine rIXk (by assumption) (by assumption) ?_; intro p hp)
    | (with_reducible refine rIX (by assumption) (by omega) (by omega) ?_; intro p a ha hp)
    | with_reducible refine rLDi (by assumption) ?_
    | (with_reducible refine rLD (by assumption) ?_; intro c hc)
    | with_reducible refine rADD (by omega) ?_
    | with_reducible refine rSUB (by omega) ?_
    | with_reducible refine rLSS ?_
    | with_reducible refine rLEQ ?_
    | with_reducible refine rGTR ?_
    | with_reducible refine rGEQ ?_
    | with_reducible refine rEQL ?_
    | with_reducible refine rNEQ ?_
    | with_reducible refine rNOT ?_
    | (with_reducible refine rBRK ?_ ?_ <;> intro hb)
    | (with_reducible refine rBRKn ?_ ?_ <;> intro hb)
    | (with_reducible refine rBRKnb ?_ ?_ <;> intro hb)
    | (with_reducible refine rBRKb ?_ ?_ <;> intro hb)
    | (with_reducible refine rSPL ?_ ?_ <;> intro hb)
    | (with_reducible refine rSPLn ?_ ?_ <;> intro hb)
    | (with_reducible refine rSPLnb ?_ ?_ <;> intro hb)
    | (with_reducible refine rSPLb ?_ ?_ <;> intro hb)
    | (exfalso; omega))
    refine rIXo hi ?_
    repeat' (first
    | with_reducible refine rTT ?_
    | with_reducible refine rRFL ?_
    | with_reducible refine rLEN (by assumption) ?_
    | (with_reducible refine rIXk (by assumption) (by assumption) ?_; intro p hp)
    | (with_reducible refine rIX (by assumption) (by omega) (by omega) ?_; intro p a ha hp)
    | with_reducible refine rLDi (by assumption) ?_
    | (with_reducible refine rLD (by assumption) ?_; intro c hc)
    | with_reducible refine rADD (by omega) ?_
    | with_reducible refine rSUB (by omega) ?_
    | with_reducible refine rLSS ?_
    | with_reducible refine rLEQ ?_
    | with_reducible refine rGTR ?_
    | with_reducible refine rGEQ ?_
    | with_reducible refine rEQL ?_
    | with_reducible refine rNEQ ?_
    | with_reducible refine rNOT ?_
    | (with_reducible refine rBRK ?_ ?_ <;> intro hb)
    | (with_reducible refine rBRKn ?_ ?_ <;> intro hb)
    | (with_reducible refine rBRKnb ?_ ?_ <;> intro hb)
    | (with_reducible refine rBRKb ?_ ?_ <;> intro hb)
    | (with_reducible refine rSPL ?_ ?_ <;> intro hb)
    | (with_reducible refine rSPLn ?_ ?_ <;> intro hb)
    | (with_reducible refine rSPLnb ?_ ?_ <;> intro hb)
    | (with_reducible refine rSPLb ?_ ?_ <;> intro hb)
    | (exfalso; omega))
    refine rLDf ho.top g2 ?_
    have hrow : ∀ (r : List Int), r ∈ c → r.length = c.length := fun r hr => sq_len hs hr
    have pend : ∀ {H1 : Heap}, H1 = H → (TT ∧ TT ∧ LDK false 1 H1 (.ptr k g i) fun x => x = .own kj gj 1 0 r.length) := fun e => by subst e; exact ⟨rfl, rfl, rLDf ho.top g2 rfl⟩
    repeat' (first
    | with_reducible refine rTT ?_
    | with_reducible refine rRFL ?_
    | with_reducible refine rLEN (by assumption) ?_
    | (with_reducible refine rIXk (by assumption) (by assumption) ?_; intro p hp)
    | (with_reducible refine rIX (by assumption) (by omega) (by omega) ?_; intro p a ha hp)
    | with_reducible refine rLDi (by assumption) ?_
    | (with_reducible refine rLD (by assumption) ?_; intro c hc)
    | with_reducible refine rADD (by omega) ?_
    | with_reducible refine rSUB (by omega) ?_
    | with_reducible refine rLSS ?_
    | with_reducible refine rLEQ ?_
    | with_reducible refine rGTR ?_
    | with_reducible refine rGEQ ?_
    | with_reducible refine rEQL ?_
    | with_reducible refine rNEQ ?_
    | with_reducible refine rNOT ?_
    | (with_reducible refine rBRK ?_ ?_ <;> intro hb)
    | (with_reducible refine rBRKn ?_ ?_ <;> intro hb)
    | (with_reducible refine rBRKnb ?_ ?_ <;> intro hb)
    | (with_reducible refine rBRKb ?_ ?_ <;> intro hb)
    | (with_reducible refine rSPL ?_ ?_ <;> intro hb)
    | (with_reducible refine rSPLn ?_ ?_ <;> intro hb)
    | (with_reducible refine rSPLnb ?_ ?_ <;> intro hb)
    | (with_reducible refine rSPLb ?_ ?_ <;> intro hb)
    | (exfalso; omega))
    refine ACalls.mono (sgAt_ok hv (by omega) (fun r hr => by rw [hrow r hr]; omega)) ?_
    rintro r1 H1 ⟨rfl, rfl⟩
    refine ⟨pend rfl, ?_⟩
    refine ACalls.mono (sgAt_ok hv (by omega) (fun r hr => by rw [hrow r hr]; omega)) ?_
    rintro r1 H1 ⟨rfl, rfl⟩
    refine ⟨pend rfl, ?_⟩
    refine rSUBw ?_
    refine ACalls.mono (sgAt_ok hv (by omega) (fun r hr => by rw [hrow r hr]; omega)) ?_
    rintro r1 H1 ⟨rfl, rfl⟩
    refine ⟨pend rfl, ?_⟩
    refine rSUBw ?_
    refine ACalls.mono (sgAt_ok hv (by omega) (fun r hr => by rw [hrow r hr]; omega)) ?_
    rintro r1 H1 ⟨rfl, rfl⟩
    refine ⟨pend rfl, ?_⟩
    refine rADDw ?_
    repeat' (first
    | with_reducible refine rTT ?_
    | with_reducible refine rRFL ?_
    | with_reducible refine rLEN (by assumption) ?_
    | (with_reducible refine rIXk (by assumption) (by assumption) ?_; intro p hp)
    | (with_reducible refine rIX (by assumption) (by omega) (by omega) ?_; intro p a ha hp)
    | with_reducible refine rLDi (by assumption) ?_
    | (with_reducible refine rLD (by assumption) ?_; intro c hc)
    | with_reducible refine rADD (by omega) ?_
    | with_reducible refine rSUB (by omega) ?_
    | with_reducible refine rLSS ?_
    | with_reducible refine rLEQ ?_
    | with_reducible refine rGTR ?_
    | with_reducible refine rGEQ ?_
    | with_reducible refine rEQL ?_
    | with_reducible refine rNEQ ?_
    | with_reducible refine rNOT ?_
    | (with_reducible refine rBRK ?_ ?_ <;> intro hb)
    | (with_reducible refine rBRKn ?_ ?_ <;> intro hb)
    | (with_reducible refine rBRKnb ?_ ?_ <;> intro hb)
    | (with_reducible refine rBRKb ?_ ?_ <;> intro hb)
    | (with_reducible refine rSPL ?_ ?_ <;> intro hb)
    | (with_reducible refine rSPLn ?_ ?_ <;> intro hb)
    | (with_reducible refine rSPLnb ?_ ?_ <;> intro hb)
    | (with_reducible refine rSPLb ?_ ?_ <;> intro hb)
    | (exfalso; omega))
    rw [h4]
    refine rIXo (by omega) ?_
    repeat' (first
    | with_reducible refine rTT ?_
    | with_reducible refine rRFL ?_
    | with_reducible refine rLEN (by assumption) ?_
    | (with_reducible refine rIXk (by assumption) (by assumption) ?_; intro p hp)
    | (with_reducible refine rIX (by assumption) (by omega) (by omega) ?_; intro p a ha hp)
    | with_reducible refine rLDi (by assumption) ?_
    | (with_reducible refine rLD (by assumption) ?_; intro c hc)
    | with_reducible refine rADD (by omega) ?_
    | with_reducible refine rSUB (by omega) ?_
    | with_reducible refine rLSS ?_
    | with_reducible refine rLEQ ?_
    | with_reducible refine rGTR ?_
    | with_reducible refine rGEQ ?_
    | with_reducible refine rEQL ?_
    | with_reducible refine rNEQ ?_
    | with_reducible refine rNOT ?_
    | (with_reducible refine rBRK ?_ ?_ <;> intro hb)
    | (with_reducible refine rBRKn ?_ ?_ <;> intro hb)
    | (with_reducible refine rBRKnb ?_ ?_ <;> intro hb)
    | (with_reducible refine rBRKb ?_ ?_ <;> intro hb)
    | (with_reducible refine rSPL ?_ ?_ <;> intro hb)
    | (with_reducible refine rSPLn ?_ ?_ <;> intro hb)
    | (with_reducible refine rSPLnb ?_ ?_ <;> intro hb)
    | (with_reducible refine rSPLb ?_ ?_ <;> intro hb)
    | (exfalso; omega))
    refine rSTp g3 (by simp; omega) rfl ?_
    repeat' (first
    | with_reducible refine rTT ?_
    | with_reducible refine rRFL ?_
    | with_reducible refine rLEN (by assumption) ?_
    | (with_reducible refine rIXk (by assumption) (by assumption) ?_; intro p hp)
    | (with_reducible refine rIX (by assumption) (by omega) (by omega) ?_; intro p a ha hp)
    | with_reducible refine rLDi (by assumption) ?_
    | (with_reducible refine rLD (by assumption) ?_; intro c hc)
    | with_reducible refine rADD (by omega) ?_
    | with_reducible refine rSUB (by omega) ?_
    | with_reducible refine rLSS ?_
    | with_reducible refine rLEQ ?_
    | with_reducible refine rGTR ?_
    | with_reducible refine rGEQ ?_
    | with_reducible refine rEQL ?_
    | with_reducible refine rNEQ ?_
    | with_reducible refine rNOT ?_
    | (with_reducible refine rBRK ?_ ?_ <;> intro hb)
    | (with_reducible refine rBRKn ?_ ?_ <;> intro hb)
    | (with_reducible refine rBRKnb ?_ ?_ <;> intro hb)
    | (with_reducible refine rBRKb ?_ ?_ <;> intro hb)
    | (with_reducible refine rSPL ?_ ?_ <;> intro hb)
    | (with_reducible refine rSPLn ?_ ?_ <;> intro hb)
    | (with_reducible refine rSPLnb ?_ ?_ <;> intro hb)
    | (with_reducible refine rSPLb ?_ ?_ <;> intro hb)
    | (exfalso; omega))
    have hset1 : (r.map I).set j (I (fromAt c i j)) = (r.set j (fromAt c i j)).map I := by rw [List.map_set]
    have ho1 := ho.put h3 g1 g3 (r' := r.set j (fromAt c i j)) (by simp)
    rw [← hset1] at ho1
    have h3l := (List.getElem?_eq_some_iff.1 h3).1
    refine ih (j + 1) (t1.set i (r.set j (fromAt c i j))) (r.set j (fromAt c i j)) _ (by omega) (by simpa using h1) ?_ (by rw [List.getElem?_set_self h3l]) (by simpa using h4) ?_ ho1 (hF.set g4 _ ?_)
    · intro x hx
      rw [List.getElem?_set_ne (fun e => hx e.symm)]; exact h2 x hx
    · have e1 : (r.set j (fromAt c i j))[j]? = some (fromAt c i j) := List.getElem?_set_self (by omega)
      have e2 : (fromRow c i)[j]? = some (fromAt c i j) := by simp [fromRow, List.getElem?_range (show j < c.length by omega)]
      rw [take_some e1, take_some e2, List.take_set_of_le (Nat.le_refl _), h5]
    · show IFrees ((r.map I).set j (I (fromAt c i j))) = true
      rw [hset1]; exact ifrees_map _

theorem sgFrom_loop {c : List (List Int)} {v : AVal} (hv : IsTab v c) (hl : c.length ≤ 1000000) (hs : isSquareB c = true) {H0 : Heap} {k g : Nat} {rows : List AVal} {ks : List Nat} {Q : AVal → Heap → Prop}
    (hq : ∀ H, OTab H0.length H k g rows ks (fromT c) → Fresh H0 H → Q (.own k g 1 0 c.length) H) : ∀ (n i : Nat) (t : List (List Int)) (H : Heap), i + n = c.length → t.length = c.length → (∀ x, x < i → t[x]? = some (fromRow c x)) → (∀ x, i ≤ x → x < c.length → t[x]? = some (List.replicate c.length 0)) →
      OTab H0.length H k g rows ks t → Fresh H0 H → spec_sgFrom.L3 Q v (.own k g 1 0 c.length) (I c.length) (I i) H := by
  intro n
  induction n with
  | zero =>
    intro i t H hi h1 h2 h3 ho hF
    apply spec_sgFrom.step3
    unfold spec_sgFrom.step3_vc
    repeat' (first
    | with_reducible refine rTT ?_
    | with_reducible refine rRFL ?_
    | with_reducible refine rLEN (by assumption) ?_
    | (with_reducible refine rIXk (by assumption) (by assumption) ?_; intro p hp)
    | (with_reducible refine rIX (by assumption) (by omega) (by omega) ?_; intro p a ha hp)
    | with_reducible refine rLDi (by assumption) ?_
    | (with_reducible refine rLD (by assumption) ?_; intro c hc)
    | with_reducible refine rADD (by omega) ?_
    | with_reducible refine rSUB (by omega) ?_
    | with_reducible refine rLSS ?_
    | with_reducible refine rLEQ ?_
    | with_reducible refine rGTR ?_
    | with_reducible refine rGEQ ?_
    | with_reducible refine rEQL ?_
    | with_reducible refine rNEQ ?_
    | with_reducible refine rNOT ?_
    | (with_reducible refine rBRK ?_ ?_ <;> intro hb)
    | (with_reducible refine rBRKn ?_ ?_ <;> intro hb)
    | (with_reducible refine rBRKnb ?_ ?_ <;> intro hb)
    | (with_reducible refine rBRKb ?_ ?_ <;> intro hb)
    | (with_reducible refine rSPL ?_ ?_ <;> intro hb)
    | (with_reducible refine rSPLn ?_ ?_ <;> intro hb)
    | (with_reducible refine rSPLnb ?_ ?_ <;> intro hb)
    | (with_reducible refine rSPLb ?_ ?_ <;> intro hb)
    | (exfalso; omega))
    have : t = fromT c := by
      refine List.ext_getElem? fun x => ?_
      by_cases hx : x < c.length
      · rw [h2 x (by omega)]
        simp [fromT, List.getElem?_range hx]
      · rw [List.getElem?_eq_none (by omega), List.getElem?_eq_none (by simp [fromT]; omega)]
    subst this
    exact hq H ho hF
  | succ n ih =>
    intro i t H hi h1 h2 h3 ho hF
    apply spec_sgFrom.step3
    unfold spec_sgFrom.step3_vc
    repeat' (first
    | with_reducible refine rTT ?_
    | with_reducible refine rRFL ?_
    | with_reducible refine rLEN (by assumption) ?_
    | (with_reducible refine rIXk (by assumption) (by assumption) ?_; intro p hp)
    | (with_reducible refine rIX (by assumption) (by omega) (by omega) ?_; intro p a ha hp)
    | with_reducible refine rLDi (by assumption) ?_
    | (with_reducible refine rLD (by assumption) ?_; intro c hc)
    | with_reducible refine rADD (by omega) ?_
    | with_reducible refine rSUB (by omega) ?_
    | with_reducible refine rLSS ?_
    | with_reducible refine rLEQ ?_
    | with_reducible refine rGTR ?_
    | with_reducible refine rGEQ ?_
    | with_reducible refine rEQL ?_
    | with_reducible refine rNEQ ?_
    | with_reducible refine rNOT ?_
    | (with_reducible refine rBRK ?_ ?_ <;> intro hb)
    | (with_reducible refine rBRKn ?_ ?_ <;> intro hb)
    | (with_reducible refine rBRKnb ?_ ?_ <;> intro hb)
    | (with_reducible refine rBRKb ?_ ?_ <;> intro hb)
    | (with_reducible refine rSPL ?_ ?_ <;> intro hb)
    | (with_reducible refine rSPLn ?_ ?_ <;> intro hb)
    | (with_reducible refine rSPLnb ?_ ?_ <;> intro hb)
    | (with_reducible refine rSPLb ?_ ?_ <;> intro hb)
    | (exfalso; omega))
    refine sgFrom_in hv hl hs (t := t) (by omega) h1 (fun t' H' g1 g2 g3 ho' hF' => ?_) c.length 0 t (List.replicate c.length 0) H (by omega) h1 (fun _ _ => rfl) (h3 i (by omega) (by omega)) (by simp) rfl ho hF
    apply spec_sgFrom.step6
    unfold spec_sgFrom.step6_vc
    repeat' (first
    | with_reducible refine rTT ?_
    | with_reducible refine rRFL ?_
    | with_reducible refine rLEN (by assumption) ?_
    | (with_reducible refine rIXk (by assumption) (by assumption) ?_; intro p hp)
    | (with_reducible refine rIX (by assumption) (by omega) (by omega) ?_; intro p a ha hp)
    | with_reducible refine rLDi (by assumption) ?_
    | (with_reducible refine rLD (by assumption) ?_; intro c hc)
    | with_reducible refine rADD (by omega) ?_
    | with_reducible refine rSUB (by omega) ?_
    | with_reducible refine rLSS ?_
    | with_reducible refine rLEQ ?_
    | with_reducible refine rGTR ?_
    | with_reducible refine rGEQ ?_
    | with_reducible refine rEQL ?_
    | with_reducible refine rNEQ ?_
    | with_reducible refine rNOT ?_
    | (with_reducible refine rBRK ?_ ?_ <;> intro hb)
    | (with_reducible refine rBRKn ?_ ?_ <;> intro hb)
    | (with_reducible refine rBRKnb ?_ ?_ <;> intro hb)
    | (with_reducible refine rBRKb ?_ ?_ <;> intro hb)
    | (with_reducible refine rSPL ?_ ?_ <;> intro hb)
    | (with_reducible refine rSPLn ?_ ?_ <;> intro hb)
    | (with_reducible refine rSPLnb ?_ ?_ <;> intro hb)
    | (with_reducible refine rSPLb ?_ ?_ <;> intro hb)
    | (exfalso; omega))
    refine ih (i + 1) t' H' (by omega) g1 ?_ ?_ ho' hF'
    · intro x hx
      by_cases hxi : x = i
      · subst hxi; exact g3
      · rw [g2 x hxi]; exact h2 x (by omega)
    · intro x hx hxc
      rw [g2 x (by omega)]; exact h3 x (by omega) hxc
theorem sgFrom_ok {c : List (List Int)} {v : AVal} (hv : IsTab v c) (hl : c.length ≤ 1000000) (hs : isSquareB c = true) {H : Heap} : ACalls Try.prog 124 [v] H fun r H' => IsOTab H.length H' r (fromT c) ∧ Fresh H H' := by
  apply spec_sgFrom.start
  unfold spec_sgFrom.start_vc
  repeat' (first
    | with_reducible refine rTT ?_
    | with_reducible refine rRFL ?_
    | with_reducible refine rLEN (by assumption) ?_
    | (with_reducible refine rIXk (by assumption) (by assumption) ?_; intro p hp)
    | (with_reducible refine rIX (by assumption) (by omega) (by omega) ?_; intro p a ha hp)
    | with_reducible refine rLDi (by assumption) ?_
    | (with_reducible refine rLD (by assumption) ?_; intro c hc)
    | with_reducible refine rADD (by omega) ?_
    | with_reducible refine rSUB (by omega) ?_
    | with_reducible refine rLSS ?_
    | with_reducible refine rLEQ ?_
    | with_reducible refine rGTR ?_
    | with_reducible refine rGEQ ?_
    | with_reducible refine rEQL ?_
    | with_reducible refine rNEQ ?_
    | with_reducible refine rNOT ?_
    | (with_reducible refine rBRK ?_ ?_ <;> intro hb)
    | (with_reducible refine rBRKn ?_ ?_ <;> intro hb)
    | (with_reducible refine rBRKnb ?_ ?_ <;> intro hb)
    | (with_reducible refine rBRKb ?_ ?_ <;> intro hb)
    | (with_reducible refine rSPL ?_ ?_ <;> intro hb)
    | (with_reducible refine rSPLn ?_ ?_ <;> intro hb)
    | (with_reducible refine rSPLnb ?_ ?_ <;> intro hb)
    | (with_reducible refine rSPLb ?_ ?_ <;> intro hb)
    | (exfalso; omega))
  refine ACalls.mono (sgZero_ok hl) ?_
  rintro r H1 ⟨h1, h2⟩
  repeat' (first
    | with_reducible refine rTT ?_
    | with_reducible refine rRFL ?_
    | with_reducible refine rLEN (by assumption) ?_
    | (with_reducible refine rIXk (by assumption) (by assumption) ?_; intro p hp)
    | (with_reducible refine rIX (by assumption) (by omega) (by omega) ?_; intro p a ha hp)
    | with_reducible refine rLDi (by assumption) ?_
    | (with_reducible refine rLD (by assumption) ?_; intro c hc)
    | with_reducible refine rADD (by omega) ?_
    | with_reducible refine rSUB (by omega) ?_
    | with_reducible refine rLSS ?_
    | with_reducible refine rLEQ ?_
    | with_reducible refine rGTR ?_
    | with_reducible refine rGEQ ?_
    | with_reducible refine rEQL ?_
    | with_reducible refine rNEQ ?_
    | with_reducible refine rNOT ?_
    | (with_reducible refine rBRK ?_ ?_ <;> intro hb)
    | (with_reducible refine rBRKn ?_ ?_ <;> intro hb)
    | (with_reducible refine rBRKnb ?_ ?_ <;> intro hb)
    | (with_reducible refine rBRKb ?_ ?_ <;> intro hb)
    | (with_reducible refine rSPL ?_ ?_ <;> intro hb)
    | (with_reducible refine rSPLn ?_ ?_ <;> intro hb)
    | (with_reducible refine rSPLnb ?_ ?_ <;> intro hb)
    | (with_reducible refine rSPLb ?_ ?_ <;> intro hb)
    | (exfalso; omega))
  rcases h1 with ⟨rfl, ht⟩ | ⟨k, g, rows, ks, rfl, ho⟩
  · have hc0 : c = [] := List.eq_nil_of_length_eq_zero (by simpa [zeros] using ht)
    subst hc0
    apply spec_sgFrom.step3
    unfold spec_sgFrom.step3_vc
    refine rLSS ?_
    exact rBRK (fun h => absurd h (by simp)) (fun _ => ⟨.inl ⟨rfl, rfl⟩, h2⟩)
  · have hz : (zeros c.length).length = c.length := by simp [zeros]
    rw [hz]
    refine sgFrom_loop hv hl hs (fun H' h3 h4 => ⟨.inr ⟨k, g, rows, ks, by simp [fromT], h3⟩, h4⟩) c.length 0 (zeros c.length) H1 (by omega) hz (fun x hx => by omega) (fun x _ hx => by simp [zeros, hx]) ho h2

end Go.Proofs.Ytccioplhchmilaa.AL
