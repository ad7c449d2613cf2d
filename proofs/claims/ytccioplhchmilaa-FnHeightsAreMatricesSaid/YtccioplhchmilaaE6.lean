/-
  Contracts: heights of the reference, owned; cells that can be flipped.
-/
import Derived.Test.YtccioplhchmilaaE5
set_option linter.unusedVariables false
set_option maxRecDepth 100000
namespace Go.Proofs.Ytccioplhchmilaa.AL
open Go Go.Proofs

/-! spec.heWay (slots: 0 h, 1 i, 2 j, 3 h, 4 i, 5 j, 7 x, 8 around) -/
namespace spec_heWay
def lv : List (Nat × List Nat) := []
def start_vc (Q : AVal → Heap → Prop) (a0 a1 a2 : AVal) (H : Heap) : Prop :=
TT ∧ IXK 1 a0 a1 fun x1 =>
TT ∧ TT ∧ LDK false 1 H x1 fun x2 =>
TT ∧ IXK 1 x2 a2 fun x3 =>
TT ∧ TT ∧ LDK false 1 H x3 fun x4 =>
TT ∧ BINK .sub a1 (AVal.int .i64 1) fun x5 =>
TT ∧ IXK 1 a0 x5 fun x6 =>
TT ∧ TT ∧ LDK false 1 H x6 fun x7 =>
TT ∧ IXK 1 x7 a2 fun x8 =>
TT ∧ TT ∧ LDK false 1 H x8 fun x9 =>
BINK .add a1 (AVal.int .i64 1) fun x10 =>
TT ∧ IXK 1 a0 x10 fun x11 =>
TT ∧ TT ∧ LDK false 1 H x11 fun x12 =>
TT ∧ IXK 1 x12 a2 fun x13 =>
TT ∧ TT ∧ LDK false 1 H x13 fun x14 =>
TT ∧ IXK 1 a0 a1 fun x15 =>
TT ∧ TT ∧ LDK false 1 H x15 fun x16 =>
BINK .sub a2 (AVal.int .i64 1) fun x17 =>
TT ∧ IXK 1 x16 x17 fun x18 =>
TT ∧ TT ∧ LDK false 1 H x18 fun x19 =>
TT ∧ IXK 1 a0 a1 fun x20 =>
TT ∧ TT ∧ LDK false 1 H x20 fun x21 =>
BINK .add a2 (AVal.int .i64 1) fun x22 =>
TT ∧ IXK 1 x21 x22 fun x23 =>
TT ∧ TT ∧ LDK false 1 H x23 fun x24 =>
TT ∧ TT ∧ TT ∧ allCells 1 [x9, x14, x19, x24] fun c25 =>
BINK .add x4 (AVal.int .i64 1) fun x26 =>
BINK .add x4 (AVal.int .i64 1) fun x27 =>
ACalls Try.prog 116 [(AVal.sl true 4 c25), x26, x27] H fun x28 H29 =>
BRK x28 (Q (AVal.int .i64 1) H29) (BINK .sub x4 (AVal.int .i64 1) fun x30 =>
BINK .sub x4 (AVal.int .i64 1) fun x31 =>
ACalls Try.prog 116 [(AVal.sl true 4 c25), x30, x31] H29 fun x32 H33 =>
BRK x32 (Q (AVal.int .i64 (-1)) H33) (Q (AVal.int .i64 0) H33))
theorem start_eq (Q : AVal → Heap → Prop) (a0 a1 a2 : AVal) (H : Heap) : vs Try.prog lv 62 63 Try.f62.results.toList Q true 1000 [.sq (bodyOf Try.f62)] (entry [a0, a1, a2]) H = start_vc Q a0 a1 a2 H := by kernel_rfl
theorem start {Q : AVal → Heap → Prop} {a0 a1 a2 : AVal} {H : Heap} (h : start_vc Q a0 a1 a2 H) : ACalls Try.prog 62 [a0, a1, a2] H Q := acalls_vs (lv := lv) mixed Try.func62 rfl (by kernel_rfl) (by kernel_rfl) (start_eq Q a0 a1 a2 H ▸ h)
end spec_heWay

/-! spec.heFlips (slots: 0 h, 1 way, 2 h, 3 way, 5 out, 6 i, 7 j) -/
namespace spec_heFlips
def lv : List (Nat × List Nat) := [(3, [0, 1, 5, 6]), (6, [0, 1, 5, 6, 7])]
noncomputable def K3 : List KF := [.lp (cB (cB (cR (cL (cR (cR (bodyOf Try.f100))))))), .bl 0, .sq (cR (cR (cR (bodyOf Try.f100))))]
def L3 (Q : AVal → Heap → Prop) (v0 v1 v5 v6 : AVal) (H : Heap) : Prop := At Try.prog 100 35 K3 Q (slotsOf [(0, v0), (1, v1), (5, v5), (6, v6)]) H
theorem L3_frz {Q : AVal → Heap → Prop} {v0 v1 v5 v6 w0 w1 w5 w6 : AVal} {H Hf Hk : Heap} {k : Nat} (hs : Split H Hf Hk) (hp : PurL Hf k [(0, v0, w0), (1, v1, w1), (5, v5, w5), (6, v6, w6)]) (h : L3 Q w0 w1 w5 w6 Hk) : L3 Q v0 v1 v5 v6 H := at_frz (ks := K3) hs hp h
noncomputable def K6 : List KF := [.lp (cB (cB (cR (cB (cL (cR (cB (cB (cR (cL (cR (cR (bodyOf Try.f100))))))))))))), .bl 2, .bl 1, .sq (cR (cR (cB (cB (cR (cL (cR (cR (bodyOf Try.f100))))))))), .lp (cB (cB (cR (cL (cR (cR (bodyOf Try.f100))))))), .bl 0, .sq (cR (cR (cR (bodyOf Try.f100))))]
def L6 (Q : AVal → Heap → Prop) (v0 v1 v5 v6 v7 : AVal) (H : Heap) : Prop := At Try.prog 100 35 K6 Q (slotsOf [(0, v0), (1, v1), (5, v5), (6, v6), (7, v7)]) H
theorem L6_frz {Q : AVal → Heap → Prop} {v0 v1 v5 v6 v7 w0 w1 w5 w6 w7 : AVal} {H Hf Hk : Heap} {k : Nat} (hs : Split H Hf Hk) (hp : PurL Hf k [(0, v0, w0), (1, v1, w1), (5, v5, w5), (6, v6, w6), (7, v7, w7)]) (h : L6 Q w0 w1 w5 w6 w7 Hk) : L6 Q v0 v1 v5 v6 v7 H := at_frz (ks := K6) hs hp h
def start_vc (Q : AVal → Heap → Prop) (a0 a1 : AVal) (H : Heap) : Prop :=
spec_heFlips.L3 Q a0 a1 AVal.nilS (AVal.int .i64 1) H
theorem start_eq (Q : AVal → Heap → Prop) (a0 a1 : AVal) (H : Heap) : vs Try.prog lv 100 35 Try.f100.results.toList Q true 1000 [.sq (bodyOf Try.f100)] (entry [a0, a1]) H = start_vc Q a0 a1 H := by kernel_rfl
theorem start {Q : AVal → Heap → Prop} {a0 a1 : AVal} {H : Heap} (h : start_vc Q a0 a1 H) : ACalls Try.prog 100 [a0, a1] H Q := acalls_vs (lv := lv) mixed Try.func100 rfl (by kernel_rfl) (by kernel_rfl) (start_eq Q a0 a1 H ▸ h)
def step3_vc (Q : AVal → Heap → Prop) (v0 v1 v5 v6 : AVal) (H : Heap) : Prop :=
LENK v0 fun x1 =>
BINK .sub x1 (AVal.int .i64 1) fun x2 =>
BINK .lss v6 x2 fun x3 =>
BRK x3 (spec_heFlips.L6 Q v0 v1 v5 v6 (AVal.int .i64 1) H) (Q v5 H)
theorem step3_eq (Q : AVal → Heap → Prop) (v0 v1 v5 v6 : AVal) (H : Heap) : vs Try.prog lv 100 35 Try.f100.results.toList Q true 1000 (.sq (cB (cB (cR (cL (cR (cR (bodyOf Try.f100))))))) :: K3) (slotsOf [(0, v0), (1, v1), (5, v5), (6, v6)]) H = step3_vc Q v0 v1 v5 v6 H := by kernel_rfl
theorem step3 {Q : AVal → Heap → Prop} {v0 v1 v5 v6 : AVal} {H : Heap} (h : step3_vc Q v0 v1 v5 v6 H) : L3 Q v0 v1 v5 v6 H := at_lp_vs (lv := lv) (ks := K3.tail) mixed Try.func100 (step3_eq Q v0 v1 v5 v6 H ▸ h)
def step6_vc (Q : AVal → Heap → Prop) (v0 v1 v5 v6 v7 : AVal) (H : Heap) : Prop :=
LENK v0 fun x1 =>
BINK .sub x1 (AVal.int .i64 1) fun x2 =>
BINK .lss v7 x2 fun x3 =>
BRK x3 (ACalls Try.prog 62 [v0, v6, v7] H fun x4 H5 =>
BINK .eql x4 v1 fun x6 =>
BRK x6 (TT ∧ TT ∧ TT ∧ BSK 1 [v6, v7] H5 fun x7 H8 =>
TT ∧ TT ∧ TT ∧ BSK 1 [x7] H8 fun x9 H10 =>
TT ∧ TT ∧ APK 1 H10 v5 x9 fun x11 H12 =>
BINK .add v7 (AVal.int .i64 1) fun x13 =>
spec_heFlips.L6 Q v0 v1 x11 v6 x13 H12) (BINK .add v7 (AVal.int .i64 1) fun x14 =>
spec_heFlips.L6 Q v0 v1 v5 v6 x14 H5)) (BINK .add v6 (AVal.int .i64 1) fun x15 =>
spec_heFlips.L3 Q v0 v1 v5 x15 H)
theorem step6_eq (Q : AVal → Heap → Prop) (v0 v1 v5 v6 v7 : AVal) (H : Heap) : vs Try.prog lv 100 35 Try.f100.results.toList Q true 1000 (.sq (cB (cB (cR (cB (cL (cR (cB (cB (cR (cL (cR (cR (bodyOf Try.f100))))))))))))) :: K6) (slotsOf [(0, v0), (1, v1), (5, v5), (6, v6), (7, v7)]) H = step6_vc Q v0 v1 v5 v6 v7 H := by kernel_rfl
theorem step6 {Q : AVal → Heap → Prop} {v0 v1 v5 v6 v7 : AVal} {H : Heap} (h : step6_vc Q v0 v1 v5 v6 v7 H) : L6 Q v0 v1 v5 v6 v7 H := at_lp_vs (lv := lv) (ks := K6.tail) mixed Try.func100 (step6_eq Q v0 v1 v5 v6 v7 H ▸ h)
end spec_heFlips

/-! spec.heCell (slots: 0 n, 1 i, 2 j, 3 n, 4 i, 5 j) -/
namespace spec_heCell
def lv : List (Nat × List Nat) := []
def start_vc (Q : AVal → Heap → Prop) (a0 a1 a2 : AVal) (H : Heap) : Prop :=
BINK .sub a0 (AVal.int .i64 1) fun x1 =>
ACalls Try.prog 54 [a1, (AVal.int .i64 1), x1] H fun x2 H3 =>
SPL x2 (BINK .sub a0 (AVal.int .i64 1) fun x4 =>
ACalls Try.prog 54 [a2, (AVal.int .i64 1), x4] H3 fun x5 H6 =>
Q x5 H6) (Q (AVal.bool false) H3)
theorem start_eq (Q : AVal → Heap → Prop) (a0 a1 a2 : AVal) (H : Heap) : vs Try.prog lv 72 17 Try.f72.results.toList Q true 1000 [.sq (bodyOf Try.f72)] (entry [a0, a1, a2]) H = start_vc Q a0 a1 a2 H := by kernel_rfl
theorem start {Q : AVal → Heap → Prop} {a0 a1 a2 : AVal} {H : Heap} (h : start_vc Q a0 a1 a2 H) : ACalls Try.prog 72 [a0, a1, a2] H Q := acalls_vs (lv := lv) mixed Try.func72 rfl (by kernel_rfl) (by kernel_rfl) (start_eq Q a0 a1 a2 H ▸ h)
end spec_heCell

/-! spec.FlipAt (slots: 0 m, 1 i, 2 j, 3 m, 4 i, 5 j, 8 h, 9 way) -/
namespace spec_FlipAt
def lv : List (Nat × List Nat) := []
def start_vc (Q : AVal → Heap → Prop) (a0 a1 a2 : AVal) (H : Heap) : Prop :=
ACalls Try.prog 53 [a0] H fun x1 H2 =>
NOTK x1 fun x3 =>
SPL x3 (Q (AVal.tup [AVal.nilS, (AVal.bool false)]) H2) (LENK a0 fun x4 =>
ACalls Try.prog 72 [x4, a1, a2] H2 fun x5 H6 =>
NOTK x5 fun x7 =>
BRK x7 (Q (AVal.tup [AVal.nilS, (AVal.bool false)]) H6) (ACalls Try.prog 61 [a0] H6 fun x8 H9 =>
ACalls Try.prog 62 [x8, a1, a2] H9 fun x10 H11 =>
BINK .eql x10 (AVal.int .i64 0) fun x12 =>
BRK x12 (Q (AVal.tup [AVal.nilS, (AVal.bool false)]) H11) (TT ∧ IXK 1 x8 a1 fun x13 =>
TT ∧ TT ∧ LDK false 1 H11 x13 fun x14 =>
TT ∧ IXK 1 x14 a2 fun x15 =>
TT ∧ TT ∧ LDK false 1 H11 x15 fun x16 =>
BINK .mul (AVal.int .i64 2) x10 fun x17 =>
BINK .add x16 x17 fun x18 =>
TT ∧ IXK 1 x14 a2 fun x19 =>
TT ∧ STK 1 H11 x19 x18 fun H20 =>
ACalls Try.prog 74 [x8] H20 fun x21 H22 =>
Q (AVal.tup [x21, (AVal.bool true)]) H22)))
theorem start_eq (Q : AVal → Heap → Prop) (a0 a1 a2 : AVal) (H : Heap) : vs Try.prog lv 37 42 Try.f37.results.toList Q true 1000 [.sq (bodyOf Try.f37)] (entry [a0, a1, a2]) H = start_vc Q a0 a1 a2 H := by kernel_rfl
theorem start {Q : AVal → Heap → Prop} {a0 a1 a2 : AVal} {H : Heap} (h : start_vc Q a0 a1 a2 H) : ACalls Try.prog 37 [a0, a1, a2] H Q := acalls_vs (lv := lv) mixed Try.func37 rfl (by kernel_rfl) (by kernel_rfl) (start_eq Q a0 a1 a2 H ▸ h)
end spec_FlipAt


theorem Bld.blk {H0 H : Heap} {v : AVal} {l : List AVal} (h : Bld H0 v H l) (hl : l ≠ []) : ∃ g, v = .own H0.length g 1 0 l.length ∧ H = hnew H0 g l := by
  rcases h with ⟨rfl, _⟩ | h
  · exact absurd rfl hl
  · exact h
/-- One more row, that has been built. -/
theorem rAPKrow {lo : Nat} {Hs H0 H : Heap} {v vr : AVal} {t : List (List Int)} {r : List Int} (h : IsOTab lo H0 v t) (hF : Fresh Hs H0) (hls : Hs.length ≤ lo) (hb : Bld H0 vr H (r.map I)) (hr : r ≠ []) (hlo : lo ≤ H0.length) (hlen : t.length < 1000000000)
    {b : Bool} {K : AVal → Heap → Prop} (k : ∀ v' H', IsOTab lo H' v' (t ++ [r]) → Fresh Hs H' → H0.length ≤ H'.length → K v' H') : APK 1 H v (.sl b 1 [vr]) K := by
  obtain ⟨g, rfl, rfl⟩ := hb.blk (by simpa using hr)
  have hF1 : Fresh Hs (hnew H0 g (r.map I)) := hF.trans (fresh_new H0 g (ifrees_map _))
  have := (h.new g (r.map I)).snoc (gr := g) (r := r) (hget_new _ _ _) hlo hlen (by rw [hlen_new]; omega) (b := b) (K := K) (fun v' H' q1 q2 => k v' H' q1 (hF1.chg hls q2) (by
    obtain ⟨g', cs, _, rfl | ⟨j, _, rfl⟩⟩ := q2
    · rw [hlen_new, hlen_new]; omega
    · rw [hlen_set, hlen_new]; omega))
  rw [List.length_map]; exact this

section
variable {t c : List (List Int)} {v vc : AVal} {Hs : Heap} {Q : AVal → Heap → Prop}
theorem heOfo_in (hv : IsTab v t) (hc : IsTab vc c) (hl : t.length ≤ 100000) (hcl : c.length = t.length) (hs : isSquareB c = true) {H0 : Heap} {i : Nat} (hi : i ≤ t.length) {vo : AVal}
    (hq : ∀ v6 H, Bld H0 v6 H ((tabRow (t.length + 1) (heAt c) i).map I) → spec_heOf.L8 Q v vc vo (I i) v6 (I ((t.length + 1 : Nat) : Int)) H) : ∀ (n j : Nat) (v6 : AVal) (H : Heap), j + n = t.length + 1 → Bld H0 v6 H (((tabRow (t.length + 1) (heAt c) i).take j).map I) →
    spec_heOf.L8 Q v vc vo (I i) v6 (I j) H := by
  have hrl : (tabRow (t.length + 1) (heAt c) i).length = t.length + 1 := by simp [tabRow]
  intro n
  induction n with
  | zero =>
    intro j v6 H hj hb0
    rw [List.take_of_length_le (by omega)] at hb0
    have hj' : j = t.length + 1 := by omega
    subst hj'
    exact hq _ _ hb0
  | succ n ih =>
    intro j v6 H hj hb0
    have hsq : ∀ r ∈ c, r.length = t.length := fun r hr => by rw [sq_len hs hr, hcl]
    apply spec_heOf.step8
    unfold spec_heOf.step8_vc
    repeat' (first
    | with_reducible refine rTT ?_
    | with_reducible refine rRFL ?_
    | with_reducible refine rLEN (by assumption) ?_
    | (with_reducible refine rIXk (by assumption) (by assumption) ?_; intro p hp)
    | (with_reducible refine rIX (by assumption) (by omega) (by omega) ?_; intro p a ha hp)
    | with_reducible refine rLDi (by assumption) ?_
    | (with_reducible refine rLD (by assumption) ?_; intro c hc)
    | with_reducible refine rADD (by omega) ?_
    | with_reducible refine rSUB (by omega) ?_
    | with_reducible refine rLSS ?_
    | with_reducible refine rLEQ ?_
    | with_reducible refine rGTR ?_
    | with_reducible refine rGEQ ?_
    | with_reducible refine rEQL ?_
    | with_reducible refine rNEQ ?_
    | with_reducible refine rNOT ?_
    | (with_reducible refine rBRK ?_ ?_ <;> intro hb)
    | (with_reducible refine rBRKn ?_ ?_ <;> intro hb)
    | (with_reducible refine rBRKnb ?_ ?_ <;> intro hb)
    | (with_reducible refine rBRKb ?_ ?_ <;> intro hb)
    | (with_reducible refine rSPL ?_ ?_ <;> intro hb)
    | (with_reducible refine rSPLn ?_ ?_ <;> intro hb)
    | (with_reducible refine rSPLnb ?_ ?_ <;> intro hb)
    | (with_reducible refine rSPLb ?_ ?_ <;> intro hb)
    | (exfalso; omega))
    refine ACalls.mono (sgAt_ok hc (by omega) (fun r hr => by rw [hsq r hr]; omega)) ?_
    rintro r H1 ⟨rfl, rfl⟩
    refine rMULw ?_
    refine rSUBw ?_
    refine rTT (rTT (rTT (rLIT1 rfl (rTT (rTT ?_)))))
    refine rAPK1 hb0 (by simp; omega) fun v' H' hb1 => ?_
    repeat' (first
    | with_reducible refine rTT ?_
    | with_reducible refine rRFL ?_
    | with_reducible refine rLEN (by assumption) ?_
    | (with_reducible refine rIXk (by assumption) (by assumption) ?_; intro p hp)
    | (with_reducible refine rIX (by assumption) (by omega) (by omega) ?_; intro p a ha hp)
    | with_reducible refine rLDi (by assumption) ?_
    | (with_reducible refine rLD (by assumption) ?_; intro c hc)
    | with_reducible refine rADD (by omega) ?_
    | with_reducible refine rSUB (by omega) ?_
    | with_reducible refine rLSS ?_
    | with_reducible refine rLEQ ?_
    | with_reducible refine rGTR ?_
    | with_reducible refine rGEQ ?_
    | with_reducible refine rEQL ?_
    | with_reducible refine rNEQ ?_
    | with_reducible refine rNOT ?_
    | (with_reducible refine rBRK ?_ ?_ <;> intro hb)
    | (with_reducible refine rBRKn ?_ ?_ <;> intro hb)
    | (with_reducible refine rBRKnb ?_ ?_ <;> intro hb)
    | (with_reducible refine rBRKb ?_ ?_ <;> intro hb)
    | (with_reducible refine rSPL ?_ ?_ <;> intro hb)
    | (with_reducible refine rSPLn ?_ ?_ <;> intro hb)
    | (with_reducible refine rSPLnb ?_ ?_ <;> intro hb)
    | (with_reducible refine rSPLb ?_ ?_ <;> intro hb)
    | (exfalso; omega))
    refine ih (j + 1) v' H' (by omega) ?_
    have e2 : (tabRow (t.length + 1) (heAt c) i)[j]? = some (heAt c i j) := by simp [tabRow, List.getElem?_range (show j < t.length + 1 by omega)]
    rw [take_some e2]
    simpa [heAt] using hb1
theorem heOfo_out (hv : IsTab v t) (hc : IsTab vc c) (hl : t.length ≤ 100000) (hcl : c.length = t.length) (hs : isSquareB c = true)
    (hq : ∀ v' H', IsOTab Hs.length H' v' (tabT (t.length + 1) (t.length + 1) (heAt c)) → Fresh Hs H' → Q v' H') : ∀ (n i : Nat) (vo : AVal) (H : Heap), i + n = t.length + 1 → IsOTab Hs.length H vo ((List.range i).map (tabRow (t.length + 1) (heAt c))) → Fresh Hs H →
    spec_heOf.L4 Q v vc vo (I i) H := by
  intro n
  induction n with
  | zero =>
    intro i vo H hi ho hF
    apply spec_heOf.step4
    unfold spec_heOf.step4_vc
    repeat' (first
    | with_reducible refine rTT ?_
    | with_reducible refine rRFL ?_
    | with_reducible refine rLEN (by assumption) ?_
    | (with_reducible refine rIXk (by assumption) (by assumption) ?_; intro p hp)
    | (with_reducible refine rIX (by assumption) (by omega) (by omega) ?_; intro p a ha hp)
    | with_reducible refine rLDi (by assumption) ?_
    | (with_reducible refine rLD (by assumption) ?_; intro c hc)
    | with_reducible refine rADD (by omega) ?_
    | with_reducible refine rSUB (by omega) ?_
    | with_reducible refine rLSS ?_
    | with_reducible refine rLEQ ?_
    | with_reducible refine rGTR ?_
    | with_reducible refine rGEQ ?_
    | with_reducible refine rEQL ?_
    | with_reducible refine rNEQ ?_
    | with_reducible refine rNOT ?_
    | (with_reducible refine rBRK ?_ ?_ <;> intro hb)
    | (with_reducible refine rBRKn ?_ ?_ <;> intro hb)
    | (with_reducible refine rBRKnb ?_ ?_ <;> intro hb)
    | (with_reducible refine rBRKb ?_ ?_ <;> intro hb)
    | (with_reducible refine rSPL ?_ ?_ <;> intro hb)
    | (with_reducible refine rSPLn ?_ ?_ <;> intro hb)
    | (with_reducible refine rSPLnb ?_ ?_ <;> intro hb)
    | (with_reducible refine rSPLb ?_ ?_ <;> intro hb)
    | (exfalso; omega))
    have : i = t.length + 1 := by omega
    subst this
    exact hq _ _ ho hF
  | succ n ih =>
    intro i vo H hi ho hF
    apply spec_heOf.step4
    unfold spec_heOf.step4_vc
    repeat' (first
    | with_reducible refine rTT ?_
    | with_reducible refine rRFL ?_
    | with_reducible refine rLEN (by assumption) ?_
    | (with_reducible refine rIXk (by assumption) (by assumption) ?_; intro p hp)
    | (with_reducible refine rIX (by assumption) (by omega) (by omega) ?_; intro p a ha hp)
    | with_reducible refine rLDi (by assumption) ?_
    | (with_reducible refine rLD (by assumption) ?_; intro c hc)
    | with_reducible refine rADD (by omega) ?_
    | with_reducible refine rSUB (by omega) ?_
    | with_reducible refine rLSS ?_
    | with_reducible refine rLEQ ?_
    | with_reducible refine rGTR ?_
    | with_reducible refine rGEQ ?_
    | with_reducible refine rEQL ?_
    | with_reducible refine rNEQ ?_
    | with_reducible refine rNOT ?_
    | (with_reducible refine rBRK ?_ ?_ <;> intro hb)
    | (with_reducible refine rBRKn ?_ ?_ <;> intro hb)
    | (with_reducible refine rBRKnb ?_ ?_ <;> intro hb)
    | (with_reducible refine rBRKb ?_ ?_ <;> intro hb)
    | (with_reducible refine rSPL ?_ ?_ <;> intro hb)
    | (with_reducible refine rSPLn ?_ ?_ <;> intro hb)
    | (with_reducible refine rSPLnb ?_ ?_ <;> intro hb)
    | (with_reducible refine rSPLb ?_ ?_ <;> intro hb)
    | (exfalso; omega))
    refine heOfo_in hv hc hl hcl hs (i := i) (by omega) (fun v6 H6 h6 => ?_) (t.length + 1) 0 _ _ (by omega) (bld_nil H)
    apply spec_heOf.step8
    unfold spec_heOf.step8_vc
    repeat' (first
    | with_reducible refine rTT ?_
    | with_reducible refine rRFL ?_
    | with_reducible refine rLEN (by assumption) ?_
    | (with_reducible refine rIXk (by assumption) (by assumption) ?_; intro p hp)
    | (with_reducible refine rIX (by assumption) (by omega) (by omega) ?_; intro p a ha hp)
    | with_reducible refine rLDi (by assumption) ?_
    | (with_reducible refine rLD (by assumption) ?_; intro c hc)
    | with_reducible refine rADD (by omega) ?_
    | with_reducible refine rSUB (by omega) ?_
    | with_reducible refine rLSS ?_
    | with_reducible refine rLEQ ?_
    | with_reducible refine rGTR ?_
    | with_reducible refine rGEQ ?_
    | with_reducible refine rEQL ?_
    | with_reducible refine rNEQ ?_
    | with_reducible refine rNOT ?_
    | (with_reducible refine rBRK ?_ ?_ <;> intro hb)
    | (with_reducible refine rBRKn ?_ ?_ <;> intro hb)
    | (with_reducible refine rBRKnb ?_ ?_ <;> intro hb)
    | (with_reducible refine rBRKb ?_ ?_ <;> intro hb)
    | (with_reducible refine rSPL ?_ ?_ <;> intro hb)
    | (with_reducible refine rSPLn ?_ ?_ <;> intro hb)
    | (with_reducible refine rSPLnb ?_ ?_ <;> intro hb)
    | (with_reducible refine rSPLb ?_ ?_ <;> intro hb)
    | (exfalso; omega))
    obtain ⟨g6, rfl, rfl⟩ := h6.blk (by simp [tabRow])
    refine rLIT1 rfl ?_
    repeat' (first
    | with_reducible refine rTT ?_
    | with_reducible refine rRFL ?_
    | with_reducible refine rLEN (by assumption) ?_
    | (with_reducible refine rIXk (by assumption) (by assumption) ?_; intro p hp)
    | (with_reducible refine rIX (by assumption) (by omega) (by omega) ?_; intro p a ha hp)
    | with_reducible refine rLDi (by assumption) ?_
    | (with_reducible refine rLD (by assumption) ?_; intro c hc)
    | with_reducible refine rADD (by omega) ?_
    | with_reducible refine rSUB (by omega) ?_
    | with_reducible refine rLSS ?_
    | with_reducible refine rLEQ ?_
    | with_reducible refine rGTR ?_
    | with_reducible refine rGEQ ?_
    | with_reducible refine rEQL ?_
    | with_reducible refine rNEQ ?_
    | with_reducible refine rNOT ?_
    | (with_reducible refine rBRK ?_ ?_ <;> intro hb)
    | (with_reducible refine rBRKn ?_ ?_ <;> intro hb)
    | (with_reducible refine rBRKnb ?_ ?_ <;> intro hb)
    | (with_reducible refine rBRKb ?_ ?_ <;> intro hb)
    | (with_reducible refine rSPL ?_ ?_ <;> intro hb)
    | (with_reducible refine rSPLn ?_ ?_ <;> intro hb)
    | (with_reducible refine rSPLnb ?_ ?_ <;> intro hb)
    | (with_reducible refine rSPLb ?_ ?_ <;> intro hb)
    | (exfalso; omega))
    refine rAPKrow ho hF (Nat.le_refl _) h6 (by simp [tabRow]) hF.len (by simp; omega) fun v' H' h1 h2 h3 => ?_
    repeat' (first
    | with_reducible refine rTT ?_
    | with_reducible refine rRFL ?_
    | with_reducible refine rLEN (by assumption) ?_
    | (with_reducible refine rIXk (by assumption) (by assumption) ?_; intro p hp)
    | (with_reducible refine rIX (by assumption) (by omega) (by omega) ?_; intro p a ha hp)
    | with_reducible refine rLDi (by assumption) ?_
    | (with_reducible refine rLD (by assumption) ?_; intro c hc)
    | with_reducible refine rADD (by omega) ?_
    | with_reducible refine rSUB (by omega) ?_
    | with_reducible refine rLSS ?_
    | with_reducible refine rLEQ ?_
    | with_reducible refine rGTR ?_
    | with_reducible refine rGEQ ?_
    | with_reducible refine rEQL ?_
    | with_reducible refine rNEQ ?_
    | with_reducible refine rNOT ?_
    | (with_reducible refine rBRK ?_ ?_ <;> intro hb)
    | (with_reducible refine rBRKn ?_ ?_ <;> intro hb)
    | (with_reducible refine rBRKnb ?_ ?_ <;> intro hb)
    | (with_reducible refine rBRKb ?_ ?_ <;> intro hb)
    | (with_reducible refine rSPL ?_ ?_ <;> intro hb)
    | (with_reducible refine rSPLn ?_ ?_ <;> intro hb)
    | (with_reducible refine rSPLnb ?_ ?_ <;> intro hb)
    | (with_reducible refine rSPLb ?_ ?_ <;> intro hb)
    | (exfalso; omega))
    refine ih (i + 1) v' H' (by omega) ?_ h2
    rw [List.range_succ, List.map_append]; exact h1
theorem heOfo_ok {H : Heap} (hv : IsTab v t) (hl : t.length ≤ 100000) (hs : isSquareB t = true) : ACalls Try.prog 61 [v] H fun r H' => IsOTab H.length H' r (heightsF t) ∧ Fresh H H' := by
  apply spec_heOf.start
  unfold spec_heOf.start_vc
  refine ACalls.mono (corners_ok hv hl hs) ?_
  rintro vc H1 ⟨h1, rfl⟩
  have hcl : (tabT t.length t.length (cornAt t)).length = t.length := by simp [tabT]
  have hcs : isSquareB (tabT t.length t.length (cornAt t)) = true := by
    simp only [isSquareB, List.all_eq_true, decide_eq_true_eq, hcl]; exact tabT_sq
  rw [← heights_eq hl]
  exact heOfo_out hv h1 hl hcl hcs (fun v' H' h2 h3 => ⟨h2, h3⟩) (t.length + 1) 0 _ _ (by omega) (.inl ⟨rfl, rfl⟩) (Fresh.refl _)
end

/-! ### Ways -/
/-- all around are the same -/
def sameB (h : List (List Int)) (i j : Nat) (x : Int) : Bool := (decide (getM h (i - 1) j = x) && decide (getM h (i + 1) j = x)) && (decide (getM h i (j - 1) = x) && decide (getM h i (j + 1) = x))
def heWayF (h : List (List Int)) (i j : Nat) : Int := if sameB h i j (w64 (getM h i j + 1)) = true then 1 else if sameB h i j (w64 (getM h i j - 1)) = true then -1 else 0
theorem getM_at {h : List (List Int)} {i j : Nat} {r : List Int} {x : Int} (hr : h[i]? = some r) (hx : r[j]? = some x) : getM h i j = x := by simp [getM, List.getD, hr, hx]
theorem rLITc {v : AVal} {vs : List AVal} {K : List AVal → Prop} (hv : v.one = true) (h : allCells 1 vs fun cs => K (v :: cs)) : allCells 1 (v :: vs) K := by
  unfold allCells
  exact cells_one hv ⟨rfl, h⟩
theorem isI_list (l : List Int) (x : Bool) : IsInts (.sl x l.length (l.map I)) l := isInts_map x l
theorem heWay_ok {h : List (List Int)} {v : AVal} {i j n : Nat} (hv : IsTab v h) (hl : h.length = n) (hsq : ∀ r ∈ h, r.length = n) (hi : 1 ≤ i) (hi2 : i + 1 < n) (hj : 1 ≤ j) (hj2 : j + 1 < n) (hn : n ≤ 1000000) {H : Heap} :
    ACalls Try.prog 62 [v, I i, I j] H fun r H' => r = I (heWayF h i j) ∧ H' = H := by
  obtain ⟨r1, hr1⟩ := ex_get (l := h) (k := i - 1) (by omega)
  obtain ⟨r2, hr2⟩ := ex_get (l := h) (k := i) (by omega)
  obtain ⟨r3, hr3⟩ := ex_get (l := h) (k := i + 1) (by omega)
  have l1 := hsq _ (getElem_mem' hr1)
  have l2 := hsq _ (getElem_mem' hr2)
  have l3 := hsq _ (getElem_mem' hr3)
  obtain ⟨x1, hx1⟩ := ex_get (l := r1) (k := j) (by omega)
  obtain ⟨x2, hx2⟩ := ex_get (l := r2) (k := j) (by omega)
  obtain ⟨x3, hx3⟩ := ex_get (l := r3) (k := j) (by omega)
  obtain ⟨x4, hx4⟩ := ex_get (l := r2) (k := j - 1) (by omega)
  obtain ⟨x5, hx5⟩ := ex_get (l := r2) (k := j + 1) (by omega)
  have e1 : (i : Int) - 1 = ((i - 1 : Nat) : Int) := by omega
  have e2 : (i : Int) + 1 = ((i + 1 : Nat) : Int) := by omega
  have e3 : (j : Int) - 1 = ((j - 1 : Nat) : Int) := by omega
  have e4 : (j : Int) + 1 = ((j + 1 : Nat) : Int) := by omega
  apply spec_heWay.start
  unfold spec_heWay.start_vc
  repeat' (first
    | with_reducible refine rTT ?_
    | ((with_reducible refine rIXk hv hr1 ?_; intro p hp))
    | ((with_reducible refine rIXk hv hr2 ?_; intro p hp))
    | (rw [e1])
    | (rw [e2])
    | (rw [e3])
    | (rw [e4])
    | with_reducible refine rRFL ?_
    | with_reducible refine rLEN (by assumption) ?_
    | (with_reducible refine rIXk (by assumption) (by assumption) ?_; intro p hp)
    | (with_reducible refine rIX (by assumption) (by omega) (by omega) ?_; intro p a ha hp)
    | with_reducible refine rLDi (by assumption) ?_
    | (with_reducible refine rLD (by assumption) ?_; intro c hc)
    | with_reducible refine rADD (by omega) ?_
    | with_reducible refine rSUB (by omega) ?_
    | with_reducible refine rLSS ?_
    | with_reducible refine rLEQ ?_
    | with_reducible refine rGTR ?_
    | with_reducible refine rGEQ ?_
    | with_reducible refine rEQL ?_
    | with_reducible refine rNEQ ?_
    | with_reducible refine rNOT ?_
    | (with_reducible refine rBRK ?_ ?_ <;> intro hb)
    | (with_reducible refine rBRKn ?_ ?_ <;> intro hb)
    | (with_reducible refine rBRKnb ?_ ?_ <;> intro hb)
    | (with_reducible refine rBRKb ?_ ?_ <;> intro hb)
    | (with_reducible refine rSPL ?_ ?_ <;> intro hb)
    | (with_reducible refine rSPLn ?_ ?_ <;> intro hb)
    | (with_reducible refine rSPLnb ?_ ?_ <;> intro hb)
    | (with_reducible refine rSPLb ?_ ?_ <;> intro hb)
    | (exfalso; omega))
  refine rLITc rfl (rLITc rfl (rLITc rfl (rLITc rfl ?_)))
  refine rADDw ?_
  refine rADDw ?_
  have hA := isI_list [x1, x3, x4, x5] true
  refine ACalls.mono (l1All_ok hA (by simp)) ?_
  rintro r H1 ⟨rfl, rfl⟩
  have key : ∀ x : Int, ([x1, x3, x4, x5].all fun n => decide (x ≤ n ∧ n ≤ x)) = sameB h i j x := by
    intro x
    unfold sameB
    rw [getM_at hr1 hx1, getM_at hr3 hx3, getM_at hr2 hx4, getM_at hr2 hx5]
    have : ∀ y : Int, decide (x ≤ y ∧ y ≤ x) = decide (y = x) := fun y => by simp only [decide_eq_decide]; omega
    simp only [List.all_cons, List.all_nil, this, Bool.and_true, Bool.and_assoc]
  rw [key]
  have e0 : getM h i j = x2 := getM_at hr2 hx2
  unfold heWayF
  rw [e0]
  refine rBRKb (fun hb => ?_) (fun hb => ?_)
  · exact ⟨by rw [if_pos hb], rfl⟩
  · refine rSUBw ?_
    refine rSUBw ?_
    refine ACalls.mono (l1All_ok hA (by simp)) ?_
    rintro r H2 ⟨rfl, rfl⟩
    rw [key]
    refine rBRKb (fun hb2 => ?_) (fun hb2 => ?_)
    · exact ⟨by rw [hb]; rw [if_neg (by decide), if_pos hb2], rfl⟩
    · exact ⟨by rw [hb]; rw [if_neg (by decide), hb2]; rfl, rfl⟩

end Go.Proofs.Ytccioplhchmilaa.AL
