/-
  Contracts of functions, and what they rest on: Contracts: heights of the reference, owned; cells that can be flipped. Contracts: cells that can be flipped, and a flip, as the reference tells them. Contracts: a flip, as the reference tells it; drawn pairs. Contracts: drawn pairs. Contracts: drawn heights. From a law as a call over abstract values to the law as a call in a world. The law FnHeightsAreMatrices, as a call.
-/
import Derived.Test.YtccioplhchmilaaLawHeightsAreMatricesM1
set_option linter.unusedVariables false
set_option maxRecDepth 100000
namespace Go.Proofs.Ytccioplhchmilaa.AL
open Go Go.Proofs

/-! spec.heWay (slots: 0 h, 1 i, 2 j, 3 h, 4 i, 5 j, 7 x, 8 around) -/
namespace spec_heWay
def lv : List (Nat × List Nat) := []
def start_vc (Q : AVal → Heap → Prop) (a0 a1 a2 : AVal) (H : Heap) : Prop :=
 TT ∧ IXK 1 a0 a1 fun x1 =>
 TT ∧ TT ∧ LDK false 1 H x1 fun x2 =>
 TT ∧ IXK 1 x2 a2 fun x3 =>
 TT ∧ TT ∧ LDK false 1 H x3 fun x4 =>
 TT ∧ BINK .sub a1 (AVal.int .i64 1) fun x5 =>
 TT ∧ IXK 1 a0 x5 fun x6 =>
 TT ∧ TT ∧ LDK false 1 H x6 fun x7 =>
 TT ∧ IXK 1 x7 a2 fun x8 =>
 TT ∧ TT ∧ LDK false 1 H x8 fun x9 =>
 BINK .add a1 (AVal.int .i64 1) fun x10 =>
 TT ∧ IXK 1 a0 x10 fun x11 =>
 TT ∧ TT ∧ LDK false 1 H x11 fun x12 =>
 TT ∧ IXK 1 x12 a2 fun x13 =>
 TT ∧ TT ∧ LDK false 1 H x13 fun x14 =>
 TT ∧ IXK 1 a0 a1 fun x15 =>
 TT ∧ TT ∧ LDK false 1 H x15 fun x16 =>
 BINK .sub a2 (AVal.int .i64 1) fun x17 =>
 TT ∧ IXK 1 x16 x17 fun x18 =>
 TT ∧ TT ∧ LDK false 1 H x18 fun x19 =>
 TT ∧ IXK 1 a0 a1 fun x20 =>
 TT ∧ TT ∧ LDK false 1 H x20 fun x21 =>
 BINK .add a2 (AVal.int .i64 1) fun x22 =>
 TT ∧ IXK 1 x21 x22 fun x23 =>
 TT ∧ TT ∧ LDK false 1 H x23 fun x24 =>
 TT ∧ TT ∧ TT ∧ allCells 1 [x9, x14, x19, x24] fun c25 =>
 BINK .add x4 (AVal.int .i64 1) fun x26 =>
 BINK .add x4 (AVal.int .i64 1) fun x27 =>
 ACalls Try.prog 116 [(AVal.sl true 4 c25), x26, x27] H fun x28 H29 =>
 BRK x28 (Q (AVal.int .i64 1) H29) (BINK .sub x4 (AVal.int .i64 1) fun x30 =>
 BINK .sub x4 (AVal.int .i64 1) fun x31 =>
 ACalls Try.prog 116 [(AVal.sl true 4 c25), x30, x31] H29 fun x32 H33 =>
 BRK x32 (Q (AVal.int .i64 (-1)) H33) (Q (AVal.int .i64 0) H33))
theorem start_eq (Q : AVal → Heap → Prop) (a0 a1 a2 : AVal) (H : Heap) : vs Try.prog lv 62 63 Try.f62.results.toList Q true 1000 [.sq (bodyOf Try.f62)] (entry [a0, a1, a2]) H = start_vc Q a0 a1 a2 H := by kernel_rfl
theorem start {Q : AVal → Heap → Prop} {a0 a1 a2 : AVal} {H : Heap} (h : start_vc Q a0 a1 a2 H) : ACalls Try.prog 62 [a0, a1, a2] H Q := acalls_vs (lv := lv) mixed Try.func62 rfl (by kernel_rfl) (by kernel_rfl) (start_eq Q a0 a1 a2 H ▸ h)
end spec_heWay

/-! spec.heFlips (slots: 0 h, 1 way, 2 h, 3 way, 5 out, 6 i, 7 j) -/
namespace spec_heFlips
def lv : List (Nat × List Nat) := [(3, [0, 1, 5, 6]), (6, [0, 1, 5, 6, 7])]
noncomputable def K3 : List KF := [.lp (cB (cB (cR (cL (cR (cR (bodyOf Try.f100))))))), .bl 0, .sq (cR (cR (cR (bodyOf Try.f100))))]
def L3 (Q : AVal → Heap → Prop) (v0 v1 v5 v6 : AVal) (H : Heap) : Prop := At Try.prog 100 35 K3 Q (slotsOf [(0, v0), (1, v1), (5, v5), (6, v6)]) H
theorem L3_frz {Q : AVal → Heap → Prop} {v0 v1 v5 v6 w0 w1 w5 w6 : AVal} {H Hf Hk : Heap} {k : Nat} (hs : Split H Hf Hk) (hp : PurL Hf k [(0, v0, w0), (1, v1, w1), (5, v5, w5), (6, v6, w6)]) (h : L3 Q w0 w1 w5 w6 Hk) : L3 Q v0 v1 v5 v6 H := at_frz (ks := K3) hs hp h
noncomputable def K6 : List KF := [.lp (cB (cB (cR (cB (cL (cR (cB (cB (cR (cL (cR (cR (bodyOf Try.f100))))))))))))), .bl 2, .bl 1, .sq (cR (cR (cB (cB (cR (cL (cR (cR (bodyOf Try.f100))))))))), .lp (cB (cB (cR (cL (cR (cR (bodyOf Try.f100))))))), .bl 0, .sq (cR (cR (cR (bodyOf Try.f100))))]
def L6 (Q : AVal → Heap → Prop) (v0 v1 v5 v6 v7 : AVal) (H : Heap) : Prop := At Try.prog 100 35 K6 Q (slotsOf [(0, v0), (1, v1), (5, v5), (6, v6), (7, v7)]) H
theorem L6_frz {Q : AVal → Heap → Prop} {v0 v1 v5 v6 v7 w0 w1 w5 w6 w7 : AVal} {H Hf Hk : Heap} {k : Nat} (hs : Split H Hf Hk) (hp : PurL Hf k [(0, v0, w0), (1, v1, w1), (5, v5, w5), (6, v6, w6), (7, v7, w7)]) (h : L6 Q w0 w1 w5 w6 w7 Hk) : L6 Q v0 v1 v5 v6 v7 H := at_frz (ks := K6) hs hp h
def start_vc (Q : AVal → Heap → Prop) (a0 a1 : AVal) (H : Heap) : Prop :=
 spec_heFlips.L3 Q a0 a1 AVal.nilS (AVal.int .i64 1) H
theorem start_eq (Q : AVal → Heap → Prop) (a0 a1 : AVal) (H : Heap) : vs Try.prog lv 100 35 Try.f100.results.toList Q true 1000 [.sq (bodyOf Try.f100)] (entry [a0, a1]) H = start_vc Q a0 a1 H := by kernel_rfl
theorem start {Q : AVal → Heap → Prop} {a0 a1 : AVal} {H : Heap} (h : start_vc Q a0 a1 H) : ACalls Try.prog 100 [a0, a1] H Q := acalls_vs (lv := lv) mixed Try.func100 rfl (by kernel_rfl) (by kernel_rfl) (start_eq Q a0 a1 H ▸ h)
def step3_vc (Q : AVal → Heap → Prop) (v0 v1 v5 v6 : AVal) (H : Heap) : Prop :=
 LENK v0 fun x1 =>
 BINK .sub x1 (AVal.int .i64 1) fun x2 =>
 BINK .lss v6 x2 fun x3 =>
 BRK x3 (spec_heFlips.L6 Q v0 v1 v5 v6 (AVal.int .i64 1) H) (Q v5 H)
theorem step3_eq (Q : AVal → Heap → Prop) (v0 v1 v5 v6 : AVal) (H : Heap) : vs Try.prog lv 100 35 Try.f100.results.toList Q true 1000 (.sq (cB (cB (cR (cL (cR (cR (bodyOf Try.f100))))))) :: K3) (slotsOf [(0, v0), (1, v1), (5, v5), (6, v6)]) H = step3_vc Q v0 v1 v5 v6 H := by kernel_rfl
theorem step3 {Q : AVal → Heap → Prop} {v0 v1 v5 v6 : AVal} {H : Heap} (h : step3_vc Q v0 v1 v5 v6 H) : L3 Q v0 v1 v5 v6 H := at_lp_vs (lv := lv) (ks := K3.tail) mixed Try.func100 (step3_eq Q v0 v1 v5 v6 H ▸ h)
def step6_vc (Q : AVal → Heap → Prop) (v0 v1 v5 v6 v7 : AVal) (H : Heap) : Prop :=
 LENK v0 fun x1 =>
 BINK .sub x1 (AVal.int .i64 1) fun x2 =>
 BINK .lss v7 x2 fun x3 =>
 BRK x3 (ACalls Try.prog 62 [v0, v6, v7] H fun x4 H5 =>
 BINK .eql x4 v1 fun x6 =>
 BRK x6 (TT ∧ TT ∧ TT ∧ BSK 1 [v6, v7] H5 fun x7 H8 =>
 TT ∧ TT ∧ TT ∧ BSK 1 [x7] H8 fun x9 H10 =>
 TT ∧ TT ∧ APK 1 H10 v5 x9 fun x11 H12 =>
 BINK .add v7 (AVal.int .i64 1) fun x13 =>
 spec_heFlips.L6 Q v0 v1 x11 v6 x13 H12) (BINK .add v7 (AVal.int .i64 1) fun x14 =>
 spec_heFlips.L6 Q v0 v1 v5 v6 x14 H5)) (BINK .add v6 (AVal.int .i64 1) fun x15 =>
 spec_heFlips.L3 Q v0 v1 v5 x15 H)
theorem step6_eq (Q : AVal → Heap → Prop) (v0 v1 v5 v6 v7 : AVal) (H : Heap) : vs Try.prog lv 100 35 Try.f100.results.toList Q true 1000 (.sq (cB (cB (cR (cB (cL (cR (cB (cB (cR (cL (cR (cR (bodyOf Try.f100))))))))))))) :: K6) (slotsOf [(0, v0), (1, v1), (5, v5), (6, v6), (7, v7)]) H = step6_vc Q v0 v1 v5 v6 v7 H := by kernel_rfl
theorem step6 {Q : AVal → Heap → Prop} {v0 v1 v5 v6 v7 : AVal} {H : Heap} (h : step6_vc Q v0 v1 v5 v6 v7 H) : L6 Q v0 v1 v5 v6 v7 H := at_lp_vs (lv := lv) (ks := K6.tail) mixed Try.func100 (step6_eq Q v0 v1 v5 v6 v7 H ▸ h)
end spec_heFlips

/-! spec.heCell (slots: 0 n, 1 i, 2 j, 3 n, 4 i, 5 j) -/
namespace spec_heCell
def lv : List (Nat × List Nat) := []
def start_vc (Q : AVal → Heap → Prop) (a0 a1 a2 : AVal) (H : Heap) : Prop :=
 BINK .sub a0 (AVal.int .i64 1) fun x1 =>
 ACalls Try.prog 54 [a1, (AVal.int .i64 1), x1] H fun x2 H3 =>
 SPL x2 (BINK .sub a0 (AVal.int .i64 1) fun x4 =>
 ACalls Try.prog 54 [a2, (AVal.int .i64 1), x4] H3 fun x5 H6 =>
 Q x5 H6) (Q (AVal.bool false) H3)
theorem start_eq (Q : AVal → Heap → Prop) (a0 a1 a2 : AVal) (H : Heap) : vs Try.prog lv 72 17 Try.f72.results.toList Q true 1000 [.sq (bodyOf Try.f72)] (entry [a0, a1, a2]) H = start_vc Q a0 a1 a2 H := by kernel_rfl
theorem start {Q : AVal → Heap → Prop} {a0 a1 a2 : AVal} {H : Heap} (h : start_vc Q a0 a1 a2 H) : ACalls Try.prog 72 [a0, a1, a2] H Q := acalls_vs (lv := lv) mixed Try.func72 rfl (by kernel_rfl) (by kernel_rfl) (start_eq Q a0 a1 a2 H ▸ h)
end spec_heCell

/-! spec.FlipAt (slots: 0 m, 1 i, 2 j, 3 m, 4 i, 5 j, 8 h, 9 way) -/
namespace spec_FlipAt
def lv : List (Nat × List Nat) := []
def start_vc (Q : AVal → Heap → Prop) (a0 a1 a2 : AVal) (H : Heap) : Prop :=
 ACalls Try.prog 53 [a0] H fun x1 H2 =>
 NOTK x1 fun x3 =>
 SPL x3 (Q (AVal.tup [AVal.nilS, (AVal.bool false)]) H2) (LENK a0 fun x4 =>
 ACalls Try.prog 72 [x4, a1, a2] H2 fun x5 H6 =>
 NOTK x5 fun x7 =>
 BRK x7 (Q (AVal.tup [AVal.nilS, (AVal.bool false)]) H6) (ACalls Try.prog 61 [a0] H6 fun x8 H9 =>
 ACalls Try.prog 62 [x8, a1, a2] H9 fun x10 H11 =>
 BINK .eql x10 (AVal.int .i64 0) fun x12 =>
 BRK x12 (Q (AVal.tup [AVal.nilS, (AVal.bool false)]) H11) (TT ∧ IXK 1 x8 a1 fun x13 =>
 TT ∧ TT ∧ LDK false 1 H11 x13 fun x14 =>
 TT ∧ IXK 1 x14 a2 fun x15 =>
 TT ∧ TT ∧ LDK false 1 H11 x15 fun x16 =>
 BINK .mul (AVal.int .i64 2) x10 fun x17 =>
 BINK .add x16 x17 fun x18 =>
 TT ∧ IXK 1 x14 a2 fun x19 =>
 TT ∧ STK 1 H11 x19 x18 fun H20 =>
 ACalls Try.prog 74 [x8] H20 fun x21 H22 =>
 Q (AVal.tup [x21, (AVal.bool true)]) H22)))
theorem start_eq (Q : AVal → Heap → Prop) (a0 a1 a2 : AVal) (H : Heap) : vs Try.prog lv 37 42 Try.f37.results.toList Q true 1000 [.sq (bodyOf Try.f37)] (entry [a0, a1, a2]) H = start_vc Q a0 a1 a2 H := by kernel_rfl
theorem start {Q : AVal → Heap → Prop} {a0 a1 a2 : AVal} {H : Heap} (h : start_vc Q a0 a1 a2 H) : ACalls Try.prog 37 [a0, a1, a2] H Q := acalls_vs (lv := lv) mixed Try.func37 rfl (by kernel_rfl) (by kernel_rfl) (start_eq Q a0 a1 a2 H ▸ h)
end spec_FlipAt


theorem Bld.blk {H0 H : Heap} {v : AVal} {l : List AVal} (h : Bld H0 v H l) (hl : l ≠ []) : ∃ g, v = .own H0.length g 1 0 l.length ∧ H = hnew H0 g l := by
  rcases h with ⟨rfl, _⟩ | h
  · exact absurd rfl hl
  · exact h
/-- One more row, that has been built. -/
theorem rAPKrow {lo : Nat} {Hs H0 H : Heap} {v vr : AVal} {t : List (List Int)} {r : List Int} (h : IsOTab lo H0 v t) (hF : Fresh Hs H0) (hls : Hs.length ≤ lo) (hb : Bld H0 vr H (r.map I)) (hr : r ≠ []) (hlo : lo ≤ H0.length) (hlen : t.length < 1000000000)
    {b : Bool} {K : AVal → Heap → Prop} (k : ∀ v' H', IsOTab lo H' v' (t ++ [r]) → Fresh Hs H' → H0.length ≤ H'.length → K v' H') : APK 1 H v (.sl b 1 [vr]) K := by
  obtain ⟨g, rfl, rfl⟩ := hb.blk (by simpa using hr)
  have hF1 : Fresh Hs (hnew H0 g (r.map I)) := hF.trans (fresh_new H0 g (ifrees_map _))
  have := (h.new g (r.map I)).snoc (gr := g) (r := r) (hget_new _ _ _) hlo hlen (by rw [hlen_new]; omega) (b := b) (K := K) (fun v' H' q1 q2 => k v' H' q1 (hF1.chg hls q2) (by
    obtain ⟨g', cs, _, rfl | ⟨j, _, rfl⟩⟩ := q2
    · rw [hlen_new, hlen_new]; omega
    · rw [hlen_set, hlen_new]; omega))
  rw [List.length_map]; exact this

section
variable {t c : List (List Int)} {v vc : AVal} {Hs : Heap} {Q : AVal → Heap → Prop}
theorem heOfo_in (hv : IsTab v t) (hc : IsTab vc c) (hl : t.length ≤ 100000) (hcl : c.length = t.length) (hs : isSquareB c = true) {H0 : Heap} {i : Nat} (hi : i ≤ t.length) {vo : AVal}
    (hq : ∀ v6 H, Bld H0 v6 H ((tabRow (t.length + 1) (heAt c) i).map I) → spec_heOf.L8 Q v vc vo (I i) v6 (I ((t.length + 1 : Nat) : Int)) H) : ∀ (n j : Nat) (v6 : AVal) (H : Heap), j + n = t.length + 1 → Bld H0 v6 H (((tabRow (t.length + 1) (heAt c) i).take j).map I) →
    spec_heOf.L8 Q v vc vo (I i) v6 (I j) H := by
  have hrl : (tabRow (t.length + 1) (heAt c) i).length = t.length + 1 := by simp [tabRow]
  intro n
  induction n with
  | zero =>
    intro j v6 H hj hb0
    rw [List.take_of_length_le (by omega)] at hb0
    have hj' : j = t.length + 1 := by omega
    subst hj'
    exact hq _ _ hb0
  | succ n ih =>
    intro j v6 H hj hb0
    have hsq : ∀ r ∈ c, r.length = t.length := fun r hr => by rw [sq_len hs hr, hcl]
    apply spec_heOf.step8
    unfold spec_heOf.step8_vc
    repeat' (with_reducible first
 | refine rTT ?_
 | refine rRFL ?_
 | refine rLEN (by assumption) ?_
 | (refine rIXk (by assumption) (by assumption) ?_; intro p hp)
 | (refine rIX (by assumption) (by omega) (by omega) ?_; intro p a ha hp)
 | refine rLDi (by assumption) ?_
 | (refine rLD (by assumption) ?_; intro c hc)
 | refine rADD (by omega) ?_
 | refine rSUB (by omega) ?_
 | refine rLSS ?_
 | refine rLEQ ?_
 | refine rGTR ?_
 | refine rGEQ ?_
 | refine rEQL ?_
 | refine rNEQ ?_
 | refine rNOT ?_
 | (refine rBRK ?_ ?_ <;> intro hb)
 | (refine rBRKn ?_ ?_ <;> intro hb)
 | (refine rBRKnb ?_ ?_ <;> intro hb)
 | (refine rBRKb ?_ ?_ <;> intro hb)
 | (refine rSPL ?_ ?_ <;> intro hb)
 | (refine rSPLn ?_ ?_ <;> intro hb)
 | (refine rSPLnb ?_ ?_ <;> intro hb)
 | (refine rSPLb ?_ ?_ <;> intro hb)
 | (exfalso; omega))
    refine ACalls.mono (sgAt_ok hc (by omega) (fun r hr => by rw [hsq r hr]; omega)) ?_
    rintro r H1 ⟨rfl, rfl⟩
    refine rMULw ?_
    refine rSUBw ?_
    refine rTT (rTT (rTT (rLIT1 rfl (rTT (rTT ?_)))))
    refine rAPK1 hb0 (by simp; omega) fun v' H' hb1 => ?_
    repeat' (with_reducible first
 | refine rTT ?_
 | refine rRFL ?_
 | refine rLEN (by assumption) ?_
 | (refine rIXk (by assumption) (by assumption) ?_; intro p hp)
 | (refine rIX (by assumption) (by omega) (by omega) ?_; intro p a ha hp)
 | refine rLDi (by assumption) ?_
 | (refine rLD (by assumption) ?_; intro c hc)
 | refine rADD (by omega) ?_
 | refine rSUB (by omega) ?_
 | refine rLSS ?_
 | refine rLEQ ?_
 | refine rGTR ?_
 | refine rGEQ ?_
 | refine rEQL ?_
 | refine rNEQ ?_
 | refine rNOT ?_
 | (refine rBRK ?_ ?_ <;> intro hb)
 | (refine rBRKn ?_ ?_ <;> intro hb)
 | (refine rBRKnb ?_ ?_ <;> intro hb)
 | (refine rBRKb ?_ ?_ <;> intro hb)
 | (refine rSPL ?_ ?_ <;> intro hb)
 | (refine rSPLn ?_ ?_ <;> intro hb)
 | (refine rSPLnb ?_ ?_ <;> intro hb)
 | (refine rSPLb ?_ ?_ <;> intro hb)
 | (exfalso; omega))
    refine ih (j + 1) v' H' (by omega) ?_
    have e2 : (tabRow (t.length + 1) (heAt c) i)[j]? = some (heAt c i j) := by simp [tabRow, List.getElem?_range (show j < t.length + 1 by omega)]
    rw [take_some e2]
    simpa [heAt] using hb1
theorem heOfo_out (hv : IsTab v t) (hc : IsTab vc c) (hl : t.length ≤ 100000) (hcl : c.length = t.length) (hs : isSquareB c = true)
    (hq : ∀ v' H', IsOTab Hs.length H' v' (tabT (t.length + 1) (t.length + 1) (heAt c)) → Fresh Hs H' → Q v' H') : ∀ (n i : Nat) (vo : AVal) (H : Heap), i + n = t.length + 1 → IsOTab Hs.length H vo ((List.range i).map (tabRow (t.length + 1) (heAt c))) → Fresh Hs H →
    spec_heOf.L4 Q v vc vo (I i) H := by
  intro n
  induction n with
  | zero =>
    intro i vo H hi ho hF
    apply spec_heOf.step4
    unfold spec_heOf.step4_vc
    repeat' (with_reducible first
 | refine rTT ?_
 | refine rRFL ?_
 | refine rLEN (by assumption) ?_
 | (refine rIXk (by assumption) (by assumption) ?_; intro p hp)
 | (refine rIX (by assumption) (by omega) (by omega) ?_; intro p a ha hp)
 | refine rLDi (by assumption) ?_
 | (refine rLD (by assumption) ?_; intro c hc)
 | refine rADD (by omega) ?_
 | refine rSUB (by omega) ?_
 | refine rLSS ?_
 | refine rLEQ ?_
 | refine rGTR ?_
 | refine rGEQ ?_
 | refine rEQL ?_
 | refine rNEQ ?_
 | refine rNOT ?_
 | (refine rBRK ?_ ?_ <;> intro hb)
 | (refine rBRKn ?_ ?_ <;> intro hb)
 | (refine rBRKnb ?_ ?_ <;> intro hb)
 | (refine rBRKb ?_ ?_ <;> intro hb)
 | (refine rSPL ?_ ?_ <;> intro hb)
 | (refine rSPLn ?_ ?_ <;> intro hb)
 | (refine rSPLnb ?_ ?_ <;> intro hb)
 | (refine rSPLb ?_ ?_ <;> intro hb)
 | (exfalso; omega))
    have : i = t.length + 1 := by omega
    subst this
    exact hq _ _ ho hF
  | succ n ih =>
    intro i vo H hi ho hF
    apply spec_heOf.step4
    unfold spec_heOf.step4_vc
    repeat' (with_reducible first
 | refine rTT ?_
 | refine rRFL ?_
 | refine rLEN (by assumption) ?_
 | (refine rIXk (by assumption) (by assumption) ?_; intro p hp)
 | (refine rIX (by assumption) (by omega) (by omega) ?_; intro p a ha hp)
 | refine rLDi (by assumption) ?_
 | (refine rLD (by assumption) ?_; intro c hc)
 | refine rADD (by omega) ?_
 | refine rSUB (by omega) ?_
 | refine rLSS ?_
 | refine rLEQ ?_
 | refine rGTR ?_
 | refine rGEQ ?_
 | refine rEQL ?_
 | refine rNEQ ?_
 | refine rNOT ?_
 | (refine rBRK ?_ ?_ <;> intro hb)
 | (refine rBRKn ?_ ?_ <;> intro hb)
 | (refine rBRKnb ?_ ?_ <;> intro hb)
 | (refine rBRKb ?_ ?_ <;> intro hb)
 | (refine rSPL ?_ ?_ <;> intro hb)
 | (refine rSPLn ?_ ?_ <;> intro hb)
 | (refine rSPLnb ?_ ?_ <;> intro hb)
 | (refine rSPLb ?_ ?_ <;> intro hb)
 | (exfalso; omega))
    refine heOfo_in hv hc hl hcl hs (i := i) (by omega) (fun v6 H6 h6 => ?_) (t.length + 1) 0 _ _ (by omega) (bld_nil H)
    apply spec_heOf.step8
    unfold spec_heOf.step8_vc
    repeat' (with_reducible first
 | refine rTT ?_
 | refine rRFL ?_
 | refine rLEN (by assumption) ?_
 | (refine rIXk (by assumption) (by assumption) ?_; intro p hp)
 | (refine rIX (by assumption) (by omega) (by omega) ?_; intro p a ha hp)
 | refine rLDi (by assumption) ?_
 | (refine rLD (by assumption) ?_; intro c hc)
 | refine rADD (by omega) ?_
 | refine rSUB (by omega) ?_
 | refine rLSS ?_
 | refine rLEQ ?_
 | refine rGTR ?_
 | refine rGEQ ?_
 | refine rEQL ?_
 | refine rNEQ ?_
 | refine rNOT ?_
 | (refine rBRK ?_ ?_ <;> intro hb)
 | (refine rBRKn ?_ ?_ <;> intro hb)
 | (refine rBRKnb ?_ ?_ <;> intro hb)
 | (refine rBRKb ?_ ?_ <;> intro hb)
 | (refine rSPL ?_ ?_ <;> intro hb)
 | (refine rSPLn ?_ ?_ <;> intro hb)
 | (refine rSPLnb ?_ ?_ <;> intro hb)
 | (refine rSPLb ?_ ?_ <;> intro hb)
 | (exfalso; omega))
    obtain ⟨g6, rfl, rfl⟩ := h6.blk (by simp [tabRow])
    refine rLIT1 rfl ?_
    repeat' (with_reducible first
 | refine rTT ?_
 | refine rRFL ?_
 | refine rLEN (by assumption) ?_
 | (refine rIXk (by assumption) (by assumption) ?_; intro p hp)
 | (refine rIX (by assumption) (by omega) (by omega) ?_; intro p a ha hp)
 | refine rLDi (by assumption) ?_
 | (refine rLD (by assumption) ?_; intro c hc)
 | refine rADD (by omega) ?_
 | refine rSUB (by omega) ?_
 | refine rLSS ?_
 | refine rLEQ ?_
 | refine rGTR ?_
 | refine rGEQ ?_
 | refine rEQL ?_
 | refine rNEQ ?_
 | refine rNOT ?_
 | (refine rBRK ?_ ?_ <;> intro hb)
 | (refine rBRKn ?_ ?_ <;> intro hb)
 | (refine rBRKnb ?_ ?_ <;> intro hb)
 | (refine rBRKb ?_ ?_ <;> intro hb)
 | (refine rSPL ?_ ?_ <;> intro hb)
 | (refine rSPLn ?_ ?_ <;> intro hb)
 | (refine rSPLnb ?_ ?_ <;> intro hb)
 | (refine rSPLb ?_ ?_ <;> intro hb)
 | (exfalso; omega))
    refine rAPKrow ho hF (Nat.le_refl _) h6 (by simp [tabRow]) hF.len (by simp; omega) fun v' H' h1 h2 h3 => ?_
    repeat' (with_reducible first
 | refine rTT ?_
 | refine rRFL ?_
 | refine rLEN (by assumption) ?_
 | (refine rIXk (by assumption) (by assumption) ?_; intro p hp)
 | (refine rIX (by assumption) (by omega) (by omega) ?_; intro p a ha hp)
 | refine rLDi (by assumption) ?_
 | (refine rLD (by assumption) ?_; intro c hc)
 | refine rADD (by omega) ?_
 | refine rSUB (by omega) ?_
 | refine rLSS ?_
 | refine rLEQ ?_
 | refine rGTR ?_
 | refine rGEQ ?_
 | refine rEQL ?_
 | refine rNEQ ?_
 | refine rNOT ?_
 | (refine rBRK ?_ ?_ <;> intro hb)
 | (refine rBRKn ?_ ?_ <;> intro hb)
 | (refine rBRKnb ?_ ?_ <;> intro hb)
 | (refine rBRKb ?_ ?_ <;> intro hb)
 | (refine rSPL ?_ ?_ <;> intro hb)
 | (refine rSPLn ?_ ?_ <;> intro hb)
 | (refine rSPLnb ?_ ?_ <;> intro hb)
 | (refine rSPLb ?_ ?_ <;> intro hb)
 | (exfalso; omega))
    refine ih (i + 1) v' H' (by omega) ?_ h2
    rw [List.range_succ, List.map_append]; exact h1
theorem heOfo_ok {H : Heap} (hv : IsTab v t) (hl : t.length ≤ 100000) (hs : isSquareB t = true) : ACalls Try.prog 61 [v] H fun r H' => IsOTab H.length H' r (heightsF t) ∧ Fresh H H' := by
  apply spec_heOf.start
  unfold spec_heOf.start_vc
  refine ACalls.mono (corners_ok hv hl hs) ?_
  rintro vc H1 ⟨h1, rfl⟩
  have hcl : (tabT t.length t.length (cornAt t)).length = t.length := by simp [tabT]
  have hcs : isSquareB (tabT t.length t.length (cornAt t)) = true := by
    simp only [isSquareB, List.all_eq_true, decide_eq_true_eq, hcl]; exact tabT_sq
  rw [← heights_eq hl]
  exact heOfo_out hv h1 hl hcl hcs (fun v' H' h2 h3 => ⟨h2, h3⟩) (t.length + 1) 0 _ _ (by omega) (.inl ⟨rfl, rfl⟩) (Fresh.refl _)
end

/-! ### Ways -/
/-- all around are the same -/
def sameB (h : List (List Int)) (i j : Nat) (x : Int) : Bool := (decide (getM h (i - 1) j = x) && decide (getM h (i + 1) j = x)) && (decide (getM h i (j - 1) = x) && decide (getM h i (j + 1) = x))
def heWayF (h : List (List Int)) (i j : Nat) : Int := if sameB h i j (w64 (getM h i j + 1)) = true then 1 else if sameB h i j (w64 (getM h i j - 1)) = true then -1 else 0
theorem getM_at {h : List (List Int)} {i j : Nat} {r : List Int} {x : Int} (hr : h[i]? = some r) (hx : r[j]? = some x) : getM h i j = x := by simp [getM, List.getD, hr, hx]
theorem rLITc {v : AVal} {vs : List AVal} {K : List AVal → Prop} (hv : v.one = true) (h : allCells 1 vs fun cs => K (v :: cs)) : allCells 1 (v :: vs) K := by
  unfold allCells
  exact cells_one hv ⟨rfl, h⟩
theorem isI_list (l : List Int) (x : Bool) : IsInts (.sl x l.length (l.map I)) l := isInts_map x l
theorem heWay_ok {h : List (List Int)} {v : AVal} {i j n : Nat} (hv : IsTab v h) (hl : h.length = n) (hsq : ∀ r ∈ h, r.length = n) (hi : 1 ≤ i) (hi2 : i + 1 < n) (hj : 1 ≤ j) (hj2 : j + 1 < n) (hn : n ≤ 1000000) {H : Heap} :
    ACalls Try.prog 62 [v, I i, I j] H fun r H' => r = I (heWayF h i j) ∧ H' = H := by
  obtain ⟨r1, hr1⟩ := ex_get (l := h) (k := i - 1) (by omega)
  obtain ⟨r2, hr2⟩ := ex_get (l := h) (k := i) (by omega)
  obtain ⟨r3, hr3⟩ := ex_get (l := h) (k := i + 1) (by omega)
  have l1 := hsq _ (getElem_mem' hr1)
  have l2 := hsq _ (getElem_mem' hr2)
  have l3 := hsq _ (getElem_mem' hr3)
  obtain ⟨x1, hx1⟩ := ex_get (l := r1) (k := j) (by omega)
  obtain ⟨x2, hx2⟩ := ex_get (l := r2) (k := j) (by omega)
  obtain ⟨x3, hx3⟩ := ex_get (l := r3) (k := j) (by omega)
  obtain ⟨x4, hx4⟩ := ex_get (l := r2) (k := j - 1) (by omega)
  obtain ⟨x5, hx5⟩ := ex_get (l := r2) (k := j + 1) (by omega)
  have e1 : (i : Int) - 1 = ((i - 1 : Nat) : Int) := by omega
  have e2 : (i : Int) + 1 = ((i + 1 : Nat) : Int) := by omega
  have e3 : (j : Int) - 1 = ((j - 1 : Nat) : Int) := by omega
  have e4 : (j : Int) + 1 = ((j + 1 : Nat) : Int) := by omega
  apply spec_heWay.start
  unfold spec_heWay.start_vc
  repeat' (first
 | ((with_reducible refine rIXk hv hr1 ?_; intro p hp))
 | ((with_reducible refine rIXk hv hr2 ?_; intro p hp))
 | (rw [e1])
 | (rw [e2])
 | (rw [e3])
 | (rw [e4])
 | with_reducible first
 | refine rTT ?_
 | refine rRFL ?_
 | refine rLEN (by assumption) ?_
 | (refine rIXk (by assumption) (by assumption) ?_; intro p hp)
 | (refine rIX (by assumption) (by omega) (by omega) ?_; intro p a ha hp)
 | refine rLDi (by assumption) ?_
 | (refine rLD (by assumption) ?_; intro c hc)
 | refine rADD (by omega) ?_
 | refine rSUB (by omega) ?_
 | refine rLSS ?_
 | refine rLEQ ?_
 | refine rGTR ?_
 | refine rGEQ ?_
 | refine rEQL ?_
 | refine rNEQ ?_
 | refine rNOT ?_
 | (refine rBRK ?_ ?_ <;> intro hb)
 | (refine rBRKn ?_ ?_ <;> intro hb)
 | (refine rBRKnb ?_ ?_ <;> intro hb)
 | (refine rBRKb ?_ ?_ <;> intro hb)
 | (refine rSPL ?_ ?_ <;> intro hb)
 | (refine rSPLn ?_ ?_ <;> intro hb)
 | (refine rSPLnb ?_ ?_ <;> intro hb)
 | (refine rSPLb ?_ ?_ <;> intro hb)
 | (exfalso; omega))
  refine rLITc rfl (rLITc rfl (rLITc rfl (rLITc rfl ?_)))
  refine rADDw ?_
  refine rADDw ?_
  have hA := isI_list [x1, x3, x4, x5] true
  refine ACalls.mono (l1All_ok hA (by simp)) ?_
  rintro r H1 ⟨rfl, rfl⟩
  have key : ∀ x : Int, ([x1, x3, x4, x5].all fun n => decide (x ≤ n ∧ n ≤ x)) = sameB h i j x := by
    intro x
    unfold sameB
    rw [getM_at hr1 hx1, getM_at hr3 hx3, getM_at hr2 hx4, getM_at hr2 hx5]
    have : ∀ y : Int, decide (x ≤ y ∧ y ≤ x) = decide (y = x) := fun y => by simp only [decide_eq_decide]; omega
    simp only [List.all_cons, List.all_nil, this, Bool.and_true, Bool.and_assoc]
  rw [key]
  have e0 : getM h i j = x2 := getM_at hr2 hx2
  unfold heWayF
  rw [e0]
  refine rBRKb (fun hb => ?_) (fun hb => ?_)
  · exact ⟨by rw [if_pos hb], rfl⟩
  · refine rSUBw ?_
    refine rSUBw ?_
    refine ACalls.mono (l1All_ok hA (by simp)) ?_
    rintro r H2 ⟨rfl, rfl⟩
    rw [key]
    refine rBRKb (fun hb2 => ?_) (fun hb2 => ?_)
    · exact ⟨by rw [hb]; rw [if_neg (by decide), if_pos hb2], rfl⟩
    · exact ⟨by rw [hb]; rw [if_neg (by decide), hb2]; rfl, rfl⟩

end Go.Proofs.Ytccioplhchmilaa.AL

set_option linter.unusedVariables false
set_option maxRecDepth 100000
namespace Go.Proofs.Ytccioplhchmilaa.AL
open Go Go.Proofs

/-- Cells that stand for things, one by one. -/
def Rel2 {α : Type} (R : AVal → α → Prop) (ls : List AVal) (xs : List α) : Prop := ls.length = xs.length ∧ ∀ (i : Nat) (c : AVal) (a : α), ls[i]? = some c → xs[i]? = some a → R c a
theorem Rel2.nil {α : Type} {R : AVal → α → Prop} : Rel2 R [] ([] : List α) := ⟨rfl, fun i c a h => by simp at h⟩
theorem Rel2.snoc {α : Type} {R : AVal → α → Prop} {ls : List AVal} {xs : List α} (h : Rel2 R ls xs) {c : AVal} {a : α} (hc : R c a) : Rel2 R (ls ++ [c]) (xs ++ [a]) := by
  refine ⟨by simp [h.1], fun i d b h1 h2 => ?_⟩
  rw [List.getElem?_append] at h1 h2
  by_cases hi : i < ls.length
  · rw [if_pos hi] at h1; rw [if_pos (by rw [← h.1]; exact hi)] at h2; exact h.2 i d b h1 h2
  · rw [if_neg hi] at h1; rw [if_neg (by rw [← h.1]; exact hi)] at h2
    have e : i - ls.length = 0 := by
      have := (List.getElem?_eq_some_iff.1 h1).1
      simp at this; omega
    rw [e] at h1; rw [← h.1, e] at h2
    cases h1; cases h2; exact hc
theorem Bld.rel {α : Type} {R : AVal → α → Prop} {H0 H : Heap} {v : AVal} {ls : List AVal} {xs : List α} {Q : AVal → Heap → Prop} (h : Bld H0 v H ls) (hr : Rel2 R ls xs) (hq : ∀ r, IsSl R r xs → Q r H0) : HSub H0 H ∧ ∃ k r', Pur (nw H0 H) k v r' ∧ Q r' H0 :=
  h.done hr.1 hr.2 hq
theorem Bld.relP {α : Type} {R : AVal → α → Prop} {H0 H : Heap} {v : AVal} {ls : List AVal} {xs : List α} (h : Bld H0 v H ls) (hr : Rel2 R ls xs) : HSub H0 H ∧ ∃ k r', Pur (nw H0 H) k v r' ∧ (IsSl R r' xs ∧ H0 = H0) :=
  h.rel (Q := fun r H => IsSl R r xs ∧ H = H0) hr fun r hr => ⟨hr, rfl⟩
theorem rLITe {K : List AVal → Prop} (h : K []) : allCells 1 [] K := h
/-- A literal that is never written. -/
theorem rLITn {vs : List AVal} {H : Heap} {K : AVal → Heap → Prop} (h : allCells 1 vs fun cs => K (.sl true vs.length cs) H) : BSK 1 vs H K := by
  have mono : ∀ {vs : List AVal} {K K' : List AVal → Prop}, (∀ cs, K cs → K' cs) → allCells 1 vs K → allCells 1 vs K' := by
    intro vs
    induction vs with
    | nil => intro K K' h k; exact h _ k
    | cons v vs ih =>
      intro K K' h k
      have c : ∀ {v : AVal} {K K' : List AVal → Prop}, (∀ cs, K cs → K' cs) → cellsOfV v K → cellsOfV v K' := by
        intro v K K' h k
        cases v <;> first | exact h _ k | exact ⟨k.1, h _ k.2⟩
      exact c (fun cs k => ⟨k.1, ih (fun ds k => h _ k) k.2⟩) k
  exact mono (fun cs k => .inr k) h

/-! ### Cells -/
def cellsRow (p : Nat → Bool) (i : Nat) : Nat → Nat → List (List Int)
  | _, 0 => []
  | j, m + 1 => (if p j = true then [[(i : Int), (j : Int)]] else []) ++ cellsRow p i (j + 1) m
def cellsFrom (p : Nat → Nat → Bool) (n : Nat) : Nat → Nat → List (List Int)
  | _, 0 => []
  | i, m + 1 => cellsRow (p i) i 1 n ++ cellsFrom p n (i + 1) m
/-- The cells of n + 1 rows of numbers of which p holds. -/
def cellsF (p : Nat → Nat → Bool) (n : Nat) : List (List Int) := cellsFrom p n 1 n
theorem cellsRow_len (p : Nat → Bool) (i : Nat) : ∀ (m j : Nat), (cellsRow p i j m).length ≤ m
  | 0, j => by simp [cellsRow]
  | m + 1, j => by
    have := cellsRow_len p i m (j + 1)
    simp only [cellsRow, List.length_append]
    split <;> simp <;> omega
theorem isInts_pair (a b : Int) : IsInts (.sl true 2 [I a, I b]) [a, b] := isI_list [a, b] true

section
variable {h : List (List Int)} {v : AVal} {n : Nat} {w : Int} {H0 : Heap} {Q : AVal → Heap → Prop}
theorem heFlips_in (hv : IsTab v h) (hl : h.length = n) (hsq : ∀ r ∈ h, r.length = n) (hn : n ≤ 1000) {i : Nat} (hi : 1 ≤ i) (hi2 : i + 1 < n) {L : List (List Int)}
    (hq : ∀ v5 H ls, Bld H0 v5 H ls → Rel2 IsInts ls (L ++ cellsRow (fun j => decide (heWayF h i j = w)) i 1 (n - 2)) → spec_heFlips.L3 Q v (I w) v5 (I (i + 1 : Nat)) H) :
    ∀ (m j : Nat) (v5 : AVal) (H : Heap) (ls : List AVal) (L1 : List (List Int)), 1 ≤ j → j + m + 1 = n → Bld H0 v5 H ls → Rel2 IsInts ls L1 → ls.length ≤ 1000 * i + j → L1 ++ cellsRow (fun j => decide (heWayF h i j = w)) i j m = L ++ cellsRow (fun j => decide (heWayF h i j = w)) i 1 (n - 2) →
    spec_heFlips.L6 Q v (I w) v5 (I i) (I j) H := by
  intro m
  induction m with
  | zero =>
    intro j v5 H ls L1 hj hjm hb0 hr hls he
    apply spec_heFlips.step6
    unfold spec_heFlips.step6_vc
    repeat' (with_reducible first
 | refine rTT ?_
 | refine rRFL ?_
 | refine rLEN (by assumption) ?_
 | (refine rIXk (by assumption) (by assumption) ?_; intro p hp)
 | (refine rIX (by assumption) (by omega) (by omega) ?_; intro p a ha hp)
 | refine rLDi (by assumption) ?_
 | (refine rLD (by assumption) ?_; intro c hc)
 | refine rADD (by omega) ?_
 | refine rSUB (by omega) ?_
 | refine rLSS ?_
 | refine rLEQ ?_
 | refine rGTR ?_
 | refine rGEQ ?_
 | refine rEQL ?_
 | refine rNEQ ?_
 | refine rNOT ?_
 | (refine rBRK ?_ ?_ <;> intro hb)
 | (refine rBRKn ?_ ?_ <;> intro hb)
 | (refine rBRKnb ?_ ?_ <;> intro hb)
 | (refine rBRKb ?_ ?_ <;> intro hb)
 | (refine rSPL ?_ ?_ <;> intro hb)
 | (refine rSPLn ?_ ?_ <;> intro hb)
 | (refine rSPLnb ?_ ?_ <;> intro hb)
 | (refine rSPLb ?_ ?_ <;> intro hb)
 | (exfalso; omega))
    rw [cellsRow, List.append_nil] at he
    exact hq _ _ ls hb0 (he ▸ hr)
  | succ m ih =>
    intro j v5 H ls L1 hj hjm hb0 hr hls he
    apply spec_heFlips.step6
    unfold spec_heFlips.step6_vc
    repeat' (with_reducible first
 | refine rTT ?_
 | refine rRFL ?_
 | refine rLEN (by assumption) ?_
 | (refine rIXk (by assumption) (by assumption) ?_; intro p hp)
 | (refine rIX (by assumption) (by omega) (by omega) ?_; intro p a ha hp)
 | refine rLDi (by assumption) ?_
 | (refine rLD (by assumption) ?_; intro c hc)
 | refine rADD (by omega) ?_
 | refine rSUB (by omega) ?_
 | refine rLSS ?_
 | refine rLEQ ?_
 | refine rGTR ?_
 | refine rGEQ ?_
 | refine rEQL ?_
 | refine rNEQ ?_
 | refine rNOT ?_
 | (refine rBRK ?_ ?_ <;> intro hb)
 | (refine rBRKn ?_ ?_ <;> intro hb)
 | (refine rBRKnb ?_ ?_ <;> intro hb)
 | (refine rBRKb ?_ ?_ <;> intro hb)
 | (refine rSPL ?_ ?_ <;> intro hb)
 | (refine rSPLn ?_ ?_ <;> intro hb)
 | (refine rSPLnb ?_ ?_ <;> intro hb)
 | (refine rSPLb ?_ ?_ <;> intro hb)
 | (exfalso; omega))
    refine ACalls.mono (heWay_ok hv hl hsq hi hi2 hj (by omega) (by omega)) ?_
    rintro r H1 ⟨rfl, rfl⟩
    repeat' (with_reducible first
 | refine rTT ?_
 | refine rRFL ?_
 | refine rLEN (by assumption) ?_
 | (refine rIXk (by assumption) (by assumption) ?_; intro p hp)
 | (refine rIX (by assumption) (by omega) (by omega) ?_; intro p a ha hp)
 | refine rLDi (by assumption) ?_
 | (refine rLD (by assumption) ?_; intro c hc)
 | refine rADD (by omega) ?_
 | refine rSUB (by omega) ?_
 | refine rLSS ?_
 | refine rLEQ ?_
 | refine rGTR ?_
 | refine rGEQ ?_
 | refine rEQL ?_
 | refine rNEQ ?_
 | refine rNOT ?_
 | (refine rBRK ?_ ?_ <;> intro hb)
 | (refine rBRKn ?_ ?_ <;> intro hb)
 | (refine rBRKnb ?_ ?_ <;> intro hb)
 | (refine rBRKb ?_ ?_ <;> intro hb)
 | (refine rSPL ?_ ?_ <;> intro hb)
 | (refine rSPLn ?_ ?_ <;> intro hb)
 | (refine rSPLnb ?_ ?_ <;> intro hb)
 | (refine rSPLb ?_ ?_ <;> intro hb)
 | (exfalso; omega))
    · refine rLITn (rLITc rfl (rLITc rfl (rLITe ?_)))
      repeat' (with_reducible first
 | refine rTT ?_
 | refine rRFL ?_
 | refine rLEN (by assumption) ?_
 | (refine rIXk (by assumption) (by assumption) ?_; intro p hp)
 | (refine rIX (by assumption) (by omega) (by omega) ?_; intro p a ha hp)
 | refine rLDi (by assumption) ?_
 | (refine rLD (by assumption) ?_; intro c hc)
 | refine rADD (by omega) ?_
 | refine rSUB (by omega) ?_
 | refine rLSS ?_
 | refine rLEQ ?_
 | refine rGTR ?_
 | refine rGEQ ?_
 | refine rEQL ?_
 | refine rNEQ ?_
 | refine rNOT ?_
 | (refine rBRK ?_ ?_ <;> intro hb)
 | (refine rBRKn ?_ ?_ <;> intro hb)
 | (refine rBRKnb ?_ ?_ <;> intro hb)
 | (refine rBRKb ?_ ?_ <;> intro hb)
 | (refine rSPL ?_ ?_ <;> intro hb)
 | (refine rSPLn ?_ ?_ <;> intro hb)
 | (refine rSPLnb ?_ ?_ <;> intro hb)
 | (refine rSPLb ?_ ?_ <;> intro hb)
 | (exfalso; omega))
      refine rLIT1 rfl ?_
      repeat' (with_reducible first
 | refine rTT ?_
 | refine rRFL ?_
 | refine rLEN (by assumption) ?_
 | (refine rIXk (by assumption) (by assumption) ?_; intro p hp)
 | (refine rIX (by assumption) (by omega) (by omega) ?_; intro p a ha hp)
 | refine rLDi (by assumption) ?_
 | (refine rLD (by assumption) ?_; intro c hc)
 | refine rADD (by omega) ?_
 | refine rSUB (by omega) ?_
 | refine rLSS ?_
 | refine rLEQ ?_
 | refine rGTR ?_
 | refine rGEQ ?_
 | refine rEQL ?_
 | refine rNEQ ?_
 | refine rNOT ?_
 | (refine rBRK ?_ ?_ <;> intro hb)
 | (refine rBRKn ?_ ?_ <;> intro hb)
 | (refine rBRKnb ?_ ?_ <;> intro hb)
 | (refine rBRKb ?_ ?_ <;> intro hb)
 | (refine rSPL ?_ ?_ <;> intro hb)
 | (refine rSPLn ?_ ?_ <;> intro hb)
 | (refine rSPLnb ?_ ?_ <;> intro hb)
 | (refine rSPLb ?_ ?_ <;> intro hb)
 | (exfalso; omega))
      refine rAPK1 hb0 (by omega) fun v' H' hb1 => ?_
      repeat' (with_reducible first
 | refine rTT ?_
 | refine rRFL ?_
 | refine rLEN (by assumption) ?_
 | (refine rIXk (by assumption) (by assumption) ?_; intro p hp)
 | (refine rIX (by assumption) (by omega) (by omega) ?_; intro p a ha hp)
 | refine rLDi (by assumption) ?_
 | (refine rLD (by assumption) ?_; intro c hc)
 | refine rADD (by omega) ?_
 | refine rSUB (by omega) ?_
 | refine rLSS ?_
 | refine rLEQ ?_
 | refine rGTR ?_
 | refine rGEQ ?_
 | refine rEQL ?_
 | refine rNEQ ?_
 | refine rNOT ?_
 | (refine rBRK ?_ ?_ <;> intro hb)
 | (refine rBRKn ?_ ?_ <;> intro hb)
 | (refine rBRKnb ?_ ?_ <;> intro hb)
 | (refine rBRKb ?_ ?_ <;> intro hb)
 | (refine rSPL ?_ ?_ <;> intro hb)
 | (refine rSPLn ?_ ?_ <;> intro hb)
 | (refine rSPLnb ?_ ?_ <;> intro hb)
 | (refine rSPLb ?_ ?_ <;> intro hb)
 | (exfalso; omega))
      refine ih (j + 1) v' H' _ (L1 ++ [[(i : Int), (j : Int)]]) (by omega) (by omega) hb1 (hr.snoc (isInts_pair _ _)) (by simp; omega) ?_
      rw [cellsRow, if_pos (decide_eq_true hb), ← List.append_assoc] at he
      exact he
    · refine ih (j + 1) v5 _ ls L1 (by omega) (by omega) hb0 hr (by omega) ?_
      rw [cellsRow, if_neg (by rw [decide_eq_false hb]; decide), List.nil_append] at he
      exact he
theorem heFlips_out (hv : IsTab v h) (hl : h.length = n) (hsq : ∀ r ∈ h, r.length = n) (hn : n ≤ 1000) {L : List (List Int)}
    (hq : ∀ v5 H ls, Bld H0 v5 H ls → Rel2 IsInts ls L → Q v5 H) :
    ∀ (m i : Nat) (v5 : AVal) (H : Heap) (ls : List AVal) (L1 : List (List Int)), 1 ≤ i → (m = 0 ∧ n ≤ i + 1 ∨ i + m + 1 = n) → Bld H0 v5 H ls → Rel2 IsInts ls L1 → ls.length ≤ 1000 * i → L1 ++ cellsFrom (fun i j => decide (heWayF h i j = w)) (n - 2) i m = L →
    spec_heFlips.L3 Q v (I w) v5 (I i) H := by
  intro m
  induction m with
  | zero =>
    intro i v5 H ls L1 hi him hb0 hr hls he
    apply spec_heFlips.step3
    unfold spec_heFlips.step3_vc
    repeat' (with_reducible first
 | refine rTT ?_
 | refine rRFL ?_
 | refine rLEN (by assumption) ?_
 | (refine rIXk (by assumption) (by assumption) ?_; intro p hp)
 | (refine rIX (by assumption) (by omega) (by omega) ?_; intro p a ha hp)
 | refine rLDi (by assumption) ?_
 | (refine rLD (by assumption) ?_; intro c hc)
 | refine rADD (by omega) ?_
 | refine rSUB (by omega) ?_
 | refine rLSS ?_
 | refine rLEQ ?_
 | refine rGTR ?_
 | refine rGEQ ?_
 | refine rEQL ?_
 | refine rNEQ ?_
 | refine rNOT ?_
 | (refine rBRK ?_ ?_ <;> intro hb)
 | (refine rBRKn ?_ ?_ <;> intro hb)
 | (refine rBRKnb ?_ ?_ <;> intro hb)
 | (refine rBRKb ?_ ?_ <;> intro hb)
 | (refine rSPL ?_ ?_ <;> intro hb)
 | (refine rSPLn ?_ ?_ <;> intro hb)
 | (refine rSPLnb ?_ ?_ <;> intro hb)
 | (refine rSPLb ?_ ?_ <;> intro hb)
 | (exfalso; omega))
    rw [cellsFrom, List.append_nil] at he
    exact hq _ _ ls hb0 (he ▸ hr)
  | succ m ih =>
    intro i v5 H ls L1 hi him hb0 hr hls he
    apply spec_heFlips.step3
    unfold spec_heFlips.step3_vc
    repeat' (with_reducible first
 | refine rTT ?_
 | refine rRFL ?_
 | refine rLEN (by assumption) ?_
 | (refine rIXk (by assumption) (by assumption) ?_; intro p hp)
 | (refine rIX (by assumption) (by omega) (by omega) ?_; intro p a ha hp)
 | refine rLDi (by assumption) ?_
 | (refine rLD (by assumption) ?_; intro c hc)
 | refine rADD (by omega) ?_
 | refine rSUB (by omega) ?_
 | refine rLSS ?_
 | refine rLEQ ?_
 | refine rGTR ?_
 | refine rGEQ ?_
 | refine rEQL ?_
 | refine rNEQ ?_
 | refine rNOT ?_
 | (refine rBRK ?_ ?_ <;> intro hb)
 | (refine rBRKn ?_ ?_ <;> intro hb)
 | (refine rBRKnb ?_ ?_ <;> intro hb)
 | (refine rBRKb ?_ ?_ <;> intro hb)
 | (refine rSPL ?_ ?_ <;> intro hb)
 | (refine rSPLn ?_ ?_ <;> intro hb)
 | (refine rSPLnb ?_ ?_ <;> intro hb)
 | (refine rSPLb ?_ ?_ <;> intro hb)
 | (exfalso; omega))
    show spec_heFlips.L6 Q v (I w) v5 (I i) (I (1 : Nat)) H
    refine heFlips_in hv hl hsq hn hi (by omega) (fun v5 H ls' hb1 hr1 => ?_) (n - 2) 1 v5 H ls L1 (by omega) (by omega) hb0 hr (by omega) rfl
    refine ih (i + 1) v5 H ls' _ (by omega) (by omega) hb1 hr1 ?_ ?_
    · rw [hr1.1, List.length_append, ← hr.1]
      have := cellsRow_len (fun j => decide (heWayF h i j = w)) i (n - 2) 1
      omega
    · rw [cellsFrom] at he
      rw [List.append_assoc]; exact he
def heFlipsF (h : List (List Int)) (w : Int) : List (List Int) := cellsF (fun i j => decide (heWayF h i j = w)) (h.length - 2)
theorem heFlips_ok {H : Heap} (hv : IsTab v h) (hl : h.length = n) (hsq : ∀ r ∈ h, r.length = n) (hn : n ≤ 1000) (h1 : 1 ≤ n) : ACalls Try.prog 100 [v, I w] H fun r H' => IsTab r (heFlipsF h w) ∧ H' = H := by
  apply ACalls.pure
  apply spec_heFlips.start
  unfold spec_heFlips.start_vc
  unfold heFlipsF cellsF
  rw [hl]
  show spec_heFlips.L3 _ v (I w) .nilS (I (1 : Nat)) H
  refine heFlips_out hv hl hsq hn (fun v5 H1 ls hb1 hr1 => hb1.relP hr1) (n - 2) 1 _ _ [] [] (by omega) (by omega) (bld_nil H) Rel2.nil (by simp) (by simp)
end

theorem heCell_ok {n i j : Int} {H : Heap} (hn : R64 (n - 1)) : ACalls Try.prog 72 [I n, I i, I j] H fun r H' => r = .bool (decide ((1 ≤ i ∧ i ≤ n - 1) ∧ (1 ≤ j ∧ j ≤ n - 1))) ∧ H' = H := by
  apply spec_heCell.start
  unfold spec_heCell.start_vc
  repeat' (with_reducible first
 | refine rTT ?_
 | (refine ACalls.mono (l1In_ok) ?_; rintro r H' ⟨rfl, rfl⟩)
 | refine rRFL ?_
 | refine rLEN (by assumption) ?_
 | (refine rIXk (by assumption) (by assumption) ?_; intro p hp)
 | (refine rIX (by assumption) (by omega) (by omega) ?_; intro p a ha hp)
 | refine rLDi (by assumption) ?_
 | (refine rLD (by assumption) ?_; intro c hc)
 | refine rADD (by omega) ?_
 | refine rSUB (by omega) ?_
 | refine rLSS ?_
 | refine rLEQ ?_
 | refine rGTR ?_
 | refine rGEQ ?_
 | refine rEQL ?_
 | refine rNEQ ?_
 | refine rNOT ?_
 | (refine rBRK ?_ ?_ <;> intro hb)
 | (refine rBRKn ?_ ?_ <;> intro hb)
 | (refine rBRKnb ?_ ?_ <;> intro hb)
 | (refine rBRKb ?_ ?_ <;> intro hb)
 | (refine rSPL ?_ ?_ <;> intro hb)
 | (refine rSPLn ?_ ?_ <;> intro hb)
 | (refine rSPLnb ?_ ?_ <;> intro hb)
 | (refine rSPLb ?_ ?_ <;> intro hb)
 | (exfalso; omega))
  · refine ⟨?_, rfl⟩
    congr 1
    simp only [decide_eq_decide]
    omega
  · refine ⟨?_, rfl⟩
    congr 1
    symm
    rw [decide_eq_false_iff_not]; omega

end Go.Proofs.Ytccioplhchmilaa.AL

set_option linter.unusedVariables false
set_option maxRecDepth 100000
namespace Go.Proofs.Ytccioplhchmilaa.AL
open Go Go.Proofs

/-- What is not written any more is frozen ahead of a call. -/
theorem ACalls.frz {P : Program} {f : FuncId} {args args' : List AVal} {H Hf Hk : Heap} {Q : AVal → Heap → Prop} (hs : Split H Hf Hk) {k : Nat} (hp : All2 (Pur Hf k) args args') (h : ACalls P f args' Hk Q) : ACalls P f args H Q := by
  refine ⟨h.1, fun w I B vs K hH hv post => ?_⟩
  refine h.2 w (fzI I Hf) B vs K (hH.freeze hs) (All2.vrels (pur_val (hH.sub hs.fz) k) (VRels.mono (ext_fz I Hf w B) hv) hp) ?_
  intro r H' w' I' v q hH' hv' he
  exact post r H' w' I' v q hH' hv' ((ext_fz I Hf w B).trans he)

/-- A number of a table is set. -/
def setM (t : List (List Int)) (i j : Nat) (x : Int) : List (List Int) := t.set i ((t.getD i []).set j x)
theorem setM_len (t : List (List Int)) (i j : Nat) (x : Int) : (setM t i j x).length = t.length := by simp [setM]
theorem setM_sq {t : List (List Int)} {c : Nat} (hs : ∀ r ∈ t, r.length = c) {i j : Nat} (hi : i < t.length) {x : Int} : ∀ r ∈ setM t i j x, r.length = c := by
  intro r hr
  rcases List.mem_or_eq_of_mem_set hr with h | rfl
  · exact hs r h
  · rw [List.length_set]; exact hs _ (getD_mem hi _)

theorem heWay_own {h : List (List Int)} {v : AVal} {i j n lo : Nat} {H : Heap} (hv : IsOTab lo H v h) (hl : h.length = n) (hsq : ∀ r ∈ h, r.length = n) (hi : 1 ≤ i) (hi2 : i + 1 < n) (hj : 1 ≤ j) (hj2 : j + 1 < n) (hn : n ≤ 1000000) :
    ACalls Try.prog 62 [v, I i, I j] H fun r H' => r = I (heWayF h i j) ∧ H' = H := by
  obtain ⟨v', h1, h2⟩ := hv.pur (Hf := H) fun _ _ => rfl
  exact lend_flat (k := 2) (args' := [v', I i, I j]) (Q0 := fun r => r = I (heWayF h i j)) ⟨v', _, rfl, h1, _, _, rfl, Pur.refl _ _ _, _, _, rfl, Pur.refl _ _ _, rfl⟩ (by rintro r rfl; rfl) fun H => heWay_ok h2 hl hsq hi hi2 hj hj2 hn
theorem heWayF_cases (h : List (List Int)) (i j : Nat) : heWayF h i j = 1 ∨ heWayF h i j = -1 ∨ heWayF h i j = 0 := by
  unfold heWayF; split
  · exact .inl rfl
  · split
    · exact .inr (.inl rfl)
    · exact .inr (.inr rfl)

/-- A flip, by the reference. -/
def flipOk (m : List (List Int)) (i j : Int) : Bool := goodB m && (decide ((1 ≤ i ∧ i ≤ m.length - 1) ∧ (1 ≤ j ∧ j ≤ m.length - 1)) && decide (heWayF (heightsF m) i.toNat j.toNat ≠ 0))
def heUp (h : List (List Int)) (i j : Nat) : List (List Int) := setM h i j (w64 (getM h i j + 2 * heWayF h i j))
def heFlipF (m : List (List Int)) (i j : Int) : List (List Int) := heFromF (heUp (heightsF m) i.toNat j.toNat)
theorem hflip_sq {m : List (List Int)} {i j : Nat} (hi : i < m.length + 1) : ∀ r ∈ heUp (heightsF m) i j, r.length = m.length + 1 := setM_sq (fun r hr => heights_sq hr) (by rw [heights_len]; exact hi)
theorem specFlipAt_ok {m : List (List Int)} {v : AVal} (hv : IsTab v m) (hl : m.length ≤ 100000) (hr : ∀ r ∈ m, r.length ≤ 1000000) {i j : Int} {H : Heap} :
    ACalls Try.prog 37 [v, I i, I j] H fun r H' => TabOk (flipOk m i j) (heFlipF m i j) r ∧ H' = H := by
  apply ACalls.sub
  apply spec_FlipAt.start
  unfold spec_FlipAt.start_vc
  refine ACalls.mono (sgGood_ok hv (by omega) hr) ?_
  rintro r H1 ⟨rfl, rfl⟩
  refine rNOT ?_
  refine rSPLnb (fun hb => ⟨_, HSub.refl _, by unfold flipOk; rw [hb]; exact tabOk_no, rfl⟩) (fun hg => ?_)
  have gl := goodB_len hg
  refine rLEN hv ?_
  refine ACalls.mono (heCell_ok (by constructor <;> omega)) ?_
  rintro r H2 ⟨rfl, rfl⟩
  refine rNOT ?_
  refine rBRKn (fun hb => ⟨_, HSub.refl _, by unfold flipOk; rw [hg, decide_eq_false hb]; exact tabOk_no, rfl⟩) (fun hc => ?_)
  refine ACalls.mono (heOfo_ok hv hl (goodB_sq hg)) ?_
  rintro r8 H3 ⟨h8, hF⟩
  obtain ⟨a, rfl⟩ : ∃ a : Nat, i = a := ⟨i.toNat, by omega⟩
  obtain ⟨b, rfl⟩ : ∃ b : Nat, j = b := ⟨j.toNat, by omega⟩
  refine ACalls.mono (heWay_own h8 (heights_len m) (fun r hr => heights_sq hr) (by omega) (by omega) (by omega) (by omega) (by omega)) ?_
  rintro r H4 ⟨rfl, rfl⟩
  repeat' (with_reducible first
 | refine rTT ?_
 | refine rRFL ?_
 | refine rLEN (by assumption) ?_
 | (refine rIXk (by assumption) (by assumption) ?_; intro p hp)
 | (refine rIX (by assumption) (by omega) (by omega) ?_; intro p a ha hp)
 | refine rLDi (by assumption) ?_
 | (refine rLD (by assumption) ?_; intro c hc)
 | refine rADD (by omega) ?_
 | refine rSUB (by omega) ?_
 | refine rLSS ?_
 | refine rLEQ ?_
 | refine rGTR ?_
 | refine rGEQ ?_
 | refine rEQL ?_
 | refine rNEQ ?_
 | refine rNOT ?_
 | (refine rBRK ?_ ?_ <;> intro hb)
 | (refine rBRKn ?_ ?_ <;> intro hb)
 | (refine rBRKnb ?_ ?_ <;> intro hb)
 | (refine rBRKb ?_ ?_ <;> intro hb)
 | (refine rSPL ?_ ?_ <;> intro hb)
 | (refine rSPLn ?_ ?_ <;> intro hb)
 | (refine rSPLnb ?_ ?_ <;> intro hb)
 | (refine rSPLb ?_ ?_ <;> intro hb)
 | (exfalso; omega))
  · exact ⟨H2, hF.sub, by unfold flipOk; rw [hg, decide_eq_true hc, Int.toNat_natCast, Int.toNat_natCast, hb]; exact tabOk_no, rfl⟩
  · rcases h8 with ⟨rfl, ht⟩ | ⟨k, g, rows, ks, rfl, ho⟩
    · have := heights_len m; rw [ht] at this; simp at this
    · rw [heights_len]
      obtain ⟨row, hrow⟩ := ex_get (l := heightsF m) (k := a) (by rw [heights_len]; omega)
      have hrl := heights_sq (getElem_mem' hrow)
      obtain ⟨x, hx⟩ := ex_get (l := row) (k := b) (by omega)
      obtain ⟨kj, gj, g1, g2, g3, g4, g5⟩ := ho.get hrow
      refine rIXo (by omega) ?_
      repeat' (with_reducible first
 | refine rTT ?_
 | refine rRFL ?_
 | refine rLEN (by assumption) ?_
 | (refine rIXk (by assumption) (by assumption) ?_; intro p hp)
 | (refine rIX (by assumption) (by omega) (by omega) ?_; intro p a ha hp)
 | refine rLDi (by assumption) ?_
 | (refine rLD (by assumption) ?_; intro c hc)
 | refine rADD (by omega) ?_
 | refine rSUB (by omega) ?_
 | refine rLSS ?_
 | refine rLEQ ?_
 | refine rGTR ?_
 | refine rGEQ ?_
 | refine rEQL ?_
 | refine rNEQ ?_
 | refine rNOT ?_
 | (refine rBRK ?_ ?_ <;> intro hb)
 | (refine rBRKn ?_ ?_ <;> intro hb)
 | (refine rBRKnb ?_ ?_ <;> intro hb)
 | (refine rBRKb ?_ ?_ <;> intro hb)
 | (refine rSPL ?_ ?_ <;> intro hb)
 | (refine rSPLn ?_ ?_ <;> intro hb)
 | (refine rSPLnb ?_ ?_ <;> intro hb)
 | (refine rSPLb ?_ ?_ <;> intro hb)
 | (exfalso; omega))
      refine rLDf ho.top g2 ?_
      repeat' (with_reducible first
 | refine rTT ?_
 | refine rRFL ?_
 | refine rLEN (by assumption) ?_
 | (refine rIXk (by assumption) (by assumption) ?_; intro p hp)
 | (refine rIX (by assumption) (by omega) (by omega) ?_; intro p a ha hp)
 | refine rLDi (by assumption) ?_
 | (refine rLD (by assumption) ?_; intro c hc)
 | refine rADD (by omega) ?_
 | refine rSUB (by omega) ?_
 | refine rLSS ?_
 | refine rLEQ ?_
 | refine rGTR ?_
 | refine rGEQ ?_
 | refine rEQL ?_
 | refine rNEQ ?_
 | refine rNOT ?_
 | (refine rBRK ?_ ?_ <;> intro hb)
 | (refine rBRKn ?_ ?_ <;> intro hb)
 | (refine rBRKnb ?_ ?_ <;> intro hb)
 | (refine rBRKb ?_ ?_ <;> intro hb)
 | (refine rSPL ?_ ?_ <;> intro hb)
 | (refine rSPLn ?_ ?_ <;> intro hb)
 | (refine rSPLnb ?_ ?_ <;> intro hb)
 | (refine rSPLb ?_ ?_ <;> intro hb)
 | (exfalso; omega))
      refine rIXo (by omega) ?_
      repeat' (with_reducible first
 | refine rTT ?_
 | refine rRFL ?_
 | refine rLEN (by assumption) ?_
 | (refine rIXk (by assumption) (by assumption) ?_; intro p hp)
 | (refine rIX (by assumption) (by omega) (by omega) ?_; intro p a ha hp)
 | refine rLDi (by assumption) ?_
 | (refine rLD (by assumption) ?_; intro c hc)
 | refine rADD (by omega) ?_
 | refine rSUB (by omega) ?_
 | refine rLSS ?_
 | refine rLEQ ?_
 | refine rGTR ?_
 | refine rGEQ ?_
 | refine rEQL ?_
 | refine rNEQ ?_
 | refine rNOT ?_
 | (refine rBRK ?_ ?_ <;> intro hb)
 | (refine rBRKn ?_ ?_ <;> intro hb)
 | (refine rBRKnb ?_ ?_ <;> intro hb)
 | (refine rBRKb ?_ ?_ <;> intro hb)
 | (refine rSPL ?_ ?_ <;> intro hb)
 | (refine rSPLn ?_ ?_ <;> intro hb)
 | (refine rSPLnb ?_ ?_ <;> intro hb)
 | (refine rSPLb ?_ ?_ <;> intro hb)
 | (exfalso; omega))
      refine rLDf g3 (by rw [List.getElem?_map, hx]; rfl) ?_
      refine rMUL (by rcases heWayF_cases (heightsF m) a b with h | h | h <;> rw [h] <;> decide) ?_
      refine rADDw ?_
      repeat' (with_reducible first
 | refine rTT ?_
 | refine rRFL ?_
 | refine rLEN (by assumption) ?_
 | (refine rIXk (by assumption) (by assumption) ?_; intro p hp)
 | (refine rIX (by assumption) (by omega) (by omega) ?_; intro p a ha hp)
 | refine rLDi (by assumption) ?_
 | (refine rLD (by assumption) ?_; intro c hc)
 | refine rADD (by omega) ?_
 | refine rSUB (by omega) ?_
 | refine rLSS ?_
 | refine rLEQ ?_
 | refine rGTR ?_
 | refine rGEQ ?_
 | refine rEQL ?_
 | refine rNEQ ?_
 | refine rNOT ?_
 | (refine rBRK ?_ ?_ <;> intro hb)
 | (refine rBRKn ?_ ?_ <;> intro hb)
 | (refine rBRKnb ?_ ?_ <;> intro hb)
 | (refine rBRKb ?_ ?_ <;> intro hb)
 | (refine rSPL ?_ ?_ <;> intro hb)
 | (refine rSPLn ?_ ?_ <;> intro hb)
 | (refine rSPLnb ?_ ?_ <;> intro hb)
 | (refine rSPLb ?_ ?_ <;> intro hb)
 | (exfalso; omega))
      refine rIXo (by omega) ?_
      repeat' (with_reducible first
 | refine rTT ?_
 | refine rRFL ?_
 | refine rLEN (by assumption) ?_
 | (refine rIXk (by assumption) (by assumption) ?_; intro p hp)
 | (refine rIX (by assumption) (by omega) (by omega) ?_; intro p a ha hp)
 | refine rLDi (by assumption) ?_
 | (refine rLD (by assumption) ?_; intro c hc)
 | refine rADD (by omega) ?_
 | refine rSUB (by omega) ?_
 | refine rLSS ?_
 | refine rLEQ ?_
 | refine rGTR ?_
 | refine rGEQ ?_
 | refine rEQL ?_
 | refine rNEQ ?_
 | refine rNOT ?_
 | (refine rBRK ?_ ?_ <;> intro hb)
 | (refine rBRKn ?_ ?_ <;> intro hb)
 | (refine rBRKnb ?_ ?_ <;> intro hb)
 | (refine rBRKb ?_ ?_ <;> intro hb)
 | (refine rSPL ?_ ?_ <;> intro hb)
 | (refine rSPLn ?_ ?_ <;> intro hb)
 | (refine rSPLnb ?_ ?_ <;> intro hb)
 | (refine rSPLb ?_ ?_ <;> intro hb)
 | (exfalso; omega))
      refine rSTp g3 (by simp; omega) rfl ?_
      have hset1 : ∀ w, (row.map I).set b (I w) = (row.set b w).map I := fun w => by rw [List.map_set]
      rw [hset1]
      have ho2 := ho.put hrow g1 g3 (r' := row.set b (w64 (x + 2 * heWayF (heightsF m) a b))) (by simp)
      have hup : (heightsF m).set a (row.set b (w64 (x + 2 * heWayF (heightsF m) a b))) = heUp (heightsF m) a b := by
        unfold heUp setM
        rw [getM_at hrow hx]
        simp [List.getD, hrow]
      rw [hup] at ho2
      have hF2 : Fresh H2 (hset H4 kj gj ((row.set b (w64 (x + 2 * heWayF (heightsF m) a b))).map I)) := hF.set g4 _ (ifrees_map _)
      have hul : (heUp (heightsF m) a b).length = m.length + 1 := by rw [heUp, setM_len, heights_len]
      have hOt : IsOTab H2.length (hset H4 kj gj ((row.set b (w64 (x + 2 * heWayF (heightsF m) a b))).map I)) (.own k g 1 0 (m.length + 1)) (heUp (heightsF m) a b) := ho2.is hul
      obtain ⟨v', q1, q2⟩ := hOt.pur (Hf := nw H2 (hset H4 kj gj ((row.set b (w64 (x + 2 * heWayF (heightsF m) a b))).map I))) fun i hi => nw_above _ _ hi
      refine ACalls.frz (nw_split hF2.sub) (k := 2) (args' := [v']) ⟨v', [], rfl, q1, rfl⟩ ?_
      have husq : isSquareB (heUp (heightsF m) a b) = true := by
        simp only [isSquareB, List.all_eq_true, decide_eq_true_eq, hul]
        exact hflip_sq (by omega)
      refine ACalls.mono (heFrom_ok (n := m.length) q2 (by omega) husq hul (by omega)) ?_
      rintro r H5 ⟨h5, rfl⟩
      refine ⟨_, HSub.refl _, ?_, rfl⟩
      have e1 : flipOk m a b = true := by
        unfold flipOk
        rw [hg, decide_eq_true hc, Int.toNat_natCast, Int.toNat_natCast, decide_eq_true hb]; rfl
      rw [e1]
      refine ⟨_, rfl, ?_⟩
      unfold heFlipF heFromF
      rw [Int.toNat_natCast, Int.toNat_natCast, hul, Nat.add_sub_cancel]
      exact h5

end Go.Proofs.Ytccioplhchmilaa.AL

set_option linter.unusedVariables false
set_option maxRecDepth 100000
namespace Go.Proofs.Ytccioplhchmilaa.AL
open Go Go.Proofs

/-! (*spec.l1Cur).pair (slots: 0 c, 1 most, 2 c, 3 most, 6 m, 7 k, 8 n, 9 h, 10 cells, 11 cell, 12 next, 13 _) -/
namespace spec_l1Cur_pair
def lv : List (Nat × List Nat) := [(8, [0, 6, 7, 8])]
noncomputable def K8 : List KF := [.lp (cB (cB (cR (cR (cX (cR (cL (cR (cR (cR (cR (bodyOf Try.f85)))))))))))), .bl 0, .sq (cR (cR (cR (cR (cR (bodyOf Try.f85))))))]
def L8 (Q : AVal → Heap → Prop) (v0 v6 v7 v8 : AVal) (H : Heap) : Prop := At Try.prog 85 73 K8 Q (slotsOf [(0, v0), (6, v6), (7, v7), (8, v8)]) H
theorem L8_frz {Q : AVal → Heap → Prop} {v0 v6 v7 v8 w0 w6 w7 w8 : AVal} {H Hf Hk : Heap} {k : Nat} (hs : Split H Hf Hk) (hp : PurL Hf k [(0, v0, w0), (6, v6, w6), (7, v7, w7), (8, v8, w8)]) (h : L8 Q w0 w6 w7 w8 Hk) : L8 Q v0 v6 v7 v8 H := at_frz (ks := K8) hs hp h
def start_vc (Q : AVal → Heap → Prop) (a0 a1 : AVal) (H : Heap) : Prop :=
 ACalls Try.prog 49 [a0, a1] H fun x1 H2 =>
 ACalls Try.prog 53 [x1] H2 fun x3 H4 =>
 NOTK x3 fun x5 =>
 SPL x5 (ACalls Try.prog 49 [a0, a1] H4 fun x6 H7 =>
 Q (AVal.tup [x1, x6]) H7) (ACalls Try.prog 70 [a0, (AVal.int .i64 10)] H4 fun x8 H9 =>
 BRK x8 (ACalls Try.prog 49 [a0, a1] H9 fun x10 H11 =>
 Q (AVal.tup [x1, x10]) H11) (LENK x1 fun x12 =>
 ACalls Try.prog 101 [a0, x12] H9 fun x13 H14 =>
 ACalls Try.prog 70 [a0, (AVal.int .i64 3)] H14 fun x15 H16 =>
 BRK x15 (ACalls Try.prog 68 [a0, (AVal.int .i64 4)] H16 fun x17 H18 =>
 spec_l1Cur_pair.L8 Q a0 x1 x1 x17 H18) (Q (AVal.tup [x1, x13]) H16)))
theorem start_eq (Q : AVal → Heap → Prop) (a0 a1 : AVal) (H : Heap) : vs Try.prog lv 85 73 Try.f85.results.toList Q true 1000 [.sq (bodyOf Try.f85)] (entry [a0, a1]) H = start_vc Q a0 a1 H := by kernel_rfl
theorem start {Q : AVal → Heap → Prop} {a0 a1 : AVal} {H : Heap} (h : start_vc Q a0 a1 H) : ACalls Try.prog 85 [a0, a1] H Q := acalls_vs (lv := lv) mixed Try.func85 rfl (by kernel_rfl) (by kernel_rfl) (start_eq Q a0 a1 H ▸ h)
def step8_vc (Q : AVal → Heap → Prop) (v0 v6 v7 v8 : AVal) (H : Heap) : Prop :=
 BINK .gtr v8 (AVal.int .i64 0) fun x1 =>
 BRK x1 (ACalls Try.prog 61 [v7] H fun x2 H3 =>
 ACalls Try.prog 68 [v0, (AVal.int .i64 2)] H3 fun x4 H5 =>
 BINK .mul (AVal.int .i64 2) x4 fun x6 =>
 BINK .sub x6 (AVal.int .i64 1) fun x7 =>
 ACalls Try.prog 100 [x2, x7] H5 fun x8 H9 =>
 LENK x8 fun x10 =>
 BINK .gtr x10 (AVal.int .i64 0) fun x11 =>
 BRK x11 (LENK x8 fun x12 =>
 ACalls Try.prog 68 [v0, x12] H9 fun x13 H14 =>
 TT ∧ IXK 1 x8 x13 fun x15 =>
 TT ∧ TT ∧ LDK false 1 H14 x15 fun x16 =>
 TT ∧ TT ∧ IXK 1 x16 (AVal.int .i64 0) fun x17 =>
 TT ∧ TT ∧ LDK false 1 H14 x17 fun x18 =>
 TT ∧ IXK 1 x16 (AVal.int .i64 1) fun x19 =>
 TT ∧ TT ∧ LDK false 1 H14 x19 fun x20 =>
 ACalls Try.prog 37 [v7, x18, x20] H14 fun x21 H22 =>
 EXTK x21 0 fun x23 =>
 EXTK x21 1 fun x24 =>
 BINK .sub v8 (AVal.int .i64 1) fun x25 =>
 spec_l1Cur_pair.L8 Q v0 v6 x23 x25 H22) (BINK .sub v8 (AVal.int .i64 1) fun x26 =>
 spec_l1Cur_pair.L8 Q v0 v6 v7 x26 H9)) (Q (AVal.tup [v6, v7]) H)
theorem step8_eq (Q : AVal → Heap → Prop) (v0 v6 v7 v8 : AVal) (H : Heap) : vs Try.prog lv 85 73 Try.f85.results.toList Q true 1000 (.sq (cB (cB (cR (cR (cX (cR (cL (cR (cR (cR (cR (bodyOf Try.f85)))))))))))) :: K8) (slotsOf [(0, v0), (6, v6), (7, v7), (8, v8)]) H = step8_vc Q v0 v6 v7 v8 H := by kernel_rfl
theorem step8 {Q : AVal → Heap → Prop} {v0 v6 v7 v8 : AVal} {H : Heap} (h : step8_vc Q v0 v6 v7 v8 H) : L8 Q v0 v6 v7 v8 H := at_lp_vs (lv := lv) (ks := K8.tail) mixed Try.func85 (step8_eq Q v0 v6 v7 v8 H ▸ h)
end spec_l1Cur_pair

/-! spec.DrawIsBelow (slots: 0 code, 1 code, 4 c) -/
namespace spec_DrawIsBelow
def lv : List (Nat × List Nat) := []
def start_vc (Q : AVal → Heap → Prop) (a0 : AVal) (H : Heap) : Prop :=
 TT ∧ BLDK [AVal.nilS, (AVal.int .i64 0), (AVal.int .u64 0)] [((0, 1), a0)] fun x1 =>
 BOXK x1 H fun x2 H3 =>
 ACalls Try.prog 85 [x2, (AVal.int .i64 5)] H3 fun x4 H5 =>
 EXTK x4 0 fun x6 =>
 EXTK x4 1 fun x7 =>
 Q (AVal.tup [x6, x7]) H5
theorem start_eq (Q : AVal → Heap → Prop) (a0 : AVal) (H : Heap) : vs Try.prog lv 29 12 Try.f29.results.toList Q true 1000 [.sq (bodyOf Try.f29)] (entry [a0]) H = start_vc Q a0 H := by kernel_rfl
theorem start {Q : AVal → Heap → Prop} {a0 : AVal} {H : Heap} (h : start_vc Q a0 H) : ACalls Try.prog 29 [a0] H Q := acalls_vs (lv := lv) mixed Try.func29 rfl (by kernel_rfl) (by kernel_rfl) (start_eq Q a0 H ▸ h)
end spec_DrawIsBelow


theorem mem_cellsRow {p : Nat → Bool} {i : Nat} {c : List Int} : ∀ {m j : Nat}, c ∈ cellsRow p i j m → ∃ j' : Nat, j ≤ j' ∧ j' < j + m ∧ p j' = true ∧ c = [(i : Int), (j' : Int)]
  | 0, j, h => by simp [cellsRow] at h
  | m + 1, j, h => by
    simp only [cellsRow, List.mem_append] at h
    rcases h with h | h
    · split at h
      · rename_i hp
        simp at h; exact ⟨j, by omega, by omega, hp, h⟩
      · simp at h
    · obtain ⟨j', h1, h2, h3, h4⟩ := mem_cellsRow h
      exact ⟨j', by omega, by omega, h3, h4⟩
theorem mem_cellsFrom {p : Nat → Nat → Bool} {n : Nat} {c : List Int} : ∀ {m i : Nat}, c ∈ cellsFrom p n i m → ∃ i' j' : Nat, i ≤ i' ∧ i' < i + m ∧ 1 ≤ j' ∧ j' ≤ n ∧ p i' j' = true ∧ c = [(i' : Int), (j' : Int)]
  | 0, i, h => by simp [cellsFrom] at h
  | m + 1, i, h => by
    simp only [cellsFrom, List.mem_append] at h
    rcases h with h | h
    · obtain ⟨j', h1, h2, h3, h4⟩ := mem_cellsRow h
      exact ⟨i, j', by omega, by omega, by omega, by omega, h3, h4⟩
    · obtain ⟨i', j', h1, h2, h3⟩ := mem_cellsFrom h
      exact ⟨i', j', by omega, by omega, h3⟩
theorem mem_cells {p : Nat → Nat → Bool} {n : Nat} {c : List Int} (h : c ∈ cellsF p n) : ∃ i j : Nat, 1 ≤ i ∧ i ≤ n ∧ 1 ≤ j ∧ j ≤ n ∧ p i j = true ∧ c = [(i : Int), (j : Int)] := by
  obtain ⟨i, j, h1, h2, h3, h4, h5⟩ := mem_cellsFrom h
  exact ⟨i, j, h1, by omega, h3, h4, h5⟩
theorem cellsFrom_len (p : Nat → Nat → Bool) (n : Nat) : ∀ (m i : Nat), (cellsFrom p n i m).length ≤ m * n
  | 0, i => by simp [cellsFrom]
  | m + 1, i => by
    have h1 := cellsFrom_len p n m (i + 1)
    have h2 := cellsRow_len (p i) i n 1
    simp only [cellsFrom, List.length_append, Nat.add_mul]
    omega
theorem cells_len (p : Nat → Nat → Bool) (n : Nat) : (cellsF p n).length ≤ n * n := cellsFrom_len p n n 1

def Small (t : List (List Int)) : Prop := t.length ≤ 7 ∧ ∀ r ∈ t, r.length ≤ 7
theorem small_sq {t : List (List Int)} (hl : t.length ≤ 6) (hs : isSquareB t = true) : Small t := ⟨by omega, fun r hr => by rw [sq_len hs hr]; omega⟩
def PairV (A : Int) (i g : Nat) (H0 : Heap) (r : AVal) (H : Heap) : Prop := ∃ a b va vb cs, r = .tup [va, vb] ∧ IsTab va a ∧ IsTab vb b ∧ Small a ∧ Small b ∧ H = hset H0 i g cs ∧ Cur A H i g
theorem heFlip_sq {m : List (List Int)} {i j : Int} (hm : 1 ≤ m.length) : (heFlipF m i j).length = m.length ∧ isSquareB (heFlipF m i j) = true := by
  unfold heFlipF heFromF
  refine ⟨?_, fromT_sq _⟩
  rw [fromT_len, tabT_len, heUp, setM_len, heights_len]; omega
theorem pair_loop {A : Int} (hA : A ≤ 1000000) {H0 : Heap} {i g : Nat} {a : List (List Int)} {v6 : AVal} (ha : IsTab v6 a) (hsa : Small a) : ∀ (m : Nat) (B : Int) (t : List (List Int)) (v7 : AVal) (H : Heap) (cs : List AVal), B + 10 * m ≤ A → m ≤ 10 → IsTab v7 t → t.length ≤ 6 → isSquareB t = true → H = hset H0 i g cs → Cur B H i g →
    spec_l1Cur_pair.L8 (PairV A i g H0) (.ptr i g 0) v6 v7 (I m) H := by
  intro m
  induction m with
  | zero =>
    intro B t v7 H cs hB hm ht htl hts hH hc
    apply spec_l1Cur_pair.step8
    unfold spec_l1Cur_pair.step8_vc
    repeat' (with_reducible first
 | refine rTT ?_
 | refine rRFL ?_
 | refine rLEN (by assumption) ?_
 | (refine rIXk (by assumption) (by assumption) ?_; intro p hp)
 | (refine rIX (by assumption) (by omega) (by omega) ?_; intro p a ha hp)
 | refine rLDi (by assumption) ?_
 | (refine rLD (by assumption) ?_; intro c hc)
 | refine rADD (by omega) ?_
 | refine rSUB (by omega) ?_
 | refine rLSS ?_
 | refine rLEQ ?_
 | refine rGTR ?_
 | refine rGEQ ?_
 | refine rEQL ?_
 | refine rNEQ ?_
 | refine rNOT ?_
 | (refine rBRK ?_ ?_ <;> intro hb)
 | (refine rBRKn ?_ ?_ <;> intro hb)
 | (refine rBRKnb ?_ ?_ <;> intro hb)
 | (refine rBRKb ?_ ?_ <;> intro hb)
 | (refine rSPL ?_ ?_ <;> intro hb)
 | (refine rSPLn ?_ ?_ <;> intro hb)
 | (refine rSPLnb ?_ ?_ <;> intro hb)
 | (refine rSPLb ?_ ?_ <;> intro hb)
 | (exfalso; omega))
    exact ⟨a, t, v6, v7, cs, rfl, ha, ht, hsa, small_sq htl hts, hH, hc.le (by omega)⟩
  | succ m ih =>
    intro B t v7 H cs hB hm ht htl hts hH hc
    apply spec_l1Cur_pair.step8
    unfold spec_l1Cur_pair.step8_vc
    repeat' (with_reducible first
 | refine rTT ?_
 | refine rRFL ?_
 | refine rLEN (by assumption) ?_
 | (refine rIXk (by assumption) (by assumption) ?_; intro p hp)
 | (refine rIX (by assumption) (by omega) (by omega) ?_; intro p a ha hp)
 | refine rLDi (by assumption) ?_
 | (refine rLD (by assumption) ?_; intro c hc)
 | refine rADD (by omega) ?_
 | refine rSUB (by omega) ?_
 | refine rLSS ?_
 | refine rLEQ ?_
 | refine rGTR ?_
 | refine rGEQ ?_
 | refine rEQL ?_
 | refine rNEQ ?_
 | refine rNOT ?_
 | (refine rBRK ?_ ?_ <;> intro hb)
 | (refine rBRKn ?_ ?_ <;> intro hb)
 | (refine rBRKnb ?_ ?_ <;> intro hb)
 | (refine rBRKb ?_ ?_ <;> intro hb)
 | (refine rSPL ?_ ?_ <;> intro hb)
 | (refine rSPLn ?_ ?_ <;> intro hb)
 | (refine rSPLnb ?_ ?_ <;> intro hb)
 | (refine rSPLb ?_ ?_ <;> intro hb)
 | (exfalso; omega))
    refine ACalls.mono (heOf_okF ht (by omega) hts) ?_
    rintro r H1 ⟨h1, rfl⟩
    refine ACalls.mono (pick_ok hc (by omega) (by omega)) ?_
    rintro r2 H2 ⟨x, cs2, rfl, hx0, hx1, hH2, hc2⟩
    refine rMUL (by omega) ?_
    repeat' (with_reducible first
 | refine rTT ?_
 | refine rRFL ?_
 | refine rLEN (by assumption) ?_
 | (refine rIXk (by assumption) (by assumption) ?_; intro p hp)
 | (refine rIX (by assumption) (by omega) (by omega) ?_; intro p a ha hp)
 | refine rLDi (by assumption) ?_
 | (refine rLD (by assumption) ?_; intro c hc)
 | refine rADD (by omega) ?_
 | refine rSUB (by omega) ?_
 | refine rLSS ?_
 | refine rLEQ ?_
 | refine rGTR ?_
 | refine rGEQ ?_
 | refine rEQL ?_
 | refine rNEQ ?_
 | refine rNOT ?_
 | (refine rBRK ?_ ?_ <;> intro hb)
 | (refine rBRKn ?_ ?_ <;> intro hb)
 | (refine rBRKnb ?_ ?_ <;> intro hb)
 | (refine rBRKb ?_ ?_ <;> intro hb)
 | (refine rSPL ?_ ?_ <;> intro hb)
 | (refine rSPLn ?_ ?_ <;> intro hb)
 | (refine rSPLnb ?_ ?_ <;> intro hb)
 | (refine rSPLb ?_ ?_ <;> intro hb)
 | (exfalso; omega))
    refine ACalls.mono (heFlips_ok h1 (heights_len t) (fun r hr => heights_sq hr) (by omega) (by omega)) ?_
    rintro r3 H3 ⟨h3, rfl⟩
    have hlen : (heFlipsF (heightsF t) (2 * x - 1)).length ≤ 49 := by
      have h0 := cells_len (fun i j => decide (heWayF (heightsF t) i j = 2 * x - 1)) ((heightsF t).length - 2)
      have h1 : (heightsF t).length - 2 ≤ 7 := by rw [heights_len]; omega
      have h2 := Nat.mul_le_mul h1 h1
      unfold heFlipsF; omega
    repeat' (with_reducible first
 | refine rTT ?_
 | refine rRFL ?_
 | refine rLEN (by assumption) ?_
 | (refine rIXk (by assumption) (by assumption) ?_; intro p hp)
 | (refine rIX (by assumption) (by omega) (by omega) ?_; intro p a ha hp)
 | refine rLDi (by assumption) ?_
 | (refine rLD (by assumption) ?_; intro c hc)
 | refine rADD (by omega) ?_
 | refine rSUB (by omega) ?_
 | refine rLSS ?_
 | refine rLEQ ?_
 | refine rGTR ?_
 | refine rGEQ ?_
 | refine rEQL ?_
 | refine rNEQ ?_
 | refine rNOT ?_
 | (refine rBRK ?_ ?_ <;> intro hb)
 | (refine rBRKn ?_ ?_ <;> intro hb)
 | (refine rBRKnb ?_ ?_ <;> intro hb)
 | (refine rBRKb ?_ ?_ <;> intro hb)
 | (refine rSPL ?_ ?_ <;> intro hb)
 | (refine rSPLn ?_ ?_ <;> intro hb)
 | (refine rSPLnb ?_ ?_ <;> intro hb)
 | (refine rSPLb ?_ ?_ <;> intro hb)
 | (exfalso; omega))
    · refine ACalls.mono (pick_ok hc2 (by omega) (by omega)) ?_
      rintro r4 H4 ⟨y, cs4, rfl, hy0, hy1, hH4, hc4⟩
      obtain ⟨yn, rfl⟩ : ∃ yn : Nat, y = yn := ⟨y.toNat, by omega⟩
      obtain ⟨cell, hcell⟩ := ex_get (l := heFlipsF (heightsF t) (2 * x - 1)) (k := yn) (by omega)
      obtain ⟨ci, cj, g1, g2, g3, g4, g5, rfl⟩ := mem_cells (getElem_mem' hcell)
      have q0 : [(ci : Int), (cj : Int)][0]? = some (ci : Int) := rfl
      have q1 : [(ci : Int), (cj : Int)][1]? = some (cj : Int) := rfl
      repeat' (first
 | ((refine rIXk (i := 0) (by assumption) q0 ?_; intro p hp))
 | ((refine rIXk (i := 1) (by assumption) q1 ?_; intro p hp))
 | with_reducible first
 | refine rTT ?_
 | refine rRFL ?_
 | refine rLEN (by assumption) ?_
 | (refine rIXk (by assumption) (by assumption) ?_; intro p hp)
 | (refine rIX (by assumption) (by omega) (by omega) ?_; intro p a ha hp)
 | refine rLDi (by assumption) ?_
 | (refine rLD (by assumption) ?_; intro c hc)
 | refine rADD (by omega) ?_
 | refine rSUB (by omega) ?_
 | refine rLSS ?_
 | refine rLEQ ?_
 | refine rGTR ?_
 | refine rGEQ ?_
 | refine rEQL ?_
 | refine rNEQ ?_
 | refine rNOT ?_
 | (refine rBRK ?_ ?_ <;> intro hb)
 | (refine rBRKn ?_ ?_ <;> intro hb)
 | (refine rBRKnb ?_ ?_ <;> intro hb)
 | (refine rBRKb ?_ ?_ <;> intro hb)
 | (refine rSPL ?_ ?_ <;> intro hb)
 | (refine rSPLn ?_ ?_ <;> intro hb)
 | (refine rSPLnb ?_ ?_ <;> intro hb)
 | (refine rSPLb ?_ ?_ <;> intro hb)
 | (exfalso; omega))
      refine ACalls.mono (specFlipAt_ok ht (by omega) (fun r hr => by rw [sq_len hts hr]; omega)) ?_
      rintro r5 H5 ⟨⟨h, rfl, h5⟩, rfl⟩
      refine ⟨_, rfl, _, rfl, ?_⟩
      repeat' (with_reducible first
 | refine rTT ?_
 | refine rRFL ?_
 | refine rLEN (by assumption) ?_
 | (refine rIXk (by assumption) (by assumption) ?_; intro p hp)
 | (refine rIX (by assumption) (by omega) (by omega) ?_; intro p a ha hp)
 | refine rLDi (by assumption) ?_
 | (refine rLD (by assumption) ?_; intro c hc)
 | refine rADD (by omega) ?_
 | refine rSUB (by omega) ?_
 | refine rLSS ?_
 | refine rLEQ ?_
 | refine rGTR ?_
 | refine rGEQ ?_
 | refine rEQL ?_
 | refine rNEQ ?_
 | refine rNOT ?_
 | (refine rBRK ?_ ?_ <;> intro hb)
 | (refine rBRKn ?_ ?_ <;> intro hb)
 | (refine rBRKnb ?_ ?_ <;> intro hb)
 | (refine rBRKb ?_ ?_ <;> intro hb)
 | (refine rSPL ?_ ?_ <;> intro hb)
 | (refine rSPLn ?_ ?_ <;> intro hb)
 | (refine rSPLnb ?_ ?_ <;> intro hb)
 | (refine rSPLb ?_ ?_ <;> intro hb)
 | (exfalso; omega))
      have e : (((m + 1 : Nat) : Int) - 1) = (m : Int) := by omega
      rw [e]
      have hl4 : ∀ b : Bool, (bif b then heFlipF t ci cj else []).length ≤ 6 ∧ isSquareB (bif b then heFlipF t ci cj else []) = true := by
        intro b
        cases b with
        | false => exact ⟨by simp, rfl⟩
        | true =>
          rw [heights_len] at g2
          have := heFlip_sq (m := t) (i := ci) (j := cj) (by omega)
          exact ⟨by simp only [cond_true]; omega, this.2⟩
      refine ih (B + 4) _ h H5 cs4 (by omega) (by omega) h5 (hl4 _).1 (hl4 _).2 ?_ (hc4.le (by omega))
      rw [hH4, hH2, hH, hset_set, hset_set]
    · have e : (((m + 1 : Nat) : Int) - 1) = (m : Int) := by omega
      rw [e]
      refine ih (B + 4) t v7 H3 cs2 (by omega) (by omega) ht htl hts ?_ (hc2.le (by omega))
      rw [hH2, hH, hset_set]
theorem pair_ok {A most : Int} {H : Heap} {i g : Nat} (h : Cur A H i g) (hA : A ≤ 100000) (h1 : 1 ≤ most) (hm : most ≤ 6) : ACalls Try.prog 85 [.ptr i g 0, I most] H (PairV (A + 10000) i g H) := by
  apply spec_l1Cur_pair.start
  unfold spec_l1Cur_pair.start_vc
  refine ACalls.mono (signsV_ok h (by omega) h1 hm) ?_
  rintro r1 H1 ⟨a, cs1, ha, hal, har, hH1, hc1⟩
  have hsa : Small a := ⟨hal, har⟩
  have hend : ∀ {H2 : Heap} {cs2 : List AVal} {B : Int}, H2 = hset H i g cs2 → Cur B H2 i g → B ≤ A + 5000 → ACalls Try.prog 49 [.ptr i g 0, I most] H2 fun x H7 => PairV (A + 10000) i g H (.tup [r1, x]) H7 := by
    intro H2 cs2 B hH2 hc2 hB
    refine ACalls.mono (signsV_ok hc2 (by omega) h1 hm) ?_
    rintro r2 H3 ⟨b, cs3, hb1, hbl, hbr, hH3, hc3⟩
    exact ⟨a, b, r1, r2, cs3, rfl, ha, hb1, hsa, ⟨hbl, hbr⟩, by rw [hH3, hH2, hset_set], hc3.le (by omega)⟩
  refine ACalls.mono (sgGood_ok ha (by omega) (fun r hr => by have := har r hr; omega)) ?_
  rintro r H2 ⟨rfl, rfl⟩
  refine rNOT ?_
  refine rSPLnb (fun hb => hend hH1 hc1 (by omega)) (fun hg => ?_)
  have gl := goodB_len hg
  refine ACalls.mono (one_ok hc1 (by omega) (by omega)) ?_
  rintro r5 H5 ⟨b, cs5, rfl, hH5, hc5⟩
  refine rBRKb (fun _ => hend (hH5.trans (by rw [hH1, hset_set])) hc5 (by omega)) (fun _ => ?_)
  refine rLEN ha ?_
  refine ACalls.mono (sureV_ok hc5 (by omega) gl.1 gl.2) ?_
  rintro r6 H6 ⟨k, cs6, hk, hkl, hks, hH6, hc6⟩
  refine ACalls.mono (one_ok hc6 (by omega) (by omega)) ?_
  rintro r7 H7 ⟨b7, cs7, rfl, hH7, hc7⟩
  have hH7' : H7 = hset H i g cs7 := by rw [hH7, hH6, hH5, hH1, hset_set, hset_set, hset_set]
  refine rBRKb (fun _ => ?_) (fun _ => ?_)
  · refine ACalls.mono (pick_ok hc7 (by omega) (by omega)) ?_
    rintro r8 H8 ⟨x, cs8, rfl, hx0, hx1, hH8, hc8⟩
    obtain ⟨xn, rfl⟩ : ∃ xn : Nat, x = xn := ⟨x.toNat, by omega⟩
    exact pair_loop (by omega) ha hsa xn _ a r1 H8 cs8 (by omega) (by omega) ha gl.2 (goodB_sq hg) (by rw [hH8, hH7', hset_set]) hc8
  · exact ⟨a, k, r1, r6, cs7, rfl, ha, hk, hsa, small_sq (by omega) hks, hH7', hc7.le (by omega)⟩
/-- Two drawn tables, as values. -/
def TabR2 (r : AVal) : Prop := ∃ a b va vb, r = .tup [va, vb] ∧ IsTab va a ∧ IsTab vb b ∧ Small a ∧ Small b
theorem drawIsBelow_ok {code : List Int} {v : AVal} (hv : IsSl IsB v code) (hl : code.length ≤ 1099511627776) {H : Heap} : ACalls Try.prog 29 [v] H fun r H' => TabR2 r ∧ H' = H := by
  apply ACalls.sub
  apply spec_DrawIsBelow.start
  unfold spec_DrawIsBelow.start_vc
  refine rTT ?_
  refine cells_one hv.one ⟨rfl, by decide, ?_⟩
  simp only [BLDK, List.take_zero, List.nil_append, List.drop_succ_cons, List.drop_zero, List.singleton_append, Nat.zero_add, BOXK, cellsOfV]
  intro g
  have hc : Cur 0 (hnew H g [v, I 0, .int .u64 0]) H.length g := ⟨v, code, 0, 0, hget_new _ _ _, hv, hl, by omega, by omega⟩
  refine ACalls.mono (pair_ok hc (by omega) (by omega) (by omega)) ?_
  rintro r H' ⟨a, b, va, vb, cs, rfl, h1, h2, h3, h4, h5, h6⟩
  refine ⟨_, rfl, _, rfl, H, ?_, ⟨a, b, va, vb, rfl, h1, h2, h3, h4⟩, rfl⟩
  rw [h5, hset_new]; exact hsub_new _ _ _

end Go.Proofs.Ytccioplhchmilaa.AL

set_option linter.unusedVariables false
set_option maxRecDepth 100000
namespace Go.Proofs.Ytccioplhchmilaa.AL
open Go Go.Proofs

/-! spec.DrawAreHeights (slots: 0 code, 1 code, 3 c, 4 m, 5 h) -/
namespace spec_DrawAreHeights
def lv : List (Nat × List Nat) := []
def start_vc (Q : AVal → Heap → Prop) (a0 : AVal) (H : Heap) : Prop :=
 TT ∧ BLDK [AVal.nilS, (AVal.int .i64 0), (AVal.int .u64 0)] [((0, 1), a0)] fun x1 =>
 BOXK x1 H fun x2 H3 =>
 ACalls Try.prog 49 [x2, (AVal.int .i64 5)] H3 fun x4 H5 =>
 ACalls Try.prog 53 [x4] H5 fun x6 H7 =>
 NOTK x6 fun x8 =>
 BRK x8 (Q x4 H7) (ACalls Try.prog 61 [x4] H7 fun x9 H10 =>
 ACalls Try.prog 70 [x2, (AVal.int .i64 4)] H10 fun x11 H12 =>
 BRK x11 (TT ∧ LENK x9 fun x13 =>
 LENK x9 fun x14 =>
 TT ∧ TT ∧ TT ∧ allCells 1 [(AVal.int .i64 1), (AVal.int .i64 (-1)), (AVal.int .i64 2), (AVal.int .i64 (-2)), (AVal.int .i64 4611686018427387904)] fun c15 =>
 ACalls Try.prog 68 [x2, x13] H12 fun x16 H17 =>
 TT ∧ IXK 1 x9 x16 fun x18 =>
 TT ∧ TT ∧ LDK false 1 H17 x18 fun x19 =>
 ACalls Try.prog 68 [x2, x14] H17 fun x20 H21 =>
 (TT ∧ TT ∧ LDK false 1 H21 x18 fun x22 =>
 x22 = x19) ∧
 TT ∧ IXK 1 x19 x20 fun x23 =>
 TT ∧ TT ∧ LDK false 1 H21 x23 fun x24 =>
 ACalls Try.prog 50 [x2, (AVal.sl true 5 c15)] H21 fun x25 H26 =>
 (TT ∧ TT ∧ LDK false 1 H26 x23 fun x27 =>
 x27 = x24) ∧
 (TT ∧ TT ∧ LDK false 1 H26 x18 fun x28 =>
 x28 = x19) ∧
 BINK .add x24 x25 fun x29 =>
 TT ∧ IXK 1 x19 x20 fun x30 =>
 TT ∧ STK 1 H26 x30 x29 fun H31 =>
 ACalls Try.prog 70 [x2, (AVal.int .i64 15)] H31 fun x32 H33 =>
 BRK x32 (TT ∧ TT ∧ SLK 1 x9 (some (AVal.int .i64 1)) none none fun x34 =>
 Q x34 H33) (Q x9 H33)) (ACalls Try.prog 70 [x2, (AVal.int .i64 15)] H12 fun x35 H36 =>
 BRK x35 (TT ∧ TT ∧ SLK 1 x9 (some (AVal.int .i64 1)) none none fun x37 =>
 Q x37 H36) (Q x9 H36)))
theorem start_eq (Q : AVal → Heap → Prop) (a0 : AVal) (H : Heap) : vs Try.prog lv 83 42 Try.f83.results.toList Q true 1000 [.sq (bodyOf Try.f83)] (entry [a0]) H = start_vc Q a0 H := by kernel_rfl
theorem start {Q : AVal → Heap → Prop} {a0 : AVal} {H : Heap} (h : start_vc Q a0 H) : ACalls Try.prog 83 [a0] H Q := acalls_vs (lv := lv) mixed Try.func83 rfl (by kernel_rfl) (by kernel_rfl) (start_eq Q a0 H ▸ h)
end spec_DrawAreHeights

/-! spec.DrawFromHeights (slots: 0 code, 1 code) -/
namespace spec_DrawFromHeights
def lv : List (Nat × List Nat) := []
def start_vc (Q : AVal → Heap → Prop) (a0 : AVal) (H : Heap) : Prop :=
 ACalls Try.prog 83 [a0] H fun x1 H2 =>
 Q x1 H2
theorem start_eq (Q : AVal → Heap → Prop) (a0 : AVal) (H : Heap) : vs Try.prog lv 26 5 Try.f26.results.toList Q true 1000 [.sq (bodyOf Try.f26)] (entry [a0]) H = start_vc Q a0 H := by kernel_rfl
theorem start {Q : AVal → Heap → Prop} {a0 : AVal} {H : Heap} (h : start_vc Q a0 H) : ACalls Try.prog 26 [a0] H Q := acalls_vs (lv := lv) mixed Try.func26 rfl (by kernel_rfl) (by kernel_rfl) (start_eq Q a0 H ▸ h)
end spec_DrawFromHeights


/-- The end of a table, frozen. -/
theorem OTab.pur_drop {lo : Nat} {H Hf : Heap} {k g : Nat} {rows : List AVal} {ks : List Nat} {t : List (List Int)} (h : OTab lo H k g rows ks t) (hf : ∀ i, lo ≤ i → hget Hf i = hget H i) {o : Nat} (ho : o ≤ t.length) :
    ∃ v', Pur Hf 2 (.own k g 1 o (t.length - o)) v' ∧ IsTab v' (t.drop o) := by
  refine ⟨.sl false (t.length - o) ((t.drop o).map fun r => .sl false r.length (r.map I)), .inr ⟨rows, (t.drop o).map fun r => .sl false r.length (r.map I), by rw [hf k h.lok]; exact h.top, by rw [h.len]; omega, rfl, ?_⟩, ?_⟩
  · rw [List.take_of_length_le (by simp [h.len])]
    have key : ∀ (rows : List AVal) (t : List (List Int)), rows.length = t.length → (∀ (j : Nat) (c : AVal) (r : List Int), rows[j]? = some c → t[j]? = some r → Pur Hf 1 c (.sl false r.length (r.map I))) → All2 (Pur Hf 1) rows (t.map fun r => .sl false r.length (r.map I)) := by
      intro rows
      induction rows with
      | nil => intro t hl _; have : t = [] := List.eq_nil_of_length_eq_zero (by simpa using hl.symm); subst this; rfl
      | cons c rows ih =>
        intro t hl hp
        cases t with
        | nil => cases hl
        | cons r t => exact ⟨_, _, rfl, hp 0 c r rfl rfl, ih t (by simpa using hl) fun j c' r' h1 h2 => hp (j + 1) c' r' h1 h2⟩
    refine key _ _ (by simp [h.len]) fun j c r h1 h2 => ?_
    rw [List.getElem?_drop] at h1 h2
    obtain ⟨kj, gj, h3, h4, h5, h6, _⟩ := h.get h2
    rw [h1] at h4; cases h4
    exact pur_ints (by rw [hf kj h6]; exact h5) 0
  · have := isTab_pure (t.drop o)
    rw [List.length_drop] at this; exact this
theorem rSLo1 {k g n : Nat} {K : AVal → Prop} (hn : 2 ≤ n) (h : K (.own k g 1 1 (n - 1))) : SLK 1 (.own k g 1 0 n) (some (I 1)) none none K := by
  refine ⟨rfl, ?_⟩
  refine ⟨by omega, ?_⟩
  show _ ≤ n ∧ n ≤ n ∧ n = n ∧ _
  refine ⟨by simpa using (by omega : 1 ≤ n), Nat.le_refl _, rfl, fun h1 => ?_, fun _ => ⟨rfl, h⟩⟩
  have : (1 : Nat) = n := h1
  omega

theorem rBOXc {v : AVal} {H : Heap} {K : AVal → Heap → Prop} (h : ∀ g, K (.ptr H.length g 0) (hnew H g [v, I 0, .int .u64 0])) : BLDK (([AVal.nilS, (AVal.int .i64 0), (AVal.int .u64 0)].take 0 ++ [v]) ++ [AVal.nilS, (AVal.int .i64 0), (AVal.int .u64 0)].drop (0 + 1)) [] fun x1 => BOXK x1 H K := h
theorem drawEnd {A : Int} {H0 H1 : Heap} {i g : Nat} {k gk : Nat} {rows : List AVal} {ks : List Nat} {t : List (List Int)} (hA : A ≤ 100000) (hlo : H0.length = i) (hF : HSub H0 H1) (hA1 : Cur A H1 i g) (ho : OTab H0.length H1 k gk rows ks t) (hi : ∀ j gj cs, hget H0 j = some (gj, cs) → j ≠ i) (h2 : 2 ≤ t.length) (h7 : t.length ≤ 7) (hr : ∀ r ∈ t, r.length ≤ 7)
    (hne : ∀ x ∈ k :: ks, x ≠ i) :
    ACalls Try.prog 70 [.ptr i g 0, I 15] H1 fun x32 H33 => BRK x32 (TT ∧ TT ∧ SLK 1 (.own k gk 1 0 t.length) (some (I 1)) none none fun x34 => HSub H0 H33 ∧ ∃ k r', Pur (nw H0 H33) k x34 r' ∧ (TabR r' ∧ H0 = H0)) (HSub H0 H33 ∧ ∃ k' r', Pur (nw H0 H33) k' (.own k gk 1 0 t.length) r' ∧ (TabR r' ∧ H0 = H0)) := by
  refine ACalls.mono (one_ok hA1 (by omega) (by omega)) ?_
  rintro r H2 ⟨b, cs, rfl, hH2, hc2⟩
  have hsub : HSub H0 H2 := by
    intro j gj ds hj
    rw [hH2, hget_set_ne _ _ (fun e => hi j gj ds hj e.symm)]; exact hF j gj ds hj
  have hf : ∀ j, H0.length ≤ j → hget (nw H0 H2) j = hget H2 j := fun j hj => nw_above H0 H2 hj
  have ho2 : OTab H0.length H2 k gk rows ks t := by
    have hk : ∀ x, x ∈ k :: ks → hget H2 x = hget H1 x := fun x hx => by rw [hH2, hget_set_ne _ _ (fun e => hne x hx e.symm)]
    exact ⟨by rw [hk k (by simp)]; exact ho.top, ho.lok, ho.len, ho.kln, ho.nd, fun j s kj h1 h2 => by
      obtain ⟨gj, h3, h4, h5⟩ := ho.row j s kj h1 h2
      exact ⟨gj, h3, by rw [hk kj (by simp [List.mem_of_getElem? h2])]; exact h4, h5⟩⟩
  refine rBRKb (fun _ => ?_) (fun _ => ?_)
  · refine rTT (rTT (rSLo1 h2 ?_))
    obtain ⟨v', q1, q2⟩ := ho2.pur_drop hf (o := 1) (by omega)
    exact ⟨hsub, 2, v', q1, ⟨_, q2, by simp; omega, fun r h => hr r (List.mem_of_mem_drop h)⟩, rfl⟩
  · obtain ⟨v', q1, q2⟩ := (ho2.is rfl).pur hf
    exact ⟨hsub, 2, v', q1, ⟨_, q2, h7, hr⟩, rfl⟩

theorem OTab.lo' {lo lo' : Nat} {H : Heap} {k g : Nat} {rows : List AVal} {ks : List Nat} {t : List (List Int)} (h : OTab lo H k g rows ks t) (hl : lo' ≤ lo) : OTab lo' H k g rows ks t :=
  ⟨h.top, Nat.le_trans hl h.lok, h.len, h.kln, h.nd, fun j r kj h1 h2 => by obtain ⟨gj, h3, h4, h5⟩ := h.row j r kj h1 h2; exact ⟨gj, h3, h4, Nat.le_trans hl h5⟩⟩
theorem OTab.ge {lo : Nat} {H : Heap} {k g : Nat} {rows : List AVal} {ks : List Nat} {t : List (List Int)} (h : OTab lo H k g rows ks t) : ∀ x ∈ k :: ks, lo ≤ x := by
  intro x hx
  rcases List.mem_cons.1 hx with rfl | hx
  · exact h.lok
  · obtain ⟨j, hj, rfl⟩ := List.getElem_of_mem hx
    obtain ⟨gj, _, _, h5⟩ := h.row j _ _ (List.getElem?_eq_getElem (by rw [← h.kln]; exact hj)) (List.getElem?_eq_getElem hj)
    exact h5
theorem drawAreHeights_ok {code : List Int} {v : AVal} (hv : IsSl IsB v code) (hl : code.length ≤ 1099511627776) {H : Heap} : ACalls Try.prog 83 [v] H fun r H' => TabR r ∧ H' = H := by
  apply ACalls.pure
  apply spec_DrawAreHeights.start
  unfold spec_DrawAreHeights.start_vc
  refine rTT ?_
  refine cells_one hv.one ⟨rfl, by decide, ?_⟩
  refine rBOXc ?_
  intro g
  have hc : Cur 0 (hnew H g [v, I 0, .int .u64 0]) H.length g := ⟨v, code, 0, 0, hget_new _ _ _, hv, hl, by omega, by omega⟩
  refine ACalls.mono (signsV_ok hc (by omega) (by omega) (by omega)) ?_
  rintro r1 H1 ⟨m, cs1, hm, hml, hmr, hH1, hc1⟩
  rw [hset_new] at hH1
  have hs1 : HSub H H1 := by rw [hH1]; exact hsub_new _ _ _
  have hl1 : H1.length = H.length + 1 := by rw [hH1, hlen_new]
  refine ACalls.mono (sgGood_ok hm (by omega) (fun r hr => by have := hmr r hr; omega)) ?_
  rintro r H2 ⟨rfl, rfl⟩
  refine rNOT ?_
  refine rBRKnb (fun hb => ⟨hs1, 1, r1, Pur.refl _ _ _, ⟨m, hm, hml, hmr⟩, rfl⟩) (fun hg => ?_)
  have gl := goodB_len hg
  refine ACalls.mono (heOfo_ok hm (by omega) (goodB_sq hg)) ?_
  rintro r3 H3 ⟨h3, hF3⟩
  have hlen := heights_len m
  rcases h3 with ⟨rfl, ht⟩ | ⟨k, gk, rows, ks, rfl, ho⟩
  · rw [ht] at hlen; simp at hlen
  · have hc3 := hc1.old (hF3.old _ (by omega))
    have hs3 : HSub H H3 := hs1.trans hF3.sub
    have hil : ∀ j gj cs, hget H j = some (gj, cs) → j ≠ H.length := fun j gj cs hj => by have := hlt_of_get hj; omega
    refine ACalls.mono (one_ok hc3 (by omega) (by omega)) ?_
    rintro r4 H4 ⟨b, cs4, rfl, hH4, hc4⟩
    have hs4 : HSub H H4 := by intro j gj ds hj; rw [hH4, hget_set_ne _ _ (fun e => hil j gj ds hj e.symm)]; exact hs3 j gj ds hj
    have hgt : ∀ x ∈ k :: ks, x ≠ H.length := fun x hx => by have := ho.ge x hx; omega
    have ho4 : OTab H2.length H4 k gk rows ks (heightsF m) := ho.frame fun j hj _ => by rw [hH4, hget_set_ne _ _ (by omega)]
    have hr7 : ∀ r ∈ heightsF m, r.length ≤ 7 := fun r hr => by rw [heights_sq hr]; omega
    refine rBRKb (fun _ => ?_) (fun _ => ?_)
    · refine rTT ?_
      refine IsOTab.len (ho4.is rfl) (IsOTab.len (ho4.is rfl) ?_)
      refine rTT (rTT (rTT (rLITc rfl (rLITc rfl (rLITc rfl (rLITc rfl (rLITc rfl (rLITe ?_))))))))
      refine ACalls.mono (pick_ok hc4 (by omega) (by omega)) ?_
      rintro r5 H5 ⟨x, cs5, rfl, hx0, hx1, hH5, hc5⟩
      obtain ⟨xn, rfl⟩ : ∃ xn : Nat, x = xn := ⟨x.toNat, by omega⟩
      have ho5 : OTab H2.length H5 k gk rows ks (heightsF m) := ho4.frame fun j hj _ => by rw [hH5, hget_set_ne _ _ (by omega)]
      obtain ⟨row, hrow⟩ := ex_get (l := heightsF m) (k := xn) (by omega)
      have hrl := heights_sq (getElem_mem' hrow)
      obtain ⟨kj, gj, g1, g2, g3, g4, g5⟩ := ho5.get hrow
      refine rTT (rIXo (by omega) (rTT (rTT (rLDf ho5.top g2 ?_))))
      refine ACalls.mono (pick_ok hc5 (by omega) (by omega)) ?_
      rintro r6 H6 ⟨y, cs6, rfl, hy0, hy1, hH6, hc6⟩
      obtain ⟨yn, rfl⟩ : ∃ yn : Nat, y = yn := ⟨y.toNat, by omega⟩
      have ho6 : OTab H2.length H6 k gk rows ks (heightsF m) := ho5.frame fun j hj _ => by rw [hH6, hget_set_ne _ _ (by omega)]
      have e6 : hget H6 kj = some (gj, row.map I) := by rw [hH6, hget_set_ne _ _ (by omega)]; exact g3
      obtain ⟨z, hz⟩ := ex_get (l := row) (k := yn) (by omega)
      refine ⟨rTT (rTT (rLDf ho6.top g2 rfl)), ?_⟩
      refine rTT (rIXo (by omega) (rTT (rTT (rLDf e6 (by rw [List.getElem?_map, hz]; rfl) ?_))))
      have hl5 := isI_list [1, -1, 2, -2, 4611686018427387904] true
      refine ACalls.mono (among_ok hc6 (by omega) hl5 (by simp) (by simp)) ?_
      rintro r7 H7 ⟨w, cs7, rfl, hw, hH7, hc7⟩
      have ho7 : OTab H2.length H7 k gk rows ks (heightsF m) := ho6.frame fun j hj _ => by rw [hH7, hget_set_ne _ _ (by omega)]
      have e7 : hget H7 kj = some (gj, row.map I) := by rw [hH7, hget_set_ne _ _ (by omega)]; exact e6
      refine ⟨rTT (rTT (rLDf e7 (by rw [List.getElem?_map, hz]; rfl) rfl)), ⟨rTT (rTT (rLDf ho7.top g2 rfl)), ?_⟩⟩
      refine rADDw ?_
      refine rTT (rIXo (by omega) (rTT (rSTp e7 (by simp; omega) rfl ?_)))
      have hset1 : ∀ w, (row.map I).set yn (I w) = (row.set yn w).map I := fun w => by rw [List.map_set]
      rw [hset1]
      have ho8 := (ho7.put hrow g1 e7 (r' := row.set yn (w64 (z + w))) (by simp)).lo' (lo' := H.length) (by omega)
      have hlen8 : ((heightsF m).set xn (row.set yn (w64 (z + w)))).length = (heightsF m).length := by simp
      rw [← hlen8]
      have hs5 : HSub H H5 := by intro j gj ds hj; rw [hH5, hget_set_ne _ _ (fun e => hil j gj ds hj e.symm)]; exact hs4 j gj ds hj
      have hs6 : HSub H H6 := by intro j gj ds hj; rw [hH6, hget_set_ne _ _ (fun e => hil j gj ds hj e.symm)]; exact hs5 j gj ds hj
      have hs7 : HSub H H7 := by intro j gj ds hj; rw [hH7, hget_set_ne _ _ (fun e => hil j gj ds hj e.symm)]; exact hs6 j gj ds hj
      refine drawEnd (A := 10000) (by omega) rfl ?_ ((hc7.old (hget_set_ne _ _ (by omega))).le (by omega)) ho8 hil (by rw [hlen8]; omega) (by rw [hlen8]; omega) ?_ hgt
      · intro j gj' ds hj
        have := hlt_of_get hj
        rw [hget_set_ne _ _ (by omega)]; exact hs7 j gj' ds hj
      · intro r hr
        rcases List.mem_or_eq_of_mem_set hr with h | rfl
        · exact hr7 r h
        · simp; omega
    · exact drawEnd (A := 10000) (by omega) rfl hs4 (hc4.le (by omega)) (ho4.lo' (by omega)) hil (by omega) (by omega) hr7 hgt
theorem drawFromHeights_ok {code : List Int} {v : AVal} (hv : IsSl IsB v code) (hl : code.length ≤ 1099511627776) {H : Heap} : ACalls Try.prog 26 [v] H fun r H' => TabR r ∧ H' = H := by
  apply spec_DrawFromHeights.start
  unfold spec_DrawFromHeights.start_vc
  exact drawAreHeights_ok hv hl

end Go.Proofs.Ytccioplhchmilaa.AL

set_option linter.unusedVariables false
set_option maxRecDepth 100000
namespace Go.Proofs.Ytccioplhchmilaa.AL
open Go Go.Proofs Go.RowKit

/-- What a law says. -/
def True1 (H0 : Heap) : AVal → Heap → Prop := fun r H => r = .bool true ∧ H = H0
theorem enter_bytes {w : World} {a : Option Addr} {len cap : Nat} {z : List Int} (h : (a = none ∧ len = 0 ∧ cap = 0 ∧ z = []) ∨
    ∃ x, a = some x ∧ len ≤ cap ∧ cap ≤ maxLen ∧ z.length = cap ∧ (∀ i, i < z.length → w.cell? (x.add i) = some (.int .u8 (z.getD i 0))) ∧ ∀ n ∈ z, (Lit.int .u8 n).wf = true) :
    ∃ (v : AVal) (code : List Int), VRel w (fun g => g < w.heap.size) v (.slice a len cap) ∧ IsSl IsB v code ∧ code.length ≤ 9223372036854775807 := by
  rcases h with ⟨rfl, rfl, rfl, rfl⟩ | ⟨x, rfl, hl, hm, hz, hcell, hwf⟩
  · exact ⟨.nilS, [], by simp only [VRel], .inl ⟨rfl, rfl⟩, by simp⟩
  · have hmax : maxLen ≤ 9223372036854775807 := by decide
    by_cases h0 : len = 0
    · subst h0
      refine ⟨.sl false 0 [], [], ?_, isSl_mk rfl rfl (by intro i c a h; simp at h), by simp⟩
      simp only [VRel]
      exact .inl ⟨trivial, trivial, _, _, rfl, by intro h; cases h⟩
    · obtain ⟨b, off, spot⟩ := x
      have hc := hcell 0 (by omega)
      have hspot : spot = none := by simpa [Addr.add] using World.cell?_spot hc
      subst hspot
      have hb : b < w.heap.size := by
        unfold World.cell? at hc
        rcases hn : w.heap[b]? with _ | o
        · simp [Addr.add, hn] at hc
        · exact (Array.getElem?_eq_some_iff.1 hn).1
      have hcells : ∀ i, i < z.length → w.cell? ⟨b, off + i, none⟩ = some (.int .u8 (z.getD i 0)) := fun i hi => by
        have := hcell i hi
        unfold Addr.add at this
        split at this
        · rename_i h; subst h; exact this
        · exact this
      refine ⟨.sl false len ((z.take len).map (.int .u8)), z.take len, ?_, isSl_mk (by simp; omega) (by simp) ?_, by simp; omega⟩
      · simp only [VRel]
        refine .inr ⟨b, off, cap, (z.take len).map (.int .u8), rfl, hl, (by intro h; cases h), hb, ?_, ?_, ?_⟩
        · intro j u hu
          rw [List.getElem?_map] at hu
          have hj : j < (z.take len).length := by
            rcases Nat.lt_or_ge j (z.take len).length with h | h
            · exact h
            · rw [List.getElem?_eq_none h] at hu; cases hu
          have hj2 : j < z.length := by simp at hj; omega
          rw [List.getElem?_eq_getElem hj] at hu
          cases hu
          rw [hcells j hj2]
          simp [List.getD, hj2]
        · intro u hu
          simp only [List.mem_map] at hu
          obtain ⟨n, _, rfl⟩ := hu
          rfl
        · rw [VRels_iff]
          refine ⟨by simp, fun j c u h1 h2 => ?_⟩
          rw [List.getElem?_map] at h1 h2
          cases hq : (z.take len)[j]? with
          | none => rw [hq] at h1; cases h1
          | some n => rw [hq] at h1 h2; cases h1; cases h2; simp only [VRel]
      · intro i c a hc ha
        rw [List.getElem?_map, ha] at hc
        cases hc
        have hw := hwf a (List.mem_of_mem_take (List.mem_of_getElem? ha))
        refine ⟨rfl, ?_⟩
        simp [Lit.wf, IntKind.min, IntKind.max, IntKind.bits, IntKind.signed] at hw
        omega
theorem law_calls {P : Program} {f : FuncId} (h : ∀ (u v : AVal) (code more : List Int), IsSl IsB u code → code.length ≤ 9223372036854775807 → IsSl IsB v more → more.length ≤ 9223372036854775807 → ACalls P f [u, v] [] (True1 []))
    {w : World} {a0 a1 : Option Addr} {len0 cap0 len1 cap1 : Nat} {z0 z1 : List Int}
    (h0 : (a0 = none ∧ len0 = 0 ∧ cap0 = 0 ∧ z0 = []) ∨
      ∃ x, a0 = some x ∧ len0 ≤ cap0 ∧ cap0 ≤ maxLen ∧ z0.length = cap0 ∧ (∀ i, i < z0.length → w.cell? (x.add i) = some (.int .u8 (z0.getD i 0))) ∧ ∀ n ∈ z0, (Lit.int .u8 n).wf = true)
    (h1 : (a1 = none ∧ len1 = 0 ∧ cap1 = 0 ∧ z1 = []) ∨
      ∃ x, a1 = some x ∧ len1 ≤ cap1 ∧ cap1 ≤ maxLen ∧ z1.length = cap1 ∧ (∀ i, i < z1.length → w.cell? (x.add i) = some (.int .u8 (z1.getD i 0))) ∧ ∀ n ∈ z1, (Lit.int .u8 n).wf = true) :
    Calls P f #[.slice a0 len0 cap0, .slice a1 len1 cap1] w fun e w' => e = .returned (.bool true) ∧ Below w.heap.size w w' := by
  obtain ⟨u, code, q1, q2, q3⟩ := enter_bytes h0
  obtain ⟨v, more, p1, p2, p3⟩ := enter_bytes h1
  have hH : HRel w (fun g => g < w.heap.size) w.heap.size [] := ⟨Nat.le_refl _, fun g h => h, fun i g cs h => by simp [hget] at h, fun i j g cs ds h => by simp [hget] at h⟩
  have hV : VRels w (fun g => g < w.heap.size) [u, v] [.slice a0 len0 cap0, .slice a1 len1 cap1] := by
    simp only [VRels]
    exact ⟨_, _, rfl, q1, _, _, rfl, p1, rfl⟩
  refine ((h u v code more q2 q3 p2 p3).2 w _ _ _ (fun v w' => v = .bool true ∧ Below w.heap.size w w') hH hV ?_).mono ?_
  · rintro r H' w' I' v' ⟨rfl, rfl⟩ _ hv he
    simp only [VRel] at hv
    exact ⟨hv, he.below⟩
  · rintro e w' ⟨v', rfl, rfl, h2⟩
    exact ⟨rfl, h2⟩

end Go.Proofs.Ytccioplhchmilaa.AL

set_option linter.unusedVariables false
set_option maxRecDepth 100000
namespace Go.Proofs.Ytccioplhchmilaa.AL
open Go Go.Proofs

/-! laws.FnHeightsAreMatrices (slots: 0 code, 1 more, 2 code, 3 more, 5 m, 6 h, 7 ok, 8 right, 9 fine, 10 back, 11 one, 12 g, 13 k, 14 one, 15 want, 16 two, 17 again, 18 three, 19 a, 20 b, 21 is, 22 three, 23 value, 24 four, 25 x, 26 five, 27 y, 28 six, 29 turned, 30 seven, 31 back, 32 eight, 33 least, 34 nine, 35 low, 36 ten, 37 most, 38 eleven, 39 high, 40 twelve) -/
namespace laws_FnHeightsAreMatrices
def lv : List (Nat × List Nat) := [(12, [1]), (21, [1])]
noncomputable def M12 : List KF := [.sq (cL (cR (cR (cR (cR (cR (cR (cR (bodyOf Try.f4))))))))), .sq (cR (cR (cR (cR (cR (cR (cR (cR (bodyOf Try.f4)))))))))]
def J12 (Q : AVal → Heap → Prop) (v1 : AVal) (H : Heap) : Prop := At Try.prog 4 246 M12 Q (slotsOf [(1, v1)]) H
theorem J12_frz {Q : AVal → Heap → Prop} {v1 w1 : AVal} {H Hf Hk : Heap} {k : Nat} (hs : Split H Hf Hk) (hp : PurL Hf k [(1, v1, w1)]) (h : J12 Q w1 Hk) : J12 Q v1 H := at_frz (ks := M12) hs hp h
noncomputable def M21 : List KF := [.sq (cL (cR (cR (cR (cR (cR (cR (cR (cR (cR (cR (cR (cR (bodyOf Try.f4)))))))))))))), .sq (cR (cR (cR (cR (cR (cR (cR (cR (cR (cR (cR (cR (cR (bodyOf Try.f4))))))))))))))]
def J21 (Q : AVal → Heap → Prop) (v1 : AVal) (H : Heap) : Prop := At Try.prog 4 246 M21 Q (slotsOf [(1, v1)]) H
theorem J21_frz {Q : AVal → Heap → Prop} {v1 w1 : AVal} {H Hf Hk : Heap} {k : Nat} (hs : Split H Hf Hk) (hp : PurL Hf k [(1, v1, w1)]) (h : J21 Q w1 Hk) : J21 Q v1 H := at_frz (ks := M21) hs hp h
def start_vc (Q : AVal → Heap → Prop) (a0 a1 : AVal) (H : Heap) : Prop :=
 ACalls Try.prog 6 [a0, a1] H fun x1 H2 =>
 BRK x1 (Q (AVal.bool true) H2) (ACalls Try.prog 21 [a0] H2 fun x3 H4 =>
 ACalls Try.prog 22 [x3] H4 fun x5 H6 =>
 EXTK x5 0 fun x7 =>
 EXTK x5 1 fun x8 =>
 ACalls Try.prog 23 [x3] H6 fun x9 H10 =>
 EXTK x9 0 fun x11 =>
 EXTK x9 1 fun x12 =>
 EQB .neq x8 x12 fun x13 =>
 SPL x13 (Q (AVal.bool false) H10) (ACalls Try.prog 12 [x7, x11] H10 fun x14 H15 =>
 NOTK x14 fun x16 =>
 BRK x16 (Q (AVal.bool false) H15) (BRK x8 (ACalls Try.prog 24 [x7] H15 fun x17 H18 =>
 EXTK x17 0 fun x19 =>
 EXTK x17 1 fun x20 =>
 NOTK x20 fun x21 =>
 SPL x21 (Q (AVal.bool false) H18) (ACalls Try.prog 12 [x19, x3] H18 fun x22 H23 =>
 NOTK x22 fun x24 =>
 SPL x24 (Q (AVal.bool false) H23) (ACalls Try.prog 25 [x7] H23 fun x25 H26 =>
 NOTK x25 fun x27 =>
 BRK x27 (Q (AVal.bool false) H26) (laws_FnHeightsAreMatrices.J12 Q a1 H26)))) (laws_FnHeightsAreMatrices.J12 Q a1 H15))))
theorem start_eq (Q : AVal → Heap → Prop) (a0 a1 : AVal) (H : Heap) : vs Try.prog lv 4 246 Try.f4.results.toList Q true 1000 [.sq (bodyOf Try.f4)] (entry [a0, a1]) H = start_vc Q a0 a1 H := by kernel_rfl
theorem start {Q : AVal → Heap → Prop} {a0 a1 : AVal} {H : Heap} (h : start_vc Q a0 a1 H) : ACalls Try.prog 4 [a0, a1] H Q := acalls_vs (lv := lv) mixed Try.func4 rfl (by kernel_rfl) (by kernel_rfl) (start_eq Q a0 a1 H ▸ h)
def join12_vc (Q : AVal → Heap → Prop) (v1 : AVal) (H : Heap) : Prop :=
 ACalls Try.prog 26 [v1] H fun x1 H2 =>
 ACalls Try.prog 24 [x1] H2 fun x3 H4 =>
 EXTK x3 0 fun x5 =>
 EXTK x3 1 fun x6 =>
 ACalls Try.prog 27 [x1] H4 fun x7 H8 =>
 EXTK x7 0 fun x9 =>
 EXTK x7 1 fun x10 =>
 EQB .neq x6 x10 fun x11 =>
 SPL x11 (Q (AVal.bool false) H8) (ACalls Try.prog 12 [x5, x9] H8 fun x12 H13 =>
 NOTK x12 fun x14 =>
 SPL x14 (Q (AVal.bool false) H13) (ACalls Try.prog 25 [x1] H13 fun x15 H16 =>
 EQB .neq x6 x15 fun x17 =>
 SPL x17 (Q (AVal.bool false) H16) (ACalls Try.prog 28 [x1] H16 fun x18 H19 =>
 EQB .neq x6 x18 fun x20 =>
 BRK x20 (Q (AVal.bool false) H19) (BRK x6 (ACalls Try.prog 22 [x5] H19 fun x21 H22 =>
 EXTK x21 0 fun x23 =>
 EXTK x21 1 fun x24 =>
 NOTK x24 fun x25 =>
 SPL x25 (Q (AVal.bool false) H22) (ACalls Try.prog 12 [x23, x1] H22 fun x26 H27 =>
 NOTK x26 fun x28 =>
 BRK x28 (Q (AVal.bool false) H27) (laws_FnHeightsAreMatrices.J21 Q v1 H27))) (laws_FnHeightsAreMatrices.J21 Q v1 H19)))))
theorem join12_eq (Q : AVal → Heap → Prop) (v1 : AVal) (H : Heap) : vs Try.prog lv 4 246 Try.f4.results.toList Q true 1000 M12 (slotsOf [(1, v1)]) H = join12_vc Q v1 H := by kernel_rfl
theorem join12 {Q : AVal → Heap → Prop} {v1 : AVal} {H : Heap} (h : join12_vc Q v1 H) : J12 Q v1 H := at_join_vs (lv := lv) (ks := M12) mixed Try.func4 (join12_eq Q v1 H ▸ h)
def join21_vc (Q : AVal → Heap → Prop) (v1 : AVal) (H : Heap) : Prop :=
 ACalls Try.prog 29 [v1] H fun x1 H2 =>
 EXTK x1 0 fun x3 =>
 EXTK x1 1 fun x4 =>
 ACalls Try.prog 30 [x3, x4] H2 fun x5 H6 =>
 EXTK x5 0 fun x7 =>
 EXTK x5 1 fun x8 =>
 ACalls Try.prog 31 [x3, x4] H6 fun x9 H10 =>
 EXTK x9 0 fun x11 =>
 EXTK x9 1 fun x12 =>
 EQB .neq x8 x12 fun x13 =>
 SPL x13 (Q (AVal.bool false) H10) (EQB .neq x7 x11 fun x14 =>
 BRK x14 (Q (AVal.bool false) H10) (BRK x8 (ACalls Try.prog 32 [x3] H10 fun x15 H16 =>
 EXTK x15 0 fun x17 =>
 EXTK x15 1 fun x18 =>
 ACalls Try.prog 32 [x4] H16 fun x19 H20 =>
 EXTK x19 0 fun x21 =>
 EXTK x19 1 fun x22 =>
 ACalls Try.prog 30 [x21, x17] H20 fun x23 H24 =>
 EXTK x23 0 fun x25 =>
 EXTK x23 1 fun x26 =>
 ACalls Try.prog 30 [x4, x3] H24 fun x27 H28 =>
 EXTK x27 0 fun x29 =>
 EXTK x27 1 fun x30 =>
 LENK x3 fun x31 =>
 ACalls Try.prog 33 [x31] H28 fun x32 H33 =>
 EXTK x32 0 fun x34 =>
 EXTK x32 1 fun x35 =>
 ACalls Try.prog 30 [x34, x3] H33 fun x36 H37 =>
 EXTK x36 0 fun x38 =>
 EXTK x36 1 fun x39 =>
 LENK x3 fun x40 =>
 ACalls Try.prog 34 [x40] H37 fun x41 H42 =>
 EXTK x41 0 fun x43 =>
 EXTK x41 1 fun x44 =>
 ACalls Try.prog 30 [x3, x43] H42 fun x45 H46 =>
 EXTK x45 0 fun x47 =>
 EXTK x45 1 fun x48 =>
 SPL x18 (SPL x22 (SPL x26 (EQB .eql x25 x7 fun x49 =>
 SPL x49 (SPL x30 (SPL x7 (ACalls Try.prog 12 [x3, x4] H46 fun x50 H51 =>
 EQB .eql x29 x50 fun x52 =>
 SPL x52 (SPL x35 (SPL x39 (SPL x38 (SPL x44 (SPL x48 (Q x47 H51) (Q (AVal.bool false) H51)) (Q (AVal.bool false) H51)) (Q (AVal.bool false) H51)) (Q (AVal.bool false) H51)) (Q (AVal.bool false) H51)) (Q (AVal.bool false) H51)) (ACalls Try.prog 12 [x3, x4] H46 fun x53 H54 =>
 EQB .eql (AVal.bool false) x53 fun x55 =>
 SPL x55 (SPL x35 (SPL x39 (SPL x38 (SPL x44 (SPL x48 (Q x47 H54) (Q (AVal.bool false) H54)) (Q (AVal.bool false) H54)) (Q (AVal.bool false) H54)) (Q (AVal.bool false) H54)) (Q (AVal.bool false) H54)) (Q (AVal.bool false) H54))) (Q (AVal.bool false) H46)) (Q (AVal.bool false) H46)) (Q (AVal.bool false) H46)) (Q (AVal.bool false) H46)) (Q (AVal.bool false) H46)) (Q (AVal.bool true) H10)))
theorem join21_eq (Q : AVal → Heap → Prop) (v1 : AVal) (H : Heap) : vs Try.prog lv 4 246 Try.f4.results.toList Q true 1000 M21 (slotsOf [(1, v1)]) H = join21_vc Q v1 H := by kernel_rfl
theorem join21 {Q : AVal → Heap → Prop} {v1 : AVal} {H : Heap} (h : join21_vc Q v1 H) : J21 Q v1 H := at_join_vs (lv := lv) (ks := M21) mixed Try.func4 (join21_eq Q v1 H ▸ h)
end laws_FnHeightsAreMatrices


theorem rEXT0 {a : AVal} {l : List AVal} {K : AVal → Prop} (h : K a) : EXTK (.tup (a :: l)) 0 K := ⟨_, rfl, h⟩
theorem rEXT1 {a b : AVal} {l : List AVal} {K : AVal → Prop} (h : K b) : EXTK (.tup (a :: b :: l)) 1 K := ⟨_, rfl, h⟩
theorem rEXT2 {a b c : AVal} {l : List AVal} {K : AVal → Prop} (h : K c) : EXTK (.tup (a :: b :: c :: l)) 2 K := ⟨_, rfl, h⟩
theorem rNEB {a b : Bool} {K : AVal → Prop} (h : K (.bool (a != b))) : EQB .neq (.bool a) (.bool b) K := h
theorem rEQB {a b : Bool} {K : AVal → Prop} (h : K (.bool (a == b))) : EQB .eql (.bool a) (.bool b) K := h
theorem rSPt {b : Bool} {X Y : Prop} (hb : b = true) (h : X) : SPL (.bool b) X Y := rSPLb (fun _ => h) (fun h' => by rw [hb] at h'; cases h')
theorem rSPf {b : Bool} {X Y : Prop} (hb : b = false) (h : Y) : SPL (.bool b) X Y := rSPLb (fun h' => by rw [hb] at h'; cases h') (fun _ => h)
theorem rBRt {b : Bool} {X Y : Prop} (hb : b = true) (h : X) : BRK (.bool b) X Y := rBRKb (fun _ => h) (fun h' => by rw [hb] at h'; cases h')
theorem rBRf {b : Bool} {X Y : Prop} (hb : b = false) (h : Y) : BRK (.bool b) X Y := rBRKb (fun h' => by rw [hb] at h'; cases h') (fun _ => h)

section
variable {code more : List Int} {u v : AVal} {H : Heap}
theorem height_tail2 (hv : IsSl IsB v more) (hl : more.length ≤ 1099511627776) : laws_FnHeightsAreMatrices.J21 (True1 H) v H := by
  apply laws_FnHeightsAreMatrices.join21
  unfold laws_FnHeightsAreMatrices.join21_vc
  refine ACalls.mono (drawIsBelow_ok hv hl) ?_
  rintro r H1 ⟨⟨a, b, va, vb, rfl, ha, hb', sa, sb⟩, rfl⟩
  refine rEXT0 (rEXT1 ?_)
  have la : a.length ≤ 100000 := by have := sa.1; omega
  have lb : b.length ≤ 100000 := by have := sb.1; omega
  have ra : ∀ r ∈ a, r.length ≤ 1000000 := fun r h => by have := sa.2 r h; omega
  have rb : ∀ r ∈ b, r.length ≤ 1000000 := fun r h => by have := sb.2 r h; omega
  refine ACalls.mono (impl_IsBelow_ok ha hb' la lb) ?_
  rintro r2 H2 ⟨rfl, rfl⟩
  refine rEXT0 (rEXT1 ?_)
  refine ACalls.mono (spec_IsBelow_ok ha hb' la lb ra rb) ?_
  rintro r2 H3 ⟨rfl, rfl⟩
  refine rEXT0 (rEXT1 ?_)
  refine rNEB (rSPf (by simp) (rNEB (rBRf (by simp) ?_)))
  refine rBRKb (fun hp => ?_) (fun _ => ⟨rfl, rfl⟩)
  have hp' := hp
  simp only [pairB, Bool.and_eq_true, decide_eq_true_eq] at hp'
  obtain ⟨ga, gb, hab⟩ := hp'
  have Ga := goodB_iff.1 ga
  have Gb := goodB_iff.1 gb
  rw [← hab] at Gb
  rw [hp]
  simp only [cond_true]
  refine ACalls.mono (dualOf_ok ha la) ?_
  rintro r4 H4 ⟨⟨x, rfl, hx⟩, rfl⟩
  rw [ga, cond_true] at hx
  refine rEXT0 (rEXT1 ?_)
  refine ACalls.mono (dualOf_ok hb' lb) ?_
  rintro r4 H5 ⟨⟨y, rfl, hy⟩, rfl⟩
  rw [gb, cond_true] at hy
  refine rEXT0 (rEXT1 ?_)
  have Mx := mir_good Ga
  have My := mir_good Gb
  have p1 : pairB (mirF b) (mirF a) = true := by
    unfold pairB; rw [goodB_of My, goodB_of Mx, My.len, Mx.len]; simp
  refine ACalls.mono (impl_IsBelow_ok hy hx (by rw [My.len]; omega) (by rw [Mx.len]; omega)) ?_
  rintro r6 H6 ⟨rfl, rfl⟩
  refine rEXT0 (rEXT1 ?_)
  rw [p1, cond_true, below_mir Ga Gb]
  have p2 : pairB b a = true := by unfold pairB; rw [ga, gb, hab]; simp
  refine ACalls.mono (impl_IsBelow_ok hb' ha lb la) ?_
  rintro r7 H7 ⟨rfl, rfl⟩
  refine rEXT0 (rEXT1 ?_)
  rw [p2, cond_true]
  refine rLEN ha ?_
  refine ACalls.mono leastSigns_ok ?_
  rintro r8 H8 ⟨⟨z, rfl, hz⟩, rfl⟩
  have hn : decide (1 ≤ (a.length : Int) ∧ (a.length : Int) ≤ 6) = true := by
    have := Ga.n1; have := Ga.n6
    exact decide_eq_true (by omega)
  rw [hn, cond_true, Int.toNat_natCast] at hz
  rw [hn]
  refine rEXT0 (rEXT1 ?_)
  have GL := least_good Ga.n1 Ga.n6
  have p3 : pairB (leastF a.length) a = true := by unfold pairB; rw [goodB_of GL, ga, GL.len]; simp
  refine ACalls.mono (impl_IsBelow_ok hz ha (by rw [GL.len]; omega) la) ?_
  rintro r9 H9 ⟨rfl, rfl⟩
  refine rEXT0 (rEXT1 ?_)
  rw [p3, cond_true, least_below Ga]
  refine rLEN ha ?_
  refine ACalls.mono greatestSigns_ok ?_
  rintro r8 H10 ⟨⟨z2, rfl, hz2⟩, rfl⟩
  rw [hn, cond_true, Int.toNat_natCast] at hz2
  rw [hn]
  refine rEXT0 (rEXT1 ?_)
  have GM := mir_good GL
  have p4 : pairB a (mirF (leastF a.length)) = true := by unfold pairB; rw [goodB_of GM, ga, GM.len]; simp
  refine ACalls.mono (impl_IsBelow_ok ha hz2 la (by rw [GM.len]; omega)) ?_
  rintro r9 H11 ⟨rfl, rfl⟩
  refine rEXT0 (rEXT1 ?_)
  rw [p4, cond_true, below_most Ga]
  rw [ga, gb]
  refine rSPt rfl (rSPt rfl (rSPt rfl (rEQB (rSPt (by simp) (rSPt rfl ?_)))))
  have anti := below_anti Ga Gb
  refine rSPLb (fun h1 => ?_) (fun h1 => ?_)
  · refine ACalls.mono (hRows_ok ha hb' (by omega) ra) ?_
    rintro r10 H12 ⟨rfl, rfl⟩
    have : (isBelowB b a == decide (a = b)) = true := by
      rw [beq_iff_eq, Bool.eq_iff_iff, decide_eq_true_eq, ← anti]
      exact ⟨fun h => ⟨h1, h⟩, fun h => h.2⟩
    refine rEQB (rSPt this (rSPt rfl (rSPt rfl (rSPt rfl (rSPt rfl (rSPt rfl ⟨rfl, rfl⟩))))))
  · refine ACalls.mono (hRows_ok ha hb' (by omega) ra) ?_
    rintro r10 H12 ⟨rfl, rfl⟩
    have : (false == decide (a = b)) = true := by
      rw [beq_iff_eq]
      symm
      rw [decide_eq_false_iff_not, ← anti]
      exact fun h => by rw [h1] at h; cases h.1
    refine rEQB (rSPt this (rSPt rfl (rSPt rfl (rSPt rfl (rSPt rfl (rSPt rfl ⟨rfl, rfl⟩))))))
theorem height_tail1 (hv : IsSl IsB v more) (hl : more.length ≤ 1099511627776) : laws_FnHeightsAreMatrices.J12 (True1 H) v H := by
  apply laws_FnHeightsAreMatrices.join12
  unfold laws_FnHeightsAreMatrices.join12_vc
  refine ACalls.mono (drawFromHeights_ok hv hl) ?_
  rintro r H1 ⟨⟨t, ht, tl, tr⟩, rfl⟩
  have lt : t.length ≤ 100000 := by omega
  have rt : ∀ r ∈ t, r.length ≤ 1000000 := fun r h => by have := tr r h; omega
  refine ACalls.mono (fromHeightsOf_ok ht lt) ?_
  rintro r2 H2 ⟨⟨x, rfl, hx⟩, rfl⟩
  refine rEXT0 (rEXT1 ?_)
  refine ACalls.mono (specFromHeights_ok ht lt rt) ?_
  rintro r2 H3 ⟨⟨y, rfl, hy⟩, rfl⟩
  refine rEXT0 (rEXT1 ?_)
  rw [heGood_eq] at hy ⊢
  refine rNEB (rSPf (by simp) ?_)
  have hxy : (bif heightsB t then heFromF t else []) = (bif heightsB t then fromHeightsF t else []) := by
    cases h : heightsB t with
    | true => rw [cond_true, cond_true, from_eq h]
    | false => rfl
  rw [hxy] at hy
  have hxl : (bif heightsB t then fromHeightsF t else []).length ≤ 1000000 := by
    cases heightsB t with
    | true => simp only [cond_true, fromHeightsF, tabT_len]; omega
    | false => simp
  have hxr : ∀ r ∈ (bif heightsB t then fromHeightsF t else []), r.length ≤ 1000000 := by
    cases heightsB t with
    | true =>
      simp only [cond_true, fromHeightsF]
      intro r hr
      rw [tabT_sq r hr]; omega
    | false => simp
  refine ACalls.mono (hRows_ok hx hy hxl hxr) ?_
  rintro r4 H4 ⟨rfl, rfl⟩
  refine rNOT (rSPf (by simp) ?_)
  refine ACalls.mono (areHeights_ok ht lt) ?_
  rintro r4 H5 ⟨rfl, rfl⟩
  refine rNEB (rSPf (by simp) ?_)
  refine ACalls.mono (specAreHeights_ok ht lt rt) ?_
  rintro r4 H6 ⟨rfl, rfl⟩
  rw [heGood_eq]
  refine rNEB (rBRf (by simp) ?_)
  refine rBRKb (fun hg => ?_) (fun _ => height_tail2 hv hl)
  rw [hg, cond_true] at hx hxl
  obtain ⟨n, m, Gm, rfl⟩ := heightsB_iff.1 hg
  rw [fromHeights_good Gm] at hx hxl
  refine ACalls.mono (heightsOf_ok hx (by rw [Gm.len]; have := Gm.n6; omega)) ?_
  rintro r5 H7 ⟨⟨z, rfl, hz⟩, rfl⟩
  rw [goodB_of Gm, cond_true] at hz
  rw [goodB_of Gm]
  refine rEXT0 (rEXT1 (rNOT (rSPf rfl ?_)))
  refine ACalls.mono (hRows_ok hz ht (by omega) rt) ?_
  rintro r4 H8 ⟨rfl, rfl⟩
  refine rNOT (rBRf (by simp) (height_tail2 hv hl))
theorem heights_law (hu : IsSl IsB u code) (hul : code.length ≤ 9223372036854775807) (hv : IsSl IsB v more) (hl : more.length ≤ 9223372036854775807) :
    ACalls Try.prog 4 [u, v] H (True1 H) := by
  apply laws_FnHeightsAreMatrices.start
  unfold laws_FnHeightsAreMatrices.start_vc
  refine ACalls.mono (big_ok hu hv hul hl) ?_
  rintro r H1 ⟨rfl, rfl⟩
  refine rBRK (fun _ => ⟨rfl, rfl⟩) (fun hbig => ?_)
  have hul : code.length ≤ 1099511627776 := by omega
  have hl : more.length ≤ 1099511627776 := by omega
  refine ACalls.mono (drawHeights_ok hu hul) ?_
  rintro r H1 ⟨⟨m, hm, ml, mr⟩, rfl⟩
  have lm : m.length ≤ 100000 := by omega
  have rm : ∀ r ∈ m, r.length ≤ 1000000 := fun r h => by have := mr r h; omega
  refine ACalls.mono (heightsOf_ok hm lm) ?_
  rintro r2 H2 ⟨⟨x, rfl, hx⟩, rfl⟩
  refine rEXT0 (rEXT1 ?_)
  refine ACalls.mono (specHeightsOf_ok hm lm rm) ?_
  rintro r2 H3 ⟨⟨y, rfl, hy⟩, rfl⟩
  refine rEXT0 (rEXT1 ?_)
  refine rNEB (rSPf (by simp) ?_)
  have hxl : (bif goodB m then heightsF m else []).length ≤ 100000 := by
    cases goodB m with
    | true => simp only [cond_true, heights_len]; omega
    | false => simp
  have hxr : ∀ r ∈ (bif goodB m then heightsF m else []), r.length ≤ 1000000 := by
    cases goodB m with
    | true =>
      simp only [cond_true]
      intro r hr
      rw [heights_sq hr]; omega
    | false => simp
  refine ACalls.mono (hRows_ok hx hy (by omega) hxr) ?_
  rintro r4 H4 ⟨rfl, rfl⟩
  refine rNOT (rBRf (by simp) ?_)
  refine rBRKb (fun hg => ?_) (fun _ => height_tail1 hv hl)
  rw [hg, cond_true] at hx hxl
  have Gm := goodB_iff.1 hg
  have hB : heightsB (heightsF m) = true := heightsB_iff.2 ⟨_, m, Gm, rfl⟩
  refine ACalls.mono (fromHeightsOf_ok hx hxl) ?_
  rintro r5 H5 ⟨⟨z, rfl, hz⟩, rfl⟩
  rw [hB, cond_true, fromHeights_good Gm] at hz
  rw [hB]
  refine rEXT0 (rEXT1 (rNOT (rSPf rfl ?_)))
  refine ACalls.mono (hRows_ok hz hm (by omega) rm) ?_
  rintro r6 H6 ⟨rfl, rfl⟩
  refine rNOT (rSPf (by simp) ?_)
  refine ACalls.mono (areHeights_ok hx hxl) ?_
  rintro r7 H7 ⟨rfl, rfl⟩
  rw [hB]
  exact rNOT (rBRf rfl (height_tail1 hv hl))
end

end Go.Proofs.Ytccioplhchmilaa.AL
