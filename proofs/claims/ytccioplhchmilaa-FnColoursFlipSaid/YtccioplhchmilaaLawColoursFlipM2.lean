/-
  Contracts of functions, and what they rest on: Contracts: heights of the reference, owned; cells that can be flipped. Contracts: cells that can be flipped, and a flip, as the reference tells them. Contracts: a flip, as the reference tells it; drawn pairs. Contracts: drawn pairs. Plain facts: flips, distances, paths. Contracts: ways and cells of the program. Contracts: distances and ranks. Contracts: following flips. Contracts: paths of flips.
-/
import Derived.Test.YtccioplhchmilaaLawColoursFlipM1
set_option linter.unusedVariables false
set_option maxRecDepth 100000
namespace Go.Proofs.Ytccioplhchmilaa.AL
open Go Go.Proofs

/-! spec.heWay (slots: 0 h, 1 i, 2 j, 3 h, 4 i, 5 j, 7 x, 8 around) -/
namespace spec_heWay
def lv : List (Nat × List Nat) := []
def start_vc (Q : AVal → Heap → Prop) (a0 a1 a2 : AVal) (H : Heap) : Prop :=
 TT ∧ IXK 1 a0 a1 fun x1 =>
 TT ∧ TT ∧ LDK false 1 H x1 fun x2 =>
 TT ∧ IXK 1 x2 a2 fun x3 =>
 TT ∧ TT ∧ LDK false 1 H x3 fun x4 =>
 TT ∧ BINK .sub a1 (AVal.int .i64 1) fun x5 =>
 TT ∧ IXK 1 a0 x5 fun x6 =>
 TT ∧ TT ∧ LDK false 1 H x6 fun x7 =>
 TT ∧ IXK 1 x7 a2 fun x8 =>
 TT ∧ TT ∧ LDK false 1 H x8 fun x9 =>
 BINK .add a1 (AVal.int .i64 1) fun x10 =>
 TT ∧ IXK 1 a0 x10 fun x11 =>
 TT ∧ TT ∧ LDK false 1 H x11 fun x12 =>
 TT ∧ IXK 1 x12 a2 fun x13 =>
 TT ∧ TT ∧ LDK false 1 H x13 fun x14 =>
 TT ∧ IXK 1 a0 a1 fun x15 =>
 TT ∧ TT ∧ LDK false 1 H x15 fun x16 =>
 BINK .sub a2 (AVal.int .i64 1) fun x17 =>
 TT ∧ IXK 1 x16 x17 fun x18 =>
 TT ∧ TT ∧ LDK false 1 H x18 fun x19 =>
 TT ∧ IXK 1 a0 a1 fun x20 =>
 TT ∧ TT ∧ LDK false 1 H x20 fun x21 =>
 BINK .add a2 (AVal.int .i64 1) fun x22 =>
 TT ∧ IXK 1 x21 x22 fun x23 =>
 TT ∧ TT ∧ LDK false 1 H x23 fun x24 =>
 TT ∧ TT ∧ TT ∧ allCells 1 [x9, x14, x19, x24] fun c25 =>
 BINK .add x4 (AVal.int .i64 1) fun x26 =>
 BINK .add x4 (AVal.int .i64 1) fun x27 =>
 ACalls Try.prog 116 [(AVal.sl true 4 c25), x26, x27] H fun x28 H29 =>
 BRK x28 (Q (AVal.int .i64 1) H29) (BINK .sub x4 (AVal.int .i64 1) fun x30 =>
 BINK .sub x4 (AVal.int .i64 1) fun x31 =>
 ACalls Try.prog 116 [(AVal.sl true 4 c25), x30, x31] H29 fun x32 H33 =>
 BRK x32 (Q (AVal.int .i64 (-1)) H33) (Q (AVal.int .i64 0) H33))
theorem start_eq (Q : AVal → Heap → Prop) (a0 a1 a2 : AVal) (H : Heap) : vs Try.prog lv 62 63 Try.f62.results.toList Q true 1000 [.sq (bodyOf Try.f62)] (entry [a0, a1, a2]) H = start_vc Q a0 a1 a2 H := by kernel_rfl
theorem start {Q : AVal → Heap → Prop} {a0 a1 a2 : AVal} {H : Heap} (h : start_vc Q a0 a1 a2 H) : ACalls Try.prog 62 [a0, a1, a2] H Q := acalls_vs (lv := lv) mixed Try.func62 rfl (by kernel_rfl) (by kernel_rfl) (start_eq Q a0 a1 a2 H ▸ h)
end spec_heWay

/-! spec.heFlips (slots: 0 h, 1 way, 2 h, 3 way, 5 out, 6 i, 7 j) -/
namespace spec_heFlips
def lv : List (Nat × List Nat) := [(3, [0, 1, 5, 6]), (6, [0, 1, 5, 6, 7])]
noncomputable def K3 : List KF := [.lp (cB (cB (cR (cL (cR (cR (bodyOf Try.f100))))))), .bl 0, .sq (cR (cR (cR (bodyOf Try.f100))))]
def L3 (Q : AVal → Heap → Prop) (v0 v1 v5 v6 : AVal) (H : Heap) : Prop := At Try.prog 100 35 K3 Q (slotsOf [(0, v0), (1, v1), (5, v5), (6, v6)]) H
theorem L3_frz {Q : AVal → Heap → Prop} {v0 v1 v5 v6 w0 w1 w5 w6 : AVal} {H Hf Hk : Heap} {k : Nat} (hs : Split H Hf Hk) (hp : PurL Hf k [(0, v0, w0), (1, v1, w1), (5, v5, w5), (6, v6, w6)]) (h : L3 Q w0 w1 w5 w6 Hk) : L3 Q v0 v1 v5 v6 H := at_frz (ks := K3) hs hp h
noncomputable def K6 : List KF := [.lp (cB (cB (cR (cB (cL (cR (cB (cB (cR (cL (cR (cR (bodyOf Try.f100))))))))))))), .bl 2, .bl 1, .sq (cR (cR (cB (cB (cR (cL (cR (cR (bodyOf Try.f100))))))))), .lp (cB (cB (cR (cL (cR (cR (bodyOf Try.f100))))))), .bl 0, .sq (cR (cR (cR (bodyOf Try.f100))))]
def L6 (Q : AVal → Heap → Prop) (v0 v1 v5 v6 v7 : AVal) (H : Heap) : Prop := At Try.prog 100 35 K6 Q (slotsOf [(0, v0), (1, v1), (5, v5), (6, v6), (7, v7)]) H
theorem L6_frz {Q : AVal → Heap → Prop} {v0 v1 v5 v6 v7 w0 w1 w5 w6 w7 : AVal} {H Hf Hk : Heap} {k : Nat} (hs : Split H Hf Hk) (hp : PurL Hf k [(0, v0, w0), (1, v1, w1), (5, v5, w5), (6, v6, w6), (7, v7, w7)]) (h : L6 Q w0 w1 w5 w6 w7 Hk) : L6 Q v0 v1 v5 v6 v7 H := at_frz (ks := K6) hs hp h
def start_vc (Q : AVal → Heap → Prop) (a0 a1 : AVal) (H : Heap) : Prop :=
 spec_heFlips.L3 Q a0 a1 AVal.nilS (AVal.int .i64 1) H
theorem start_eq (Q : AVal → Heap → Prop) (a0 a1 : AVal) (H : Heap) : vs Try.prog lv 100 35 Try.f100.results.toList Q true 1000 [.sq (bodyOf Try.f100)] (entry [a0, a1]) H = start_vc Q a0 a1 H := by kernel_rfl
theorem start {Q : AVal → Heap → Prop} {a0 a1 : AVal} {H : Heap} (h : start_vc Q a0 a1 H) : ACalls Try.prog 100 [a0, a1] H Q := acalls_vs (lv := lv) mixed Try.func100 rfl (by kernel_rfl) (by kernel_rfl) (start_eq Q a0 a1 H ▸ h)
def step3_vc (Q : AVal → Heap → Prop) (v0 v1 v5 v6 : AVal) (H : Heap) : Prop :=
 LENK v0 fun x1 =>
 BINK .sub x1 (AVal.int .i64 1) fun x2 =>
 BINK .lss v6 x2 fun x3 =>
 BRK x3 (spec_heFlips.L6 Q v0 v1 v5 v6 (AVal.int .i64 1) H) (Q v5 H)
theorem step3_eq (Q : AVal → Heap → Prop) (v0 v1 v5 v6 : AVal) (H : Heap) : vs Try.prog lv 100 35 Try.f100.results.toList Q true 1000 (.sq (cB (cB (cR (cL (cR (cR (bodyOf Try.f100))))))) :: K3) (slotsOf [(0, v0), (1, v1), (5, v5), (6, v6)]) H = step3_vc Q v0 v1 v5 v6 H := by kernel_rfl
theorem step3 {Q : AVal → Heap → Prop} {v0 v1 v5 v6 : AVal} {H : Heap} (h : step3_vc Q v0 v1 v5 v6 H) : L3 Q v0 v1 v5 v6 H := at_lp_vs (lv := lv) (ks := K3.tail) mixed Try.func100 (step3_eq Q v0 v1 v5 v6 H ▸ h)
def step6_vc (Q : AVal → Heap → Prop) (v0 v1 v5 v6 v7 : AVal) (H : Heap) : Prop :=
 LENK v0 fun x1 =>
 BINK .sub x1 (AVal.int .i64 1) fun x2 =>
 BINK .lss v7 x2 fun x3 =>
 BRK x3 (ACalls Try.prog 62 [v0, v6, v7] H fun x4 H5 =>
 BINK .eql x4 v1 fun x6 =>
 BRK x6 (TT ∧ TT ∧ TT ∧ BSK 1 [v6, v7] H5 fun x7 H8 =>
 TT ∧ TT ∧ TT ∧ BSK 1 [x7] H8 fun x9 H10 =>
 TT ∧ TT ∧ APK 1 H10 v5 x9 fun x11 H12 =>
 BINK .add v7 (AVal.int .i64 1) fun x13 =>
 spec_heFlips.L6 Q v0 v1 x11 v6 x13 H12) (BINK .add v7 (AVal.int .i64 1) fun x14 =>
 spec_heFlips.L6 Q v0 v1 v5 v6 x14 H5)) (BINK .add v6 (AVal.int .i64 1) fun x15 =>
 spec_heFlips.L3 Q v0 v1 v5 x15 H)
theorem step6_eq (Q : AVal → Heap → Prop) (v0 v1 v5 v6 v7 : AVal) (H : Heap) : vs Try.prog lv 100 35 Try.f100.results.toList Q true 1000 (.sq (cB (cB (cR (cB (cL (cR (cB (cB (cR (cL (cR (cR (bodyOf Try.f100))))))))))))) :: K6) (slotsOf [(0, v0), (1, v1), (5, v5), (6, v6), (7, v7)]) H = step6_vc Q v0 v1 v5 v6 v7 H := by kernel_rfl
theorem step6 {Q : AVal → Heap → Prop} {v0 v1 v5 v6 v7 : AVal} {H : Heap} (h : step6_vc Q v0 v1 v5 v6 v7 H) : L6 Q v0 v1 v5 v6 v7 H := at_lp_vs (lv := lv) (ks := K6.tail) mixed Try.func100 (step6_eq Q v0 v1 v5 v6 v7 H ▸ h)
end spec_heFlips

/-! spec.heCell (slots: 0 n, 1 i, 2 j, 3 n, 4 i, 5 j) -/
namespace spec_heCell
def lv : List (Nat × List Nat) := []
def start_vc (Q : AVal → Heap → Prop) (a0 a1 a2 : AVal) (H : Heap) : Prop :=
 BINK .sub a0 (AVal.int .i64 1) fun x1 =>
 ACalls Try.prog 54 [a1, (AVal.int .i64 1), x1] H fun x2 H3 =>
 SPL x2 (BINK .sub a0 (AVal.int .i64 1) fun x4 =>
 ACalls Try.prog 54 [a2, (AVal.int .i64 1), x4] H3 fun x5 H6 =>
 Q x5 H6) (Q (AVal.bool false) H3)
theorem start_eq (Q : AVal → Heap → Prop) (a0 a1 a2 : AVal) (H : Heap) : vs Try.prog lv 72 17 Try.f72.results.toList Q true 1000 [.sq (bodyOf Try.f72)] (entry [a0, a1, a2]) H = start_vc Q a0 a1 a2 H := by kernel_rfl
theorem start {Q : AVal → Heap → Prop} {a0 a1 a2 : AVal} {H : Heap} (h : start_vc Q a0 a1 a2 H) : ACalls Try.prog 72 [a0, a1, a2] H Q := acalls_vs (lv := lv) mixed Try.func72 rfl (by kernel_rfl) (by kernel_rfl) (start_eq Q a0 a1 a2 H ▸ h)
end spec_heCell

/-! spec.FlipAt (slots: 0 m, 1 i, 2 j, 3 m, 4 i, 5 j, 8 h, 9 way) -/
namespace spec_FlipAt
def lv : List (Nat × List Nat) := []
def start_vc (Q : AVal → Heap → Prop) (a0 a1 a2 : AVal) (H : Heap) : Prop :=
 ACalls Try.prog 53 [a0] H fun x1 H2 =>
 NOTK x1 fun x3 =>
 SPL x3 (Q (AVal.tup [AVal.nilS, (AVal.bool false)]) H2) (LENK a0 fun x4 =>
 ACalls Try.prog 72 [x4, a1, a2] H2 fun x5 H6 =>
 NOTK x5 fun x7 =>
 BRK x7 (Q (AVal.tup [AVal.nilS, (AVal.bool false)]) H6) (ACalls Try.prog 61 [a0] H6 fun x8 H9 =>
 ACalls Try.prog 62 [x8, a1, a2] H9 fun x10 H11 =>
 BINK .eql x10 (AVal.int .i64 0) fun x12 =>
 BRK x12 (Q (AVal.tup [AVal.nilS, (AVal.bool false)]) H11) (TT ∧ IXK 1 x8 a1 fun x13 =>
 TT ∧ TT ∧ LDK false 1 H11 x13 fun x14 =>
 TT ∧ IXK 1 x14 a2 fun x15 =>
 TT ∧ TT ∧ LDK false 1 H11 x15 fun x16 =>
 BINK .mul (AVal.int .i64 2) x10 fun x17 =>
 BINK .add x16 x17 fun x18 =>
 TT ∧ IXK 1 x14 a2 fun x19 =>
 TT ∧ STK 1 H11 x19 x18 fun H20 =>
 ACalls Try.prog 74 [x8] H20 fun x21 H22 =>
 Q (AVal.tup [x21, (AVal.bool true)]) H22)))
theorem start_eq (Q : AVal → Heap → Prop) (a0 a1 a2 : AVal) (H : Heap) : vs Try.prog lv 37 42 Try.f37.results.toList Q true 1000 [.sq (bodyOf Try.f37)] (entry [a0, a1, a2]) H = start_vc Q a0 a1 a2 H := by kernel_rfl
theorem start {Q : AVal → Heap → Prop} {a0 a1 a2 : AVal} {H : Heap} (h : start_vc Q a0 a1 a2 H) : ACalls Try.prog 37 [a0, a1, a2] H Q := acalls_vs (lv := lv) mixed Try.func37 rfl (by kernel_rfl) (by kernel_rfl) (start_eq Q a0 a1 a2 H ▸ h)
end spec_FlipAt


theorem Bld.blk {H0 H : Heap} {v : AVal} {l : List AVal} (h : Bld H0 v H l) (hl : l ≠ []) : ∃ g, v = .own H0.length g 1 0 l.length ∧ H = hnew H0 g l := by
  rcases h with ⟨rfl, _⟩ | h
  · exact absurd rfl hl
  · exact h
/-- One more row, that has been built. -/
theorem rAPKrow {lo : Nat} {Hs H0 H : Heap} {v vr : AVal} {t : List (List Int)} {r : List Int} (h : IsOTab lo H0 v t) (hF : Fresh Hs H0) (hls : Hs.length ≤ lo) (hb : Bld H0 vr H (r.map I)) (hr : r ≠ []) (hlo : lo ≤ H0.length) (hlen : t.length < 1000000000)
    {b : Bool} {K : AVal → Heap → Prop} (k : ∀ v' H', IsOTab lo H' v' (t ++ [r]) → Fresh Hs H' → H0.length ≤ H'.length → K v' H') : APK 1 H v (.sl b 1 [vr]) K := by
  obtain ⟨g, rfl, rfl⟩ := hb.blk (by simpa using hr)
  have hF1 : Fresh Hs (hnew H0 g (r.map I)) := hF.trans (fresh_new H0 g (ifrees_map _))
  have := (h.new g (r.map I)).snoc (gr := g) (r := r) (hget_new _ _ _) hlo hlen (by rw [hlen_new]; omega) (b := b) (K := K) (fun v' H' q1 q2 => k v' H' q1 (hF1.chg hls q2) (by
    obtain ⟨g', cs, _, rfl | ⟨j, _, rfl⟩⟩ := q2
    · rw [hlen_new, hlen_new]; omega
    · rw [hlen_set, hlen_new]; omega))
  rw [List.length_map]; exact this

section
variable {t c : List (List Int)} {v vc : AVal} {Hs : Heap} {Q : AVal → Heap → Prop}
theorem heOfo_in (hv : IsTab v t) (hc : IsTab vc c) (hl : t.length ≤ 100000) (hcl : c.length = t.length) (hs : isSquareB c = true) {H0 : Heap} {i : Nat} (hi : i ≤ t.length) {vo : AVal}
    (hq : ∀ v6 H, Bld H0 v6 H ((tabRow (t.length + 1) (heAt c) i).map I) → spec_heOf.L8 Q v vc vo (I i) v6 (I ((t.length + 1 : Nat) : Int)) H) : ∀ (n j : Nat) (v6 : AVal) (H : Heap), j + n = t.length + 1 → Bld H0 v6 H (((tabRow (t.length + 1) (heAt c) i).take j).map I) →
    spec_heOf.L8 Q v vc vo (I i) v6 (I j) H := by
  have hrl : (tabRow (t.length + 1) (heAt c) i).length = t.length + 1 := by simp [tabRow]
  intro n
  induction n with
  | zero =>
    intro j v6 H hj hb0
    rw [List.take_of_length_le (by omega)] at hb0
    have hj' : j = t.length + 1 := by omega
    subst hj'
    exact hq _ _ hb0
  | succ n ih =>
    intro j v6 H hj hb0
    have hsq : ∀ r ∈ c, r.length = t.length := fun r hr => by rw [sq_len hs hr, hcl]
    apply spec_heOf.step8
    unfold spec_heOf.step8_vc
    repeat' (with_reducible first
 | refine rTT ?_
 | refine rRFL ?_
 | refine rLEN (by assumption) ?_
 | (refine rIXk (by assumption) (by assumption) ?_; intro p hp)
 | (refine rIX (by assumption) (by omega) (by omega) ?_; intro p a ha hp)
 | refine rLDi (by assumption) ?_
 | (refine rLD (by assumption) ?_; intro c hc)
 | refine rADD (by omega) ?_
 | refine rSUB (by omega) ?_
 | refine rLSS ?_
 | refine rLEQ ?_
 | refine rGTR ?_
 | refine rGEQ ?_
 | refine rEQL ?_
 | refine rNEQ ?_
 | refine rNOT ?_
 | (refine rBRK ?_ ?_ <;> intro hb)
 | (refine rBRKn ?_ ?_ <;> intro hb)
 | (refine rBRKnb ?_ ?_ <;> intro hb)
 | (refine rBRKb ?_ ?_ <;> intro hb)
 | (refine rSPL ?_ ?_ <;> intro hb)
 | (refine rSPLn ?_ ?_ <;> intro hb)
 | (refine rSPLnb ?_ ?_ <;> intro hb)
 | (refine rSPLb ?_ ?_ <;> intro hb)
 | (exfalso; omega))
    refine ACalls.mono (sgAt_ok hc (by omega) (fun r hr => by rw [hsq r hr]; omega)) ?_
    rintro r H1 ⟨rfl, rfl⟩
    refine rMULw ?_
    refine rSUBw ?_
    refine rTT (rTT (rTT (rLIT1 rfl (rTT (rTT ?_)))))
    refine rAPK1 hb0 (by simp; omega) fun v' H' hb1 => ?_
    repeat' (with_reducible first
 | refine rTT ?_
 | refine rRFL ?_
 | refine rLEN (by assumption) ?_
 | (refine rIXk (by assumption) (by assumption) ?_; intro p hp)
 | (refine rIX (by assumption) (by omega) (by omega) ?_; intro p a ha hp)
 | refine rLDi (by assumption) ?_
 | (refine rLD (by assumption) ?_; intro c hc)
 | refine rADD (by omega) ?_
 | refine rSUB (by omega) ?_
 | refine rLSS ?_
 | refine rLEQ ?_
 | refine rGTR ?_
 | refine rGEQ ?_
 | refine rEQL ?_
 | refine rNEQ ?_
 | refine rNOT ?_
 | (refine rBRK ?_ ?_ <;> intro hb)
 | (refine rBRKn ?_ ?_ <;> intro hb)
 | (refine rBRKnb ?_ ?_ <;> intro hb)
 | (refine rBRKb ?_ ?_ <;> intro hb)
 | (refine rSPL ?_ ?_ <;> intro hb)
 | (refine rSPLn ?_ ?_ <;> intro hb)
 | (refine rSPLnb ?_ ?_ <;> intro hb)
 | (refine rSPLb ?_ ?_ <;> intro hb)
 | (exfalso; omega))
    refine ih (j + 1) v' H' (by omega) ?_
    have e2 : (tabRow (t.length + 1) (heAt c) i)[j]? = some (heAt c i j) := by simp [tabRow, List.getElem?_range (show j < t.length + 1 by omega)]
    rw [take_some e2]
    simpa [heAt] using hb1
theorem heOfo_out (hv : IsTab v t) (hc : IsTab vc c) (hl : t.length ≤ 100000) (hcl : c.length = t.length) (hs : isSquareB c = true)
    (hq : ∀ v' H', IsOTab Hs.length H' v' (tabT (t.length + 1) (t.length + 1) (heAt c)) → Fresh Hs H' → Q v' H') : ∀ (n i : Nat) (vo : AVal) (H : Heap), i + n = t.length + 1 → IsOTab Hs.length H vo ((List.range i).map (tabRow (t.length + 1) (heAt c))) → Fresh Hs H →
    spec_heOf.L4 Q v vc vo (I i) H := by
  intro n
  induction n with
  | zero =>
    intro i vo H hi ho hF
    apply spec_heOf.step4
    unfold spec_heOf.step4_vc
    repeat' (with_reducible first
 | refine rTT ?_
 | refine rRFL ?_
 | refine rLEN (by assumption) ?_
 | (refine rIXk (by assumption) (by assumption) ?_; intro p hp)
 | (refine rIX (by assumption) (by omega) (by omega) ?_; intro p a ha hp)
 | refine rLDi (by assumption) ?_
 | (refine rLD (by assumption) ?_; intro c hc)
 | refine rADD (by omega) ?_
 | refine rSUB (by omega) ?_
 | refine rLSS ?_
 | refine rLEQ ?_
 | refine rGTR ?_
 | refine rGEQ ?_
 | refine rEQL ?_
 | refine rNEQ ?_
 | refine rNOT ?_
 | (refine rBRK ?_ ?_ <;> intro hb)
 | (refine rBRKn ?_ ?_ <;> intro hb)
 | (refine rBRKnb ?_ ?_ <;> intro hb)
 | (refine rBRKb ?_ ?_ <;> intro hb)
 | (refine rSPL ?_ ?_ <;> intro hb)
 | (refine rSPLn ?_ ?_ <;> intro hb)
 | (refine rSPLnb ?_ ?_ <;> intro hb)
 | (refine rSPLb ?_ ?_ <;> intro hb)
 | (exfalso; omega))
    have : i = t.length + 1 := by omega
    subst this
    exact hq _ _ ho hF
  | succ n ih =>
    intro i vo H hi ho hF
    apply spec_heOf.step4
    unfold spec_heOf.step4_vc
    repeat' (with_reducible first
 | refine rTT ?_
 | refine rRFL ?_
 | refine rLEN (by assumption) ?_
 | (refine rIXk (by assumption) (by assumption) ?_; intro p hp)
 | (refine rIX (by assumption) (by omega) (by omega) ?_; intro p a ha hp)
 | refine rLDi (by assumption) ?_
 | (refine rLD (by assumption) ?_; intro c hc)
 | refine rADD (by omega) ?_
 | refine rSUB (by omega) ?_
 | refine rLSS ?_
 | refine rLEQ ?_
 | refine rGTR ?_
 | refine rGEQ ?_
 | refine rEQL ?_
 | refine rNEQ ?_
 | refine rNOT ?_
 | (refine rBRK ?_ ?_ <;> intro hb)
 | (refine rBRKn ?_ ?_ <;> intro hb)
 | (refine rBRKnb ?_ ?_ <;> intro hb)
 | (refine rBRKb ?_ ?_ <;> intro hb)
 | (refine rSPL ?_ ?_ <;> intro hb)
 | (refine rSPLn ?_ ?_ <;> intro hb)
 | (refine rSPLnb ?_ ?_ <;> intro hb)
 | (refine rSPLb ?_ ?_ <;> intro hb)
 | (exfalso; omega))
    refine heOfo_in hv hc hl hcl hs (i := i) (by omega) (fun v6 H6 h6 => ?_) (t.length + 1) 0 _ _ (by omega) (bld_nil H)
    apply spec_heOf.step8
    unfold spec_heOf.step8_vc
    repeat' (with_reducible first
 | refine rTT ?_
 | refine rRFL ?_
 | refine rLEN (by assumption) ?_
 | (refine rIXk (by assumption) (by assumption) ?_; intro p hp)
 | (refine rIX (by assumption) (by omega) (by omega) ?_; intro p a ha hp)
 | refine rLDi (by assumption) ?_
 | (refine rLD (by assumption) ?_; intro c hc)
 | refine rADD (by omega) ?_
 | refine rSUB (by omega) ?_
 | refine rLSS ?_
 | refine rLEQ ?_
 | refine rGTR ?_
 | refine rGEQ ?_
 | refine rEQL ?_
 | refine rNEQ ?_
 | refine rNOT ?_
 | (refine rBRK ?_ ?_ <;> intro hb)
 | (refine rBRKn ?_ ?_ <;> intro hb)
 | (refine rBRKnb ?_ ?_ <;> intro hb)
 | (refine rBRKb ?_ ?_ <;> intro hb)
 | (refine rSPL ?_ ?_ <;> intro hb)
 | (refine rSPLn ?_ ?_ <;> intro hb)
 | (refine rSPLnb ?_ ?_ <;> intro hb)
 | (refine rSPLb ?_ ?_ <;> intro hb)
 | (exfalso; omega))
    obtain ⟨g6, rfl, rfl⟩ := h6.blk (by simp [tabRow])
    refine rLIT1 rfl ?_
    repeat' (with_reducible first
 | refine rTT ?_
 | refine rRFL ?_
 | refine rLEN (by assumption) ?_
 | (refine rIXk (by assumption) (by assumption) ?_; intro p hp)
 | (refine rIX (by assumption) (by omega) (by omega) ?_; intro p a ha hp)
 | refine rLDi (by assumption) ?_
 | (refine rLD (by assumption) ?_; intro c hc)
 | refine rADD (by omega) ?_
 | refine rSUB (by omega) ?_
 | refine rLSS ?_
 | refine rLEQ ?_
 | refine rGTR ?_
 | refine rGEQ ?_
 | refine rEQL ?_
 | refine rNEQ ?_
 | refine rNOT ?_
 | (refine rBRK ?_ ?_ <;> intro hb)
 | (refine rBRKn ?_ ?_ <;> intro hb)
 | (refine rBRKnb ?_ ?_ <;> intro hb)
 | (refine rBRKb ?_ ?_ <;> intro hb)
 | (refine rSPL ?_ ?_ <;> intro hb)
 | (refine rSPLn ?_ ?_ <;> intro hb)
 | (refine rSPLnb ?_ ?_ <;> intro hb)
 | (refine rSPLb ?_ ?_ <;> intro hb)
 | (exfalso; omega))
    refine rAPKrow ho hF (Nat.le_refl _) h6 (by simp [tabRow]) hF.len (by simp; omega) fun v' H' h1 h2 h3 => ?_
    repeat' (with_reducible first
 | refine rTT ?_
 | refine rRFL ?_
 | refine rLEN (by assumption) ?_
 | (refine rIXk (by assumption) (by assumption) ?_; intro p hp)
 | (refine rIX (by assumption) (by omega) (by omega) ?_; intro p a ha hp)
 | refine rLDi (by assumption) ?_
 | (refine rLD (by assumption) ?_; intro c hc)
 | refine rADD (by omega) ?_
 | refine rSUB (by omega) ?_
 | refine rLSS ?_
 | refine rLEQ ?_
 | refine rGTR ?_
 | refine rGEQ ?_
 | refine rEQL ?_
 | refine rNEQ ?_
 | refine rNOT ?_
 | (refine rBRK ?_ ?_ <;> intro hb)
 | (refine rBRKn ?_ ?_ <;> intro hb)
 | (refine rBRKnb ?_ ?_ <;> intro hb)
 | (refine rBRKb ?_ ?_ <;> intro hb)
 | (refine rSPL ?_ ?_ <;> intro hb)
 | (refine rSPLn ?_ ?_ <;> intro hb)
 | (refine rSPLnb ?_ ?_ <;> intro hb)
 | (refine rSPLb ?_ ?_ <;> intro hb)
 | (exfalso; omega))
    refine ih (i + 1) v' H' (by omega) ?_ h2
    rw [List.range_succ, List.map_append]; exact h1
theorem heOfo_ok {H : Heap} (hv : IsTab v t) (hl : t.length ≤ 100000) (hs : isSquareB t = true) : ACalls Try.prog 61 [v] H fun r H' => IsOTab H.length H' r (heightsF t) ∧ Fresh H H' := by
  apply spec_heOf.start
  unfold spec_heOf.start_vc
  refine ACalls.mono (corners_ok hv hl hs) ?_
  rintro vc H1 ⟨h1, rfl⟩
  have hcl : (tabT t.length t.length (cornAt t)).length = t.length := by simp [tabT]
  have hcs : isSquareB (tabT t.length t.length (cornAt t)) = true := by
    simp only [isSquareB, List.all_eq_true, decide_eq_true_eq, hcl]; exact tabT_sq
  rw [← heights_eq hl]
  exact heOfo_out hv h1 hl hcl hcs (fun v' H' h2 h3 => ⟨h2, h3⟩) (t.length + 1) 0 _ _ (by omega) (.inl ⟨rfl, rfl⟩) (Fresh.refl _)
end

/-! ### Ways -/
/-- all around are the same -/
def sameB (h : List (List Int)) (i j : Nat) (x : Int) : Bool := (decide (getM h (i - 1) j = x) && decide (getM h (i + 1) j = x)) && (decide (getM h i (j - 1) = x) && decide (getM h i (j + 1) = x))
def heWayF (h : List (List Int)) (i j : Nat) : Int := if sameB h i j (w64 (getM h i j + 1)) = true then 1 else if sameB h i j (w64 (getM h i j - 1)) = true then -1 else 0
theorem getM_at {h : List (List Int)} {i j : Nat} {r : List Int} {x : Int} (hr : h[i]? = some r) (hx : r[j]? = some x) : getM h i j = x := by simp [getM, List.getD, hr, hx]
theorem rLITc {v : AVal} {vs : List AVal} {K : List AVal → Prop} (hv : v.one = true) (h : allCells 1 vs fun cs => K (v :: cs)) : allCells 1 (v :: vs) K := by
  unfold allCells
  exact cells_one hv ⟨rfl, h⟩
theorem isI_list (l : List Int) (x : Bool) : IsInts (.sl x l.length (l.map I)) l := isInts_map x l
theorem heWay_ok {h : List (List Int)} {v : AVal} {i j n : Nat} (hv : IsTab v h) (hl : h.length = n) (hsq : ∀ r ∈ h, r.length = n) (hi : 1 ≤ i) (hi2 : i + 1 < n) (hj : 1 ≤ j) (hj2 : j + 1 < n) (hn : n ≤ 1000000) {H : Heap} :
    ACalls Try.prog 62 [v, I i, I j] H fun r H' => r = I (heWayF h i j) ∧ H' = H := by
  obtain ⟨r1, hr1⟩ := ex_get (l := h) (k := i - 1) (by omega)
  obtain ⟨r2, hr2⟩ := ex_get (l := h) (k := i) (by omega)
  obtain ⟨r3, hr3⟩ := ex_get (l := h) (k := i + 1) (by omega)
  have l1 := hsq _ (getElem_mem' hr1)
  have l2 := hsq _ (getElem_mem' hr2)
  have l3 := hsq _ (getElem_mem' hr3)
  obtain ⟨x1, hx1⟩ := ex_get (l := r1) (k := j) (by omega)
  obtain ⟨x2, hx2⟩ := ex_get (l := r2) (k := j) (by omega)
  obtain ⟨x3, hx3⟩ := ex_get (l := r3) (k := j) (by omega)
  obtain ⟨x4, hx4⟩ := ex_get (l := r2) (k := j - 1) (by omega)
  obtain ⟨x5, hx5⟩ := ex_get (l := r2) (k := j + 1) (by omega)
  have e1 : (i : Int) - 1 = ((i - 1 : Nat) : Int) := by omega
  have e2 : (i : Int) + 1 = ((i + 1 : Nat) : Int) := by omega
  have e3 : (j : Int) - 1 = ((j - 1 : Nat) : Int) := by omega
  have e4 : (j : Int) + 1 = ((j + 1 : Nat) : Int) := by omega
  apply spec_heWay.start
  unfold spec_heWay.start_vc
  repeat' (first
 | ((with_reducible refine rIXk hv hr1 ?_; intro p hp))
 | ((with_reducible refine rIXk hv hr2 ?_; intro p hp))
 | (rw [e1])
 | (rw [e2])
 | (rw [e3])
 | (rw [e4])
 | with_reducible first
 | refine rTT ?_
 | refine rRFL ?_
 | refine rLEN (by assumption) ?_
 | (refine rIXk (by assumption) (by assumption) ?_; intro p hp)
 | (refine rIX (by assumption) (by omega) (by omega) ?_; intro p a ha hp)
 | refine rLDi (by assumption) ?_
 | (refine rLD (by assumption) ?_; intro c hc)
 | refine rADD (by omega) ?_
 | refine rSUB (by omega) ?_
 | refine rLSS ?_
 | refine rLEQ ?_
 | refine rGTR ?_
 | refine rGEQ ?_
 | refine rEQL ?_
 | refine rNEQ ?_
 | refine rNOT ?_
 | (refine rBRK ?_ ?_ <;> intro hb)
 | (refine rBRKn ?_ ?_ <;> intro hb)
 | (refine rBRKnb ?_ ?_ <;> intro hb)
 | (refine rBRKb ?_ ?_ <;> intro hb)
 | (refine rSPL ?_ ?_ <;> intro hb)
 | (refine rSPLn ?_ ?_ <;> intro hb)
 | (refine rSPLnb ?_ ?_ <;> intro hb)
 | (refine rSPLb ?_ ?_ <;> intro hb)
 | (exfalso; omega))
  refine rLITc rfl (rLITc rfl (rLITc rfl (rLITc rfl ?_)))
  refine rADDw ?_
  refine rADDw ?_
  have hA := isI_list [x1, x3, x4, x5] true
  refine ACalls.mono (l1All_ok hA (by simp)) ?_
  rintro r H1 ⟨rfl, rfl⟩
  have key : ∀ x : Int, ([x1, x3, x4, x5].all fun n => decide (x ≤ n ∧ n ≤ x)) = sameB h i j x := by
    intro x
    unfold sameB
    rw [getM_at hr1 hx1, getM_at hr3 hx3, getM_at hr2 hx4, getM_at hr2 hx5]
    have : ∀ y : Int, decide (x ≤ y ∧ y ≤ x) = decide (y = x) := fun y => by simp only [decide_eq_decide]; omega
    simp only [List.all_cons, List.all_nil, this, Bool.and_true, Bool.and_assoc]
  rw [key]
  have e0 : getM h i j = x2 := getM_at hr2 hx2
  unfold heWayF
  rw [e0]
  refine rBRKb (fun hb => ?_) (fun hb => ?_)
  · exact ⟨by rw [if_pos hb], rfl⟩
  · refine rSUBw ?_
    refine rSUBw ?_
    refine ACalls.mono (l1All_ok hA (by simp)) ?_
    rintro r H2 ⟨rfl, rfl⟩
    rw [key]
    refine rBRKb (fun hb2 => ?_) (fun hb2 => ?_)
    · exact ⟨by rw [hb]; rw [if_neg (by decide), if_pos hb2], rfl⟩
    · exact ⟨by rw [hb]; rw [if_neg (by decide), hb2]; rfl, rfl⟩

end Go.Proofs.Ytccioplhchmilaa.AL

set_option linter.unusedVariables false
set_option maxRecDepth 100000
namespace Go.Proofs.Ytccioplhchmilaa.AL
open Go Go.Proofs

/-- Cells that stand for things, one by one. -/
def Rel2 {α : Type} (R : AVal → α → Prop) (ls : List AVal) (xs : List α) : Prop := ls.length = xs.length ∧ ∀ (i : Nat) (c : AVal) (a : α), ls[i]? = some c → xs[i]? = some a → R c a
theorem Rel2.nil {α : Type} {R : AVal → α → Prop} : Rel2 R [] ([] : List α) := ⟨rfl, fun i c a h => by simp at h⟩
theorem Rel2.snoc {α : Type} {R : AVal → α → Prop} {ls : List AVal} {xs : List α} (h : Rel2 R ls xs) {c : AVal} {a : α} (hc : R c a) : Rel2 R (ls ++ [c]) (xs ++ [a]) := by
  refine ⟨by simp [h.1], fun i d b h1 h2 => ?_⟩
  rw [List.getElem?_append] at h1 h2
  by_cases hi : i < ls.length
  · rw [if_pos hi] at h1; rw [if_pos (by rw [← h.1]; exact hi)] at h2; exact h.2 i d b h1 h2
  · rw [if_neg hi] at h1; rw [if_neg (by rw [← h.1]; exact hi)] at h2
    have e : i - ls.length = 0 := by
      have := (List.getElem?_eq_some_iff.1 h1).1
      simp at this; omega
    rw [e] at h1; rw [← h.1, e] at h2
    cases h1; cases h2; exact hc
theorem Bld.rel {α : Type} {R : AVal → α → Prop} {H0 H : Heap} {v : AVal} {ls : List AVal} {xs : List α} {Q : AVal → Heap → Prop} (h : Bld H0 v H ls) (hr : Rel2 R ls xs) (hq : ∀ r, IsSl R r xs → Q r H0) : HSub H0 H ∧ ∃ k r', Pur (nw H0 H) k v r' ∧ Q r' H0 :=
  h.done hr.1 hr.2 hq
theorem Bld.relP {α : Type} {R : AVal → α → Prop} {H0 H : Heap} {v : AVal} {ls : List AVal} {xs : List α} (h : Bld H0 v H ls) (hr : Rel2 R ls xs) : HSub H0 H ∧ ∃ k r', Pur (nw H0 H) k v r' ∧ (IsSl R r' xs ∧ H0 = H0) :=
  h.rel (Q := fun r H => IsSl R r xs ∧ H = H0) hr fun r hr => ⟨hr, rfl⟩
theorem rLITe {K : List AVal → Prop} (h : K []) : allCells 1 [] K := h
/-- A literal that is never written. -/
theorem rLITn {vs : List AVal} {H : Heap} {K : AVal → Heap → Prop} (h : allCells 1 vs fun cs => K (.sl true vs.length cs) H) : BSK 1 vs H K := by
  have mono : ∀ {vs : List AVal} {K K' : List AVal → Prop}, (∀ cs, K cs → K' cs) → allCells 1 vs K → allCells 1 vs K' := by
    intro vs
    induction vs with
    | nil => intro K K' h k; exact h _ k
    | cons v vs ih =>
      intro K K' h k
      have c : ∀ {v : AVal} {K K' : List AVal → Prop}, (∀ cs, K cs → K' cs) → cellsOfV v K → cellsOfV v K' := by
        intro v K K' h k
        cases v <;> first | exact h _ k | exact ⟨k.1, h _ k.2⟩
      exact c (fun cs k => ⟨k.1, ih (fun ds k => h _ k) k.2⟩) k
  exact mono (fun cs k => .inr k) h

/-! ### Cells -/
def cellsRow (p : Nat → Bool) (i : Nat) : Nat → Nat → List (List Int)
  | _, 0 => []
  | j, m + 1 => (if p j = true then [[(i : Int), (j : Int)]] else []) ++ cellsRow p i (j + 1) m
def cellsFrom (p : Nat → Nat → Bool) (n : Nat) : Nat → Nat → List (List Int)
  | _, 0 => []
  | i, m + 1 => cellsRow (p i) i 1 n ++ cellsFrom p n (i + 1) m
/-- The cells of n + 1 rows of numbers of which p holds. -/
def cellsF (p : Nat → Nat → Bool) (n : Nat) : List (List Int) := cellsFrom p n 1 n
theorem cellsRow_len (p : Nat → Bool) (i : Nat) : ∀ (m j : Nat), (cellsRow p i j m).length ≤ m
  | 0, j => by simp [cellsRow]
  | m + 1, j => by
    have := cellsRow_len p i m (j + 1)
    simp only [cellsRow, List.length_append]
    split <;> simp <;> omega
theorem isInts_pair (a b : Int) : IsInts (.sl true 2 [I a, I b]) [a, b] := isI_list [a, b] true

section
variable {h : List (List Int)} {v : AVal} {n : Nat} {w : Int} {H0 : Heap} {Q : AVal → Heap → Prop}
theorem heFlips_in (hlen : ∀ K : AVal → Prop, K (I n) → LENK v K) (hway : ∀ (i j : Nat) (H1 : Heap), 1 ≤ i → i + 1 < n → 1 ≤ j → j + 1 < n → HSub H0 H1 → ACalls Try.prog 62 [v, I i, I j] H1 fun r H' => r = I (heWayF h i j) ∧ H' = H1) (hn : n ≤ 1000) {i : Nat} (hi : 1 ≤ i) (hi2 : i + 1 < n) {L : List (List Int)}
    (hq : ∀ v5 H ls, Bld H0 v5 H ls → Rel2 IsInts ls (L ++ cellsRow (fun j => decide (heWayF h i j = w)) i 1 (n - 2)) → spec_heFlips.L3 Q v (I w) v5 (I (i + 1 : Nat)) H) :
    ∀ (m j : Nat) (v5 : AVal) (H : Heap) (ls : List AVal) (L1 : List (List Int)), 1 ≤ j → j + m + 1 = n → Bld H0 v5 H ls → Rel2 IsInts ls L1 → ls.length ≤ 1000 * i + j → L1 ++ cellsRow (fun j => decide (heWayF h i j = w)) i j m = L ++ cellsRow (fun j => decide (heWayF h i j = w)) i 1 (n - 2) →
    spec_heFlips.L6 Q v (I w) v5 (I i) (I j) H := by
  intro m
  induction m with
  | zero =>
    intro j v5 H ls L1 hj hjm hb0 hr hls he
    apply spec_heFlips.step6
    unfold spec_heFlips.step6_vc
    repeat' (first
 | (refine hlen _ ?_)
 | with_reducible first
 | refine rTT ?_
 | refine rRFL ?_
 | refine rLEN (by assumption) ?_
 | (refine rIXk (by assumption) (by assumption) ?_; intro p hp)
 | (refine rIX (by assumption) (by omega) (by omega) ?_; intro p a ha hp)
 | refine rLDi (by assumption) ?_
 | (refine rLD (by assumption) ?_; intro c hc)
 | refine rADD (by omega) ?_
 | refine rSUB (by omega) ?_
 | refine rLSS ?_
 | refine rLEQ ?_
 | refine rGTR ?_
 | refine rGEQ ?_
 | refine rEQL ?_
 | refine rNEQ ?_
 | refine rNOT ?_
 | (refine rBRK ?_ ?_ <;> intro hb)
 | (refine rBRKn ?_ ?_ <;> intro hb)
 | (refine rBRKnb ?_ ?_ <;> intro hb)
 | (refine rBRKb ?_ ?_ <;> intro hb)
 | (refine rSPL ?_ ?_ <;> intro hb)
 | (refine rSPLn ?_ ?_ <;> intro hb)
 | (refine rSPLnb ?_ ?_ <;> intro hb)
 | (refine rSPLb ?_ ?_ <;> intro hb)
 | (exfalso; omega))
    rw [cellsRow, List.append_nil] at he
    exact hq _ _ ls hb0 (he ▸ hr)
  | succ m ih =>
    intro j v5 H ls L1 hj hjm hb0 hr hls he
    apply spec_heFlips.step6
    unfold spec_heFlips.step6_vc
    repeat' (first
 | (refine hlen _ ?_)
 | with_reducible first
 | refine rTT ?_
 | refine rRFL ?_
 | refine rLEN (by assumption) ?_
 | (refine rIXk (by assumption) (by assumption) ?_; intro p hp)
 | (refine rIX (by assumption) (by omega) (by omega) ?_; intro p a ha hp)
 | refine rLDi (by assumption) ?_
 | (refine rLD (by assumption) ?_; intro c hc)
 | refine rADD (by omega) ?_
 | refine rSUB (by omega) ?_
 | refine rLSS ?_
 | refine rLEQ ?_
 | refine rGTR ?_
 | refine rGEQ ?_
 | refine rEQL ?_
 | refine rNEQ ?_
 | refine rNOT ?_
 | (refine rBRK ?_ ?_ <;> intro hb)
 | (refine rBRKn ?_ ?_ <;> intro hb)
 | (refine rBRKnb ?_ ?_ <;> intro hb)
 | (refine rBRKb ?_ ?_ <;> intro hb)
 | (refine rSPL ?_ ?_ <;> intro hb)
 | (refine rSPLn ?_ ?_ <;> intro hb)
 | (refine rSPLnb ?_ ?_ <;> intro hb)
 | (refine rSPLb ?_ ?_ <;> intro hb)
 | (exfalso; omega))
    refine ACalls.mono (hway i j H hi hi2 hj (by omega) hb0.sub) ?_
    rintro r H1 ⟨rfl, rfl⟩
    repeat' (first
 | (refine hlen _ ?_)
 | with_reducible first
 | refine rTT ?_
 | refine rRFL ?_
 | refine rLEN (by assumption) ?_
 | (refine rIXk (by assumption) (by assumption) ?_; intro p hp)
 | (refine rIX (by assumption) (by omega) (by omega) ?_; intro p a ha hp)
 | refine rLDi (by assumption) ?_
 | (refine rLD (by assumption) ?_; intro c hc)
 | refine rADD (by omega) ?_
 | refine rSUB (by omega) ?_
 | refine rLSS ?_
 | refine rLEQ ?_
 | refine rGTR ?_
 | refine rGEQ ?_
 | refine rEQL ?_
 | refine rNEQ ?_
 | refine rNOT ?_
 | (refine rBRK ?_ ?_ <;> intro hb)
 | (refine rBRKn ?_ ?_ <;> intro hb)
 | (refine rBRKnb ?_ ?_ <;> intro hb)
 | (refine rBRKb ?_ ?_ <;> intro hb)
 | (refine rSPL ?_ ?_ <;> intro hb)
 | (refine rSPLn ?_ ?_ <;> intro hb)
 | (refine rSPLnb ?_ ?_ <;> intro hb)
 | (refine rSPLb ?_ ?_ <;> intro hb)
 | (exfalso; omega))
    · refine rLITn (rLITc rfl (rLITc rfl (rLITe ?_)))
      repeat' (first
 | (refine hlen _ ?_)
 | with_reducible first
 | refine rTT ?_
 | refine rRFL ?_
 | refine rLEN (by assumption) ?_
 | (refine rIXk (by assumption) (by assumption) ?_; intro p hp)
 | (refine rIX (by assumption) (by omega) (by omega) ?_; intro p a ha hp)
 | refine rLDi (by assumption) ?_
 | (refine rLD (by assumption) ?_; intro c hc)
 | refine rADD (by omega) ?_
 | refine rSUB (by omega) ?_
 | refine rLSS ?_
 | refine rLEQ ?_
 | refine rGTR ?_
 | refine rGEQ ?_
 | refine rEQL ?_
 | refine rNEQ ?_
 | refine rNOT ?_
 | (refine rBRK ?_ ?_ <;> intro hb)
 | (refine rBRKn ?_ ?_ <;> intro hb)
 | (refine rBRKnb ?_ ?_ <;> intro hb)
 | (refine rBRKb ?_ ?_ <;> intro hb)
 | (refine rSPL ?_ ?_ <;> intro hb)
 | (refine rSPLn ?_ ?_ <;> intro hb)
 | (refine rSPLnb ?_ ?_ <;> intro hb)
 | (refine rSPLb ?_ ?_ <;> intro hb)
 | (exfalso; omega))
      refine rLIT1 rfl ?_
      repeat' (first
 | (refine hlen _ ?_)
 | with_reducible first
 | refine rTT ?_
 | refine rRFL ?_
 | refine rLEN (by assumption) ?_
 | (refine rIXk (by assumption) (by assumption) ?_; intro p hp)
 | (refine rIX (by assumption) (by omega) (by omega) ?_; intro p a ha hp)
 | refine rLDi (by assumption) ?_
 | (refine rLD (by assumption) ?_; intro c hc)
 | refine rADD (by omega) ?_
 | refine rSUB (by omega) ?_
 | refine rLSS ?_
 | refine rLEQ ?_
 | refine rGTR ?_
 | refine rGEQ ?_
 | refine rEQL ?_
 | refine rNEQ ?_
 | refine rNOT ?_
 | (refine rBRK ?_ ?_ <;> intro hb)
 | (refine rBRKn ?_ ?_ <;> intro hb)
 | (refine rBRKnb ?_ ?_ <;> intro hb)
 | (refine rBRKb ?_ ?_ <;> intro hb)
 | (refine rSPL ?_ ?_ <;> intro hb)
 | (refine rSPLn ?_ ?_ <;> intro hb)
 | (refine rSPLnb ?_ ?_ <;> intro hb)
 | (refine rSPLb ?_ ?_ <;> intro hb)
 | (exfalso; omega))
      refine rAPK1 hb0 (by omega) fun v' H' hb1 => ?_
      repeat' (first
 | (refine hlen _ ?_)
 | with_reducible first
 | refine rTT ?_
 | refine rRFL ?_
 | refine rLEN (by assumption) ?_
 | (refine rIXk (by assumption) (by assumption) ?_; intro p hp)
 | (refine rIX (by assumption) (by omega) (by omega) ?_; intro p a ha hp)
 | refine rLDi (by assumption) ?_
 | (refine rLD (by assumption) ?_; intro c hc)
 | refine rADD (by omega) ?_
 | refine rSUB (by omega) ?_
 | refine rLSS ?_
 | refine rLEQ ?_
 | refine rGTR ?_
 | refine rGEQ ?_
 | refine rEQL ?_
 | refine rNEQ ?_
 | refine rNOT ?_
 | (refine rBRK ?_ ?_ <;> intro hb)
 | (refine rBRKn ?_ ?_ <;> intro hb)
 | (refine rBRKnb ?_ ?_ <;> intro hb)
 | (refine rBRKb ?_ ?_ <;> intro hb)
 | (refine rSPL ?_ ?_ <;> intro hb)
 | (refine rSPLn ?_ ?_ <;> intro hb)
 | (refine rSPLnb ?_ ?_ <;> intro hb)
 | (refine rSPLb ?_ ?_ <;> intro hb)
 | (exfalso; omega))
      refine ih (j + 1) v' H' _ (L1 ++ [[(i : Int), (j : Int)]]) (by omega) (by omega) hb1 (hr.snoc (isInts_pair _ _)) (by simp; omega) ?_
      rw [cellsRow, if_pos (decide_eq_true hb), ← List.append_assoc] at he
      exact he
    · refine ih (j + 1) v5 _ ls L1 (by omega) (by omega) hb0 hr (by omega) ?_
      rw [cellsRow, if_neg (by rw [decide_eq_false hb]; decide), List.nil_append] at he
      exact he
theorem heFlips_out (hlen : ∀ K : AVal → Prop, K (I n) → LENK v K) (hway : ∀ (i j : Nat) (H1 : Heap), 1 ≤ i → i + 1 < n → 1 ≤ j → j + 1 < n → HSub H0 H1 → ACalls Try.prog 62 [v, I i, I j] H1 fun r H' => r = I (heWayF h i j) ∧ H' = H1) (hn : n ≤ 1000) {L : List (List Int)}
    (hq : ∀ v5 H ls, Bld H0 v5 H ls → Rel2 IsInts ls L → Q v5 H) :
    ∀ (m i : Nat) (v5 : AVal) (H : Heap) (ls : List AVal) (L1 : List (List Int)), 1 ≤ i → (m = 0 ∧ n ≤ i + 1 ∨ i + m + 1 = n) → Bld H0 v5 H ls → Rel2 IsInts ls L1 → ls.length ≤ 1000 * i → L1 ++ cellsFrom (fun i j => decide (heWayF h i j = w)) (n - 2) i m = L →
    spec_heFlips.L3 Q v (I w) v5 (I i) H := by
  intro m
  induction m with
  | zero =>
    intro i v5 H ls L1 hi him hb0 hr hls he
    apply spec_heFlips.step3
    unfold spec_heFlips.step3_vc
    repeat' (first
 | (refine hlen _ ?_)
 | with_reducible first
 | refine rTT ?_
 | refine rRFL ?_
 | refine rLEN (by assumption) ?_
 | (refine rIXk (by assumption) (by assumption) ?_; intro p hp)
 | (refine rIX (by assumption) (by omega) (by omega) ?_; intro p a ha hp)
 | refine rLDi (by assumption) ?_
 | (refine rLD (by assumption) ?_; intro c hc)
 | refine rADD (by omega) ?_
 | refine rSUB (by omega) ?_
 | refine rLSS ?_
 | refine rLEQ ?_
 | refine rGTR ?_
 | refine rGEQ ?_
 | refine rEQL ?_
 | refine rNEQ ?_
 | refine rNOT ?_
 | (refine rBRK ?_ ?_ <;> intro hb)
 | (refine rBRKn ?_ ?_ <;> intro hb)
 | (refine rBRKnb ?_ ?_ <;> intro hb)
 | (refine rBRKb ?_ ?_ <;> intro hb)
 | (refine rSPL ?_ ?_ <;> intro hb)
 | (refine rSPLn ?_ ?_ <;> intro hb)
 | (refine rSPLnb ?_ ?_ <;> intro hb)
 | (refine rSPLb ?_ ?_ <;> intro hb)
 | (exfalso; omega))
    rw [cellsFrom, List.append_nil] at he
    exact hq _ _ ls hb0 (he ▸ hr)
  | succ m ih =>
    intro i v5 H ls L1 hi him hb0 hr hls he
    apply spec_heFlips.step3
    unfold spec_heFlips.step3_vc
    repeat' (first
 | (refine hlen _ ?_)
 | with_reducible first
 | refine rTT ?_
 | refine rRFL ?_
 | refine rLEN (by assumption) ?_
 | (refine rIXk (by assumption) (by assumption) ?_; intro p hp)
 | (refine rIX (by assumption) (by omega) (by omega) ?_; intro p a ha hp)
 | refine rLDi (by assumption) ?_
 | (refine rLD (by assumption) ?_; intro c hc)
 | refine rADD (by omega) ?_
 | refine rSUB (by omega) ?_
 | refine rLSS ?_
 | refine rLEQ ?_
 | refine rGTR ?_
 | refine rGEQ ?_
 | refine rEQL ?_
 | refine rNEQ ?_
 | refine rNOT ?_
 | (refine rBRK ?_ ?_ <;> intro hb)
 | (refine rBRKn ?_ ?_ <;> intro hb)
 | (refine rBRKnb ?_ ?_ <;> intro hb)
 | (refine rBRKb ?_ ?_ <;> intro hb)
 | (refine rSPL ?_ ?_ <;> intro hb)
 | (refine rSPLn ?_ ?_ <;> intro hb)
 | (refine rSPLnb ?_ ?_ <;> intro hb)
 | (refine rSPLb ?_ ?_ <;> intro hb)
 | (exfalso; omega))
    show spec_heFlips.L6 Q v (I w) v5 (I i) (I (1 : Nat)) H
    refine heFlips_in hlen hway hn hi (by omega) (fun v5 H ls' hb1 hr1 => ?_) (n - 2) 1 v5 H ls L1 (by omega) (by omega) hb0 hr (by omega) rfl
    refine ih (i + 1) v5 H ls' _ (by omega) (by omega) hb1 hr1 ?_ ?_
    · rw [hr1.1, List.length_append, ← hr.1]
      have := cellsRow_len (fun j => decide (heWayF h i j = w)) i (n - 2) 1
      omega
    · rw [cellsFrom] at he
      rw [List.append_assoc]; exact he
def heFlipsF (h : List (List Int)) (w : Int) : List (List Int) := cellsF (fun i j => decide (heWayF h i j = w)) (h.length - 2)
theorem heFlips_gen {H : Heap} (hlen : ∀ K : AVal → Prop, K (I n) → LENK v K) (hway : ∀ (i j : Nat) (H1 : Heap), 1 ≤ i → i + 1 < n → 1 ≤ j → j + 1 < n → HSub H H1 → ACalls Try.prog 62 [v, I i, I j] H1 fun r H' => r = I (heWayF h i j) ∧ H' = H1) (hl : h.length = n) (hn : n ≤ 1000) (h1 : 1 ≤ n) : ACalls Try.prog 100 [v, I w] H fun r H' => IsTab r (heFlipsF h w) ∧ H' = H := by
  apply ACalls.pure
  apply spec_heFlips.start
  unfold spec_heFlips.start_vc
  unfold heFlipsF cellsF
  rw [hl]
  show spec_heFlips.L3 _ v (I w) .nilS (I (1 : Nat)) H
  refine heFlips_out hlen hway hn (fun v5 H1 ls hb1 hr1 => hb1.relP hr1) (n - 2) 1 _ _ [] [] (by omega) (by omega) (bld_nil H) Rel2.nil (by simp) (by simp)
theorem heFlips_ok {H : Heap} (hv : IsTab v h) (hl : h.length = n) (hsq : ∀ r ∈ h, r.length = n) (hn : n ≤ 1000) (h1 : 1 ≤ n) : ACalls Try.prog 100 [v, I w] H fun r H' => IsTab r (heFlipsF h w) ∧ H' = H :=
  heFlips_gen (fun K k => rLEN hv (by rw [hl]; exact k)) (fun i j H1 a1 a2 b1 b2 _ => heWay_ok hv hl hsq a1 a2 b1 b2 (by omega)) hl hn h1
end

theorem heCell_ok {n i j : Int} {H : Heap} (hn : R64 (n - 1)) : ACalls Try.prog 72 [I n, I i, I j] H fun r H' => r = .bool (decide ((1 ≤ i ∧ i ≤ n - 1) ∧ (1 ≤ j ∧ j ≤ n - 1))) ∧ H' = H := by
  apply spec_heCell.start
  unfold spec_heCell.start_vc
  repeat' (with_reducible first
 | refine rTT ?_
 | (refine ACalls.mono (l1In_ok) ?_; rintro r H' ⟨rfl, rfl⟩)
 | refine rRFL ?_
 | refine rLEN (by assumption) ?_
 | (refine rIXk (by assumption) (by assumption) ?_; intro p hp)
 | (refine rIX (by assumption) (by omega) (by omega) ?_; intro p a ha hp)
 | refine rLDi (by assumption) ?_
 | (refine rLD (by assumption) ?_; intro c hc)
 | refine rADD (by omega) ?_
 | refine rSUB (by omega) ?_
 | refine rLSS ?_
 | refine rLEQ ?_
 | refine rGTR ?_
 | refine rGEQ ?_
 | refine rEQL ?_
 | refine rNEQ ?_
 | refine rNOT ?_
 | (refine rBRK ?_ ?_ <;> intro hb)
 | (refine rBRKn ?_ ?_ <;> intro hb)
 | (refine rBRKnb ?_ ?_ <;> intro hb)
 | (refine rBRKb ?_ ?_ <;> intro hb)
 | (refine rSPL ?_ ?_ <;> intro hb)
 | (refine rSPLn ?_ ?_ <;> intro hb)
 | (refine rSPLnb ?_ ?_ <;> intro hb)
 | (refine rSPLb ?_ ?_ <;> intro hb)
 | (exfalso; omega))
  · refine ⟨?_, rfl⟩
    congr 1
    simp only [decide_eq_decide]
    omega
  · refine ⟨?_, rfl⟩
    congr 1
    symm
    rw [decide_eq_false_iff_not]; omega

end Go.Proofs.Ytccioplhchmilaa.AL

set_option linter.unusedVariables false
set_option maxRecDepth 100000
namespace Go.Proofs.Ytccioplhchmilaa.AL
open Go Go.Proofs

/-- What is not written any more is frozen ahead of a call. -/
theorem ACalls.frz {P : Program} {f : FuncId} {args args' : List AVal} {H Hf Hk : Heap} {Q : AVal → Heap → Prop} (hs : Split H Hf Hk) {k : Nat} (hp : All2 (Pur Hf k) args args') (h : ACalls P f args' Hk Q) : ACalls P f args H Q := by
  refine ⟨h.1, fun w I B vs K hH hv post => ?_⟩
  refine h.2 w (fzI I Hf) B vs K (hH.freeze hs) (All2.vrels (pur_val (hH.sub hs.fz) k) (VRels.mono (ext_fz I Hf w B) hv) hp) ?_
  intro r H' w' I' v q hH' hv' he
  exact post r H' w' I' v q hH' hv' ((ext_fz I Hf w B).trans he)

/-- A number of a table is set. -/
def setM (t : List (List Int)) (i j : Nat) (x : Int) : List (List Int) := t.set i ((t.getD i []).set j x)
theorem setM_len (t : List (List Int)) (i j : Nat) (x : Int) : (setM t i j x).length = t.length := by simp [setM]
theorem setM_sq {t : List (List Int)} {c : Nat} (hs : ∀ r ∈ t, r.length = c) {i j : Nat} (hi : i < t.length) {x : Int} : ∀ r ∈ setM t i j x, r.length = c := by
  intro r hr
  rcases List.mem_or_eq_of_mem_set hr with h | rfl
  · exact hs r h
  · rw [List.length_set]; exact hs _ (getD_mem hi _)

theorem heWay_own {h : List (List Int)} {v : AVal} {i j n lo : Nat} {H : Heap} (hv : IsOTab lo H v h) (hl : h.length = n) (hsq : ∀ r ∈ h, r.length = n) (hi : 1 ≤ i) (hi2 : i + 1 < n) (hj : 1 ≤ j) (hj2 : j + 1 < n) (hn : n ≤ 1000000) :
    ACalls Try.prog 62 [v, I i, I j] H fun r H' => r = I (heWayF h i j) ∧ H' = H := by
  obtain ⟨v', h1, h2⟩ := hv.pur (Hf := H) fun _ _ => rfl
  exact lend_flat (k := 2) (args' := [v', I i, I j]) (Q0 := fun r => r = I (heWayF h i j)) ⟨v', _, rfl, h1, _, _, rfl, Pur.refl _ _ _, _, _, rfl, Pur.refl _ _ _, rfl⟩ (by rintro r rfl; rfl) fun H => heWay_ok h2 hl hsq hi hi2 hj hj2 hn
theorem heWayF_cases (h : List (List Int)) (i j : Nat) : heWayF h i j = 1 ∨ heWayF h i j = -1 ∨ heWayF h i j = 0 := by
  unfold heWayF; split
  · exact .inl rfl
  · split
    · exact .inr (.inl rfl)
    · exact .inr (.inr rfl)

/-- A flip, by the reference. -/
def flipOk (m : List (List Int)) (i j : Int) : Bool := goodB m && (decide ((1 ≤ i ∧ i ≤ m.length - 1) ∧ (1 ≤ j ∧ j ≤ m.length - 1)) && decide (heWayF (heightsF m) i.toNat j.toNat ≠ 0))
def heUp (h : List (List Int)) (i j : Nat) : List (List Int) := setM h i j (w64 (getM h i j + 2 * heWayF h i j))
def heFlipF (m : List (List Int)) (i j : Int) : List (List Int) := heFromF (heUp (heightsF m) i.toNat j.toNat)
theorem hflip_sq {m : List (List Int)} {i j : Nat} (hi : i < m.length + 1) : ∀ r ∈ heUp (heightsF m) i j, r.length = m.length + 1 := setM_sq (fun r hr => heights_sq hr) (by rw [heights_len]; exact hi)
theorem specFlipAt_ok {m : List (List Int)} {v : AVal} (hv : IsTab v m) (hl : m.length ≤ 100000) (hr : ∀ r ∈ m, r.length ≤ 1000000) {i j : Int} {H : Heap} :
    ACalls Try.prog 37 [v, I i, I j] H fun r H' => TabOk (flipOk m i j) (heFlipF m i j) r ∧ H' = H := by
  apply ACalls.sub
  apply spec_FlipAt.start
  unfold spec_FlipAt.start_vc
  refine ACalls.mono (sgGood_ok hv (by omega) hr) ?_
  rintro r H1 ⟨rfl, rfl⟩
  refine rNOT ?_
  refine rSPLnb (fun hb => ⟨_, HSub.refl _, by unfold flipOk; rw [hb]; exact tabOk_no, rfl⟩) (fun hg => ?_)
  have gl := goodB_len hg
  refine rLEN hv ?_
  refine ACalls.mono (heCell_ok (by constructor <;> omega)) ?_
  rintro r H2 ⟨rfl, rfl⟩
  refine rNOT ?_
  refine rBRKn (fun hb => ⟨_, HSub.refl _, by unfold flipOk; rw [hg, decide_eq_false hb]; exact tabOk_no, rfl⟩) (fun hc => ?_)
  refine ACalls.mono (heOfo_ok hv hl (goodB_sq hg)) ?_
  rintro r8 H3 ⟨h8, hF⟩
  obtain ⟨a, rfl⟩ : ∃ a : Nat, i = a := ⟨i.toNat, by omega⟩
  obtain ⟨b, rfl⟩ : ∃ b : Nat, j = b := ⟨j.toNat, by omega⟩
  refine ACalls.mono (heWay_own h8 (heights_len m) (fun r hr => heights_sq hr) (by omega) (by omega) (by omega) (by omega) (by omega)) ?_
  rintro r H4 ⟨rfl, rfl⟩
  repeat' (with_reducible first
 | refine rTT ?_
 | refine rRFL ?_
 | refine rLEN (by assumption) ?_
 | (refine rIXk (by assumption) (by assumption) ?_; intro p hp)
 | (refine rIX (by assumption) (by omega) (by omega) ?_; intro p a ha hp)
 | refine rLDi (by assumption) ?_
 | (refine rLD (by assumption) ?_; intro c hc)
 | refine rADD (by omega) ?_
 | refine rSUB (by omega) ?_
 | refine rLSS ?_
 | refine rLEQ ?_
 | refine rGTR ?_
 | refine rGEQ ?_
 | refine rEQL ?_
 | refine rNEQ ?_
 | refine rNOT ?_
 | (refine rBRK ?_ ?_ <;> intro hb)
 | (refine rBRKn ?_ ?_ <;> intro hb)
 | (refine rBRKnb ?_ ?_ <;> intro hb)
 | (refine rBRKb ?_ ?_ <;> intro hb)
 | (refine rSPL ?_ ?_ <;> intro hb)
 | (refine rSPLn ?_ ?_ <;> intro hb)
 | (refine rSPLnb ?_ ?_ <;> intro hb)
 | (refine rSPLb ?_ ?_ <;> intro hb)
 | (exfalso; omega))
  · exact ⟨H2, hF.sub, by unfold flipOk; rw [hg, decide_eq_true hc, Int.toNat_natCast, Int.toNat_natCast, hb]; exact tabOk_no, rfl⟩
  · rcases h8 with ⟨rfl, ht⟩ | ⟨k, g, rows, ks, rfl, ho⟩
    · have := heights_len m; rw [ht] at this; simp at this
    · rw [heights_len]
      obtain ⟨row, hrow⟩ := ex_get (l := heightsF m) (k := a) (by rw [heights_len]; omega)
      have hrl := heights_sq (getElem_mem' hrow)
      obtain ⟨x, hx⟩ := ex_get (l := row) (k := b) (by omega)
      obtain ⟨kj, gj, g1, g2, g3, g4, g5⟩ := ho.get hrow
      refine rIXo (by omega) ?_
      repeat' (with_reducible first
 | refine rTT ?_
 | refine rRFL ?_
 | refine rLEN (by assumption) ?_
 | (refine rIXk (by assumption) (by assumption) ?_; intro p hp)
 | (refine rIX (by assumption) (by omega) (by omega) ?_; intro p a ha hp)
 | refine rLDi (by assumption) ?_
 | (refine rLD (by assumption) ?_; intro c hc)
 | refine rADD (by omega) ?_
 | refine rSUB (by omega) ?_
 | refine rLSS ?_
 | refine rLEQ ?_
 | refine rGTR ?_
 | refine rGEQ ?_
 | refine rEQL ?_
 | refine rNEQ ?_
 | refine rNOT ?_
 | (refine rBRK ?_ ?_ <;> intro hb)
 | (refine rBRKn ?_ ?_ <;> intro hb)
 | (refine rBRKnb ?_ ?_ <;> intro hb)
 | (refine rBRKb ?_ ?_ <;> intro hb)
 | (refine rSPL ?_ ?_ <;> intro hb)
 | (refine rSPLn ?_ ?_ <;> intro hb)
 | (refine rSPLnb ?_ ?_ <;> intro hb)
 | (refine rSPLb ?_ ?_ <;> intro hb)
 | (exfalso; omega))
      refine rLDf ho.top g2 ?_
      repeat' (with_reducible first
 | refine rTT ?_
 | refine rRFL ?_
 | refine rLEN (by assumption) ?_
 | (refine rIXk (by assumption) (by assumption) ?_; intro p hp)
 | (refine rIX (by assumption) (by omega) (by omega) ?_; intro p a ha hp)
 | refine rLDi (by assumption) ?_
 | (refine rLD (by assumption) ?_; intro c hc)
 | refine rADD (by omega) ?_
 | refine rSUB (by omega) ?_
 | refine rLSS ?_
 | refine rLEQ ?_
 | refine rGTR ?_
 | refine rGEQ ?_
 | refine rEQL ?_
 | refine rNEQ ?_
 | refine rNOT ?_
 | (refine rBRK ?_ ?_ <;> intro hb)
 | (refine rBRKn ?_ ?_ <;> intro hb)
 | (refine rBRKnb ?_ ?_ <;> intro hb)
 | (refine rBRKb ?_ ?_ <;> intro hb)
 | (refine rSPL ?_ ?_ <;> intro hb)
 | (refine rSPLn ?_ ?_ <;> intro hb)
 | (refine rSPLnb ?_ ?_ <;> intro hb)
 | (refine rSPLb ?_ ?_ <;> intro hb)
 | (exfalso; omega))
      refine rIXo (by omega) ?_
      repeat' (with_reducible first
 | refine rTT ?_
 | refine rRFL ?_
 | refine rLEN (by assumption) ?_
 | (refine rIXk (by assumption) (by assumption) ?_; intro p hp)
 | (refine rIX (by assumption) (by omega) (by omega) ?_; intro p a ha hp)
 | refine rLDi (by assumption) ?_
 | (refine rLD (by assumption) ?_; intro c hc)
 | refine rADD (by omega) ?_
 | refine rSUB (by omega) ?_
 | refine rLSS ?_
 | refine rLEQ ?_
 | refine rGTR ?_
 | refine rGEQ ?_
 | refine rEQL ?_
 | refine rNEQ ?_
 | refine rNOT ?_
 | (refine rBRK ?_ ?_ <;> intro hb)
 | (refine rBRKn ?_ ?_ <;> intro hb)
 | (refine rBRKnb ?_ ?_ <;> intro hb)
 | (refine rBRKb ?_ ?_ <;> intro hb)
 | (refine rSPL ?_ ?_ <;> intro hb)
 | (refine rSPLn ?_ ?_ <;> intro hb)
 | (refine rSPLnb ?_ ?_ <;> intro hb)
 | (refine rSPLb ?_ ?_ <;> intro hb)
 | (exfalso; omega))
      refine rLDf g3 (by rw [List.getElem?_map, hx]; rfl) ?_
      refine rMUL (by rcases heWayF_cases (heightsF m) a b with h | h | h <;> rw [h] <;> decide) ?_
      refine rADDw ?_
      repeat' (with_reducible first
 | refine rTT ?_
 | refine rRFL ?_
 | refine rLEN (by assumption) ?_
 | (refine rIXk (by assumption) (by assumption) ?_; intro p hp)
 | (refine rIX (by assumption) (by omega) (by omega) ?_; intro p a ha hp)
 | refine rLDi (by assumption) ?_
 | (refine rLD (by assumption) ?_; intro c hc)
 | refine rADD (by omega) ?_
 | refine rSUB (by omega) ?_
 | refine rLSS ?_
 | refine rLEQ ?_
 | refine rGTR ?_
 | refine rGEQ ?_
 | refine rEQL ?_
 | refine rNEQ ?_
 | refine rNOT ?_
 | (refine rBRK ?_ ?_ <;> intro hb)
 | (refine rBRKn ?_ ?_ <;> intro hb)
 | (refine rBRKnb ?_ ?_ <;> intro hb)
 | (refine rBRKb ?_ ?_ <;> intro hb)
 | (refine rSPL ?_ ?_ <;> intro hb)
 | (refine rSPLn ?_ ?_ <;> intro hb)
 | (refine rSPLnb ?_ ?_ <;> intro hb)
 | (refine rSPLb ?_ ?_ <;> intro hb)
 | (exfalso; omega))
      refine rIXo (by omega) ?_
      repeat' (with_reducible first
 | refine rTT ?_
 | refine rRFL ?_
 | refine rLEN (by assumption) ?_
 | (refine rIXk (by assumption) (by assumption) ?_; intro p hp)
 | (refine rIX (by assumption) (by omega) (by omega) ?_; intro p a ha hp)
 | refine rLDi (by assumption) ?_
 | (refine rLD (by assumption) ?_; intro c hc)
 | refine rADD (by omega) ?_
 | refine rSUB (by omega) ?_
 | refine rLSS ?_
 | refine rLEQ ?_
 | refine rGTR ?_
 | refine rGEQ ?_
 | refine rEQL ?_
 | refine rNEQ ?_
 | refine rNOT ?_
 | (refine rBRK ?_ ?_ <;> intro hb)
 | (refine rBRKn ?_ ?_ <;> intro hb)
 | (refine rBRKnb ?_ ?_ <;> intro hb)
 | (refine rBRKb ?_ ?_ <;> intro hb)
 | (refine rSPL ?_ ?_ <;> intro hb)
 | (refine rSPLn ?_ ?_ <;> intro hb)
 | (refine rSPLnb ?_ ?_ <;> intro hb)
 | (refine rSPLb ?_ ?_ <;> intro hb)
 | (exfalso; omega))
      refine rSTp g3 (by simp; omega) rfl ?_
      have hset1 : ∀ w, (row.map I).set b (I w) = (row.set b w).map I := fun w => by rw [List.map_set]
      rw [hset1]
      have ho2 := ho.put hrow g1 g3 (r' := row.set b (w64 (x + 2 * heWayF (heightsF m) a b))) (by simp)
      have hup : (heightsF m).set a (row.set b (w64 (x + 2 * heWayF (heightsF m) a b))) = heUp (heightsF m) a b := by
        unfold heUp setM
        rw [getM_at hrow hx]
        simp [List.getD, hrow]
      rw [hup] at ho2
      have hF2 : Fresh H2 (hset H4 kj gj ((row.set b (w64 (x + 2 * heWayF (heightsF m) a b))).map I)) := hF.set g4 _ (ifrees_map _)
      have hul : (heUp (heightsF m) a b).length = m.length + 1 := by rw [heUp, setM_len, heights_len]
      have hOt : IsOTab H2.length (hset H4 kj gj ((row.set b (w64 (x + 2 * heWayF (heightsF m) a b))).map I)) (.own k g 1 0 (m.length + 1)) (heUp (heightsF m) a b) := ho2.is hul
      obtain ⟨v', q1, q2⟩ := hOt.pur (Hf := nw H2 (hset H4 kj gj ((row.set b (w64 (x + 2 * heWayF (heightsF m) a b))).map I))) fun i hi => nw_above _ _ hi
      refine ACalls.frz (nw_split hF2.sub) (k := 2) (args' := [v']) ⟨v', [], rfl, q1, rfl⟩ ?_
      have husq : isSquareB (heUp (heightsF m) a b) = true := by
        simp only [isSquareB, List.all_eq_true, decide_eq_true_eq, hul]
        exact hflip_sq (by omega)
      refine ACalls.mono (heFrom_ok (n := m.length) q2 (by omega) husq hul (by omega)) ?_
      rintro r H5 ⟨h5, rfl⟩
      refine ⟨_, HSub.refl _, ?_, rfl⟩
      have e1 : flipOk m a b = true := by
        unfold flipOk
        rw [hg, decide_eq_true hc, Int.toNat_natCast, Int.toNat_natCast, decide_eq_true hb]; rfl
      rw [e1]
      refine ⟨_, rfl, ?_⟩
      unfold heFlipF heFromF
      rw [Int.toNat_natCast, Int.toNat_natCast, hul, Nat.add_sub_cancel]
      exact h5

end Go.Proofs.Ytccioplhchmilaa.AL

set_option linter.unusedVariables false
set_option maxRecDepth 100000
namespace Go.Proofs.Ytccioplhchmilaa.AL
open Go Go.Proofs

/-! (*spec.l1Cur).pair (slots: 0 c, 1 most, 2 c, 3 most, 6 m, 7 k, 8 n, 9 h, 10 cells, 11 cell, 12 next, 13 _) -/
namespace spec_l1Cur_pair
def lv : List (Nat × List Nat) := [(8, [0, 6, 7, 8])]
noncomputable def K8 : List KF := [.lp (cB (cB (cR (cR (cX (cR (cL (cR (cR (cR (cR (bodyOf Try.f85)))))))))))), .bl 0, .sq (cR (cR (cR (cR (cR (bodyOf Try.f85))))))]
def L8 (Q : AVal → Heap → Prop) (v0 v6 v7 v8 : AVal) (H : Heap) : Prop := At Try.prog 85 73 K8 Q (slotsOf [(0, v0), (6, v6), (7, v7), (8, v8)]) H
theorem L8_frz {Q : AVal → Heap → Prop} {v0 v6 v7 v8 w0 w6 w7 w8 : AVal} {H Hf Hk : Heap} {k : Nat} (hs : Split H Hf Hk) (hp : PurL Hf k [(0, v0, w0), (6, v6, w6), (7, v7, w7), (8, v8, w8)]) (h : L8 Q w0 w6 w7 w8 Hk) : L8 Q v0 v6 v7 v8 H := at_frz (ks := K8) hs hp h
def start_vc (Q : AVal → Heap → Prop) (a0 a1 : AVal) (H : Heap) : Prop :=
 ACalls Try.prog 49 [a0, a1] H fun x1 H2 =>
 ACalls Try.prog 53 [x1] H2 fun x3 H4 =>
 NOTK x3 fun x5 =>
 SPL x5 (ACalls Try.prog 49 [a0, a1] H4 fun x6 H7 =>
 Q (AVal.tup [x1, x6]) H7) (ACalls Try.prog 70 [a0, (AVal.int .i64 10)] H4 fun x8 H9 =>
 BRK x8 (ACalls Try.prog 49 [a0, a1] H9 fun x10 H11 =>
 Q (AVal.tup [x1, x10]) H11) (LENK x1 fun x12 =>
 ACalls Try.prog 101 [a0, x12] H9 fun x13 H14 =>
 ACalls Try.prog 70 [a0, (AVal.int .i64 3)] H14 fun x15 H16 =>
 BRK x15 (ACalls Try.prog 68 [a0, (AVal.int .i64 4)] H16 fun x17 H18 =>
 spec_l1Cur_pair.L8 Q a0 x1 x1 x17 H18) (Q (AVal.tup [x1, x13]) H16)))
theorem start_eq (Q : AVal → Heap → Prop) (a0 a1 : AVal) (H : Heap) : vs Try.prog lv 85 73 Try.f85.results.toList Q true 1000 [.sq (bodyOf Try.f85)] (entry [a0, a1]) H = start_vc Q a0 a1 H := by kernel_rfl
theorem start {Q : AVal → Heap → Prop} {a0 a1 : AVal} {H : Heap} (h : start_vc Q a0 a1 H) : ACalls Try.prog 85 [a0, a1] H Q := acalls_vs (lv := lv) mixed Try.func85 rfl (by kernel_rfl) (by kernel_rfl) (start_eq Q a0 a1 H ▸ h)
def step8_vc (Q : AVal → Heap → Prop) (v0 v6 v7 v8 : AVal) (H : Heap) : Prop :=
 BINK .gtr v8 (AVal.int .i64 0) fun x1 =>
 BRK x1 (ACalls Try.prog 61 [v7] H fun x2 H3 =>
 ACalls Try.prog 68 [v0, (AVal.int .i64 2)] H3 fun x4 H5 =>
 BINK .mul (AVal.int .i64 2) x4 fun x6 =>
 BINK .sub x6 (AVal.int .i64 1) fun x7 =>
 ACalls Try.prog 100 [x2, x7] H5 fun x8 H9 =>
 LENK x8 fun x10 =>
 BINK .gtr x10 (AVal.int .i64 0) fun x11 =>
 BRK x11 (LENK x8 fun x12 =>
 ACalls Try.prog 68 [v0, x12] H9 fun x13 H14 =>
 TT ∧ IXK 1 x8 x13 fun x15 =>
 TT ∧ TT ∧ LDK false 1 H14 x15 fun x16 =>
 TT ∧ TT ∧ IXK 1 x16 (AVal.int .i64 0) fun x17 =>
 TT ∧ TT ∧ LDK false 1 H14 x17 fun x18 =>
 TT ∧ IXK 1 x16 (AVal.int .i64 1) fun x19 =>
 TT ∧ TT ∧ LDK false 1 H14 x19 fun x20 =>
 ACalls Try.prog 37 [v7, x18, x20] H14 fun x21 H22 =>
 EXTK x21 0 fun x23 =>
 EXTK x21 1 fun x24 =>
 BINK .sub v8 (AVal.int .i64 1) fun x25 =>
 spec_l1Cur_pair.L8 Q v0 v6 x23 x25 H22) (BINK .sub v8 (AVal.int .i64 1) fun x26 =>
 spec_l1Cur_pair.L8 Q v0 v6 v7 x26 H9)) (Q (AVal.tup [v6, v7]) H)
theorem step8_eq (Q : AVal → Heap → Prop) (v0 v6 v7 v8 : AVal) (H : Heap) : vs Try.prog lv 85 73 Try.f85.results.toList Q true 1000 (.sq (cB (cB (cR (cR (cX (cR (cL (cR (cR (cR (cR (bodyOf Try.f85)))))))))))) :: K8) (slotsOf [(0, v0), (6, v6), (7, v7), (8, v8)]) H = step8_vc Q v0 v6 v7 v8 H := by kernel_rfl
theorem step8 {Q : AVal → Heap → Prop} {v0 v6 v7 v8 : AVal} {H : Heap} (h : step8_vc Q v0 v6 v7 v8 H) : L8 Q v0 v6 v7 v8 H := at_lp_vs (lv := lv) (ks := K8.tail) mixed Try.func85 (step8_eq Q v0 v6 v7 v8 H ▸ h)
end spec_l1Cur_pair

/-! spec.DrawIsBelow (slots: 0 code, 1 code, 4 c) -/
namespace spec_DrawIsBelow
def lv : List (Nat × List Nat) := []
def start_vc (Q : AVal → Heap → Prop) (a0 : AVal) (H : Heap) : Prop :=
 TT ∧ BLDK [AVal.nilS, (AVal.int .i64 0), (AVal.int .u64 0)] [((0, 1), a0)] fun x1 =>
 BOXK x1 H fun x2 H3 =>
 ACalls Try.prog 85 [x2, (AVal.int .i64 5)] H3 fun x4 H5 =>
 EXTK x4 0 fun x6 =>
 EXTK x4 1 fun x7 =>
 Q (AVal.tup [x6, x7]) H5
theorem start_eq (Q : AVal → Heap → Prop) (a0 : AVal) (H : Heap) : vs Try.prog lv 29 12 Try.f29.results.toList Q true 1000 [.sq (bodyOf Try.f29)] (entry [a0]) H = start_vc Q a0 H := by kernel_rfl
theorem start {Q : AVal → Heap → Prop} {a0 : AVal} {H : Heap} (h : start_vc Q a0 H) : ACalls Try.prog 29 [a0] H Q := acalls_vs (lv := lv) mixed Try.func29 rfl (by kernel_rfl) (by kernel_rfl) (start_eq Q a0 H ▸ h)
end spec_DrawIsBelow


theorem mem_cellsRow {p : Nat → Bool} {i : Nat} {c : List Int} : ∀ {m j : Nat}, c ∈ cellsRow p i j m → ∃ j' : Nat, j ≤ j' ∧ j' < j + m ∧ p j' = true ∧ c = [(i : Int), (j' : Int)]
  | 0, j, h => by simp [cellsRow] at h
  | m + 1, j, h => by
    simp only [cellsRow, List.mem_append] at h
    rcases h with h | h
    · split at h
      · rename_i hp
        simp at h; exact ⟨j, by omega, by omega, hp, h⟩
      · simp at h
    · obtain ⟨j', h1, h2, h3, h4⟩ := mem_cellsRow h
      exact ⟨j', by omega, by omega, h3, h4⟩
theorem mem_cellsFrom {p : Nat → Nat → Bool} {n : Nat} {c : List Int} : ∀ {m i : Nat}, c ∈ cellsFrom p n i m → ∃ i' j' : Nat, i ≤ i' ∧ i' < i + m ∧ 1 ≤ j' ∧ j' ≤ n ∧ p i' j' = true ∧ c = [(i' : Int), (j' : Int)]
  | 0, i, h => by simp [cellsFrom] at h
  | m + 1, i, h => by
    simp only [cellsFrom, List.mem_append] at h
    rcases h with h | h
    · obtain ⟨j', h1, h2, h3, h4⟩ := mem_cellsRow h
      exact ⟨i, j', by omega, by omega, by omega, by omega, h3, h4⟩
    · obtain ⟨i', j', h1, h2, h3⟩ := mem_cellsFrom h
      exact ⟨i', j', by omega, by omega, h3⟩
theorem mem_cells {p : Nat → Nat → Bool} {n : Nat} {c : List Int} (h : c ∈ cellsF p n) : ∃ i j : Nat, 1 ≤ i ∧ i ≤ n ∧ 1 ≤ j ∧ j ≤ n ∧ p i j = true ∧ c = [(i : Int), (j : Int)] := by
  obtain ⟨i, j, h1, h2, h3, h4, h5⟩ := mem_cellsFrom h
  exact ⟨i, j, h1, by omega, h3, h4, h5⟩
theorem cellsFrom_len (p : Nat → Nat → Bool) (n : Nat) : ∀ (m i : Nat), (cellsFrom p n i m).length ≤ m * n
  | 0, i => by simp [cellsFrom]
  | m + 1, i => by
    have h1 := cellsFrom_len p n m (i + 1)
    have h2 := cellsRow_len (p i) i n 1
    simp only [cellsFrom, List.length_append, Nat.add_mul]
    omega
theorem cells_len (p : Nat → Nat → Bool) (n : Nat) : (cellsF p n).length ≤ n * n := cellsFrom_len p n n 1

def Small (t : List (List Int)) : Prop := t.length ≤ 7 ∧ ∀ r ∈ t, r.length ≤ 7
theorem small_sq {t : List (List Int)} (hl : t.length ≤ 6) (hs : isSquareB t = true) : Small t := ⟨by omega, fun r hr => by rw [sq_len hs hr]; omega⟩
def PairV (A : Int) (i g : Nat) (H0 : Heap) (r : AVal) (H : Heap) : Prop := ∃ a b va vb cs, r = .tup [va, vb] ∧ IsTab va a ∧ IsTab vb b ∧ Small a ∧ Small b ∧ H = hset H0 i g cs ∧ Cur A H i g
theorem heFlip_sq {m : List (List Int)} {i j : Int} (hm : 1 ≤ m.length) : (heFlipF m i j).length = m.length ∧ isSquareB (heFlipF m i j) = true := by
  unfold heFlipF heFromF
  refine ⟨?_, fromT_sq _⟩
  rw [fromT_len, tabT_len, heUp, setM_len, heights_len]; omega
theorem pair_loop {A : Int} (hA : A ≤ 1000000) {H0 : Heap} {i g : Nat} {a : List (List Int)} {v6 : AVal} (ha : IsTab v6 a) (hsa : Small a) : ∀ (m : Nat) (B : Int) (t : List (List Int)) (v7 : AVal) (H : Heap) (cs : List AVal), B + 10 * m ≤ A → m ≤ 10 → IsTab v7 t → t.length ≤ 6 → isSquareB t = true → H = hset H0 i g cs → Cur B H i g →
    spec_l1Cur_pair.L8 (PairV A i g H0) (.ptr i g 0) v6 v7 (I m) H := by
  intro m
  induction m with
  | zero =>
    intro B t v7 H cs hB hm ht htl hts hH hc
    apply spec_l1Cur_pair.step8
    unfold spec_l1Cur_pair.step8_vc
    repeat' (with_reducible first
 | refine rTT ?_
 | refine rRFL ?_
 | refine rLEN (by assumption) ?_
 | (refine rIXk (by assumption) (by assumption) ?_; intro p hp)
 | (refine rIX (by assumption) (by omega) (by omega) ?_; intro p a ha hp)
 | refine rLDi (by assumption) ?_
 | (refine rLD (by assumption) ?_; intro c hc)
 | refine rADD (by omega) ?_
 | refine rSUB (by omega) ?_
 | refine rLSS ?_
 | refine rLEQ ?_
 | refine rGTR ?_
 | refine rGEQ ?_
 | refine rEQL ?_
 | refine rNEQ ?_
 | refine rNOT ?_
 | (refine rBRK ?_ ?_ <;> intro hb)
 | (refine rBRKn ?_ ?_ <;> intro hb)
 | (refine rBRKnb ?_ ?_ <;> intro hb)
 | (refine rBRKb ?_ ?_ <;> intro hb)
 | (refine rSPL ?_ ?_ <;> intro hb)
 | (refine rSPLn ?_ ?_ <;> intro hb)
 | (refine rSPLnb ?_ ?_ <;> intro hb)
 | (refine rSPLb ?_ ?_ <;> intro hb)
 | (exfalso; omega))
    exact ⟨a, t, v6, v7, cs, rfl, ha, ht, hsa, small_sq htl hts, hH, hc.le (by omega)⟩
  | succ m ih =>
    intro B t v7 H cs hB hm ht htl hts hH hc
    apply spec_l1Cur_pair.step8
    unfold spec_l1Cur_pair.step8_vc
    repeat' (with_reducible first
 | refine rTT ?_
 | refine rRFL ?_
 | refine rLEN (by assumption) ?_
 | (refine rIXk (by assumption) (by assumption) ?_; intro p hp)
 | (refine rIX (by assumption) (by omega) (by omega) ?_; intro p a ha hp)
 | refine rLDi (by assumption) ?_
 | (refine rLD (by assumption) ?_; intro c hc)
 | refine rADD (by omega) ?_
 | refine rSUB (by omega) ?_
 | refine rLSS ?_
 | refine rLEQ ?_
 | refine rGTR ?_
 | refine rGEQ ?_
 | refine rEQL ?_
 | refine rNEQ ?_
 | refine rNOT ?_
 | (refine rBRK ?_ ?_ <;> intro hb)
 | (refine rBRKn ?_ ?_ <;> intro hb)
 | (refine rBRKnb ?_ ?_ <;> intro hb)
 | (refine rBRKb ?_ ?_ <;> intro hb)
 | (refine rSPL ?_ ?_ <;> intro hb)
 | (refine rSPLn ?_ ?_ <;> intro hb)
 | (refine rSPLnb ?_ ?_ <;> intro hb)
 | (refine rSPLb ?_ ?_ <;> intro hb)
 | (exfalso; omega))
    refine ACalls.mono (heOf_okF ht (by omega) hts) ?_
    rintro r H1 ⟨h1, rfl⟩
    refine ACalls.mono (pick_ok hc (by omega) (by omega)) ?_
    rintro r2 H2 ⟨x, cs2, rfl, hx0, hx1, hH2, hc2⟩
    refine rMUL (by omega) ?_
    repeat' (with_reducible first
 | refine rTT ?_
 | refine rRFL ?_
 | refine rLEN (by assumption) ?_
 | (refine rIXk (by assumption) (by assumption) ?_; intro p hp)
 | (refine rIX (by assumption) (by omega) (by omega) ?_; intro p a ha hp)
 | refine rLDi (by assumption) ?_
 | (refine rLD (by assumption) ?_; intro c hc)
 | refine rADD (by omega) ?_
 | refine rSUB (by omega) ?_
 | refine rLSS ?_
 | refine rLEQ ?_
 | refine rGTR ?_
 | refine rGEQ ?_
 | refine rEQL ?_
 | refine rNEQ ?_
 | refine rNOT ?_
 | (refine rBRK ?_ ?_ <;> intro hb)
 | (refine rBRKn ?_ ?_ <;> intro hb)
 | (refine rBRKnb ?_ ?_ <;> intro hb)
 | (refine rBRKb ?_ ?_ <;> intro hb)
 | (refine rSPL ?_ ?_ <;> intro hb)
 | (refine rSPLn ?_ ?_ <;> intro hb)
 | (refine rSPLnb ?_ ?_ <;> intro hb)
 | (refine rSPLb ?_ ?_ <;> intro hb)
 | (exfalso; omega))
    refine ACalls.mono (heFlips_ok h1 (heights_len t) (fun r hr => heights_sq hr) (by omega) (by omega)) ?_
    rintro r3 H3 ⟨h3, rfl⟩
    have hlen : (heFlipsF (heightsF t) (2 * x - 1)).length ≤ 49 := by
      have h0 := cells_len (fun i j => decide (heWayF (heightsF t) i j = 2 * x - 1)) ((heightsF t).length - 2)
      have h1 : (heightsF t).length - 2 ≤ 7 := by rw [heights_len]; omega
      have h2 := Nat.mul_le_mul h1 h1
      unfold heFlipsF; omega
    repeat' (with_reducible first
 | refine rTT ?_
 | refine rRFL ?_
 | refine rLEN (by assumption) ?_
 | (refine rIXk (by assumption) (by assumption) ?_; intro p hp)
 | (refine rIX (by assumption) (by omega) (by omega) ?_; intro p a ha hp)
 | refine rLDi (by assumption) ?_
 | (refine rLD (by assumption) ?_; intro c hc)
 | refine rADD (by omega) ?_
 | refine rSUB (by omega) ?_
 | refine rLSS ?_
 | refine rLEQ ?_
 | refine rGTR ?_
 | refine rGEQ ?_
 | refine rEQL ?_
 | refine rNEQ ?_
 | refine rNOT ?_
 | (refine rBRK ?_ ?_ <;> intro hb)
 | (refine rBRKn ?_ ?_ <;> intro hb)
 | (refine rBRKnb ?_ ?_ <;> intro hb)
 | (refine rBRKb ?_ ?_ <;> intro hb)
 | (refine rSPL ?_ ?_ <;> intro hb)
 | (refine rSPLn ?_ ?_ <;> intro hb)
 | (refine rSPLnb ?_ ?_ <;> intro hb)
 | (refine rSPLb ?_ ?_ <;> intro hb)
 | (exfalso; omega))
    · refine ACalls.mono (pick_ok hc2 (by omega) (by omega)) ?_
      rintro r4 H4 ⟨y, cs4, rfl, hy0, hy1, hH4, hc4⟩
      obtain ⟨yn, rfl⟩ : ∃ yn : Nat, y = yn := ⟨y.toNat, by omega⟩
      obtain ⟨cell, hcell⟩ := ex_get (l := heFlipsF (heightsF t) (2 * x - 1)) (k := yn) (by omega)
      obtain ⟨ci, cj, g1, g2, g3, g4, g5, rfl⟩ := mem_cells (getElem_mem' hcell)
      have q0 : [(ci : Int), (cj : Int)][0]? = some (ci : Int) := rfl
      have q1 : [(ci : Int), (cj : Int)][1]? = some (cj : Int) := rfl
      repeat' (first
 | ((refine rIXk (i := 0) (by assumption) q0 ?_; intro p hp))
 | ((refine rIXk (i := 1) (by assumption) q1 ?_; intro p hp))
 | with_reducible first
 | refine rTT ?_
 | refine rRFL ?_
 | refine rLEN (by assumption) ?_
 | (refine rIXk (by assumption) (by assumption) ?_; intro p hp)
 | (refine rIX (by assumption) (by omega) (by omega) ?_; intro p a ha hp)
 | refine rLDi (by assumption) ?_
 | (refine rLD (by assumption) ?_; intro c hc)
 | refine rADD (by omega) ?_
 | refine rSUB (by omega) ?_
 | refine rLSS ?_
 | refine rLEQ ?_
 | refine rGTR ?_
 | refine rGEQ ?_
 | refine rEQL ?_
 | refine rNEQ ?_
 | refine rNOT ?_
 | (refine rBRK ?_ ?_ <;> intro hb)
 | (refine rBRKn ?_ ?_ <;> intro hb)
 | (refine rBRKnb ?_ ?_ <;> intro hb)
 | (refine rBRKb ?_ ?_ <;> intro hb)
 | (refine rSPL ?_ ?_ <;> intro hb)
 | (refine rSPLn ?_ ?_ <;> intro hb)
 | (refine rSPLnb ?_ ?_ <;> intro hb)
 | (refine rSPLb ?_ ?_ <;> intro hb)
 | (exfalso; omega))
      refine ACalls.mono (specFlipAt_ok ht (by omega) (fun r hr => by rw [sq_len hts hr]; omega)) ?_
      rintro r5 H5 ⟨⟨h, rfl, h5⟩, rfl⟩
      refine ⟨_, rfl, _, rfl, ?_⟩
      repeat' (with_reducible first
 | refine rTT ?_
 | refine rRFL ?_
 | refine rLEN (by assumption) ?_
 | (refine rIXk (by assumption) (by assumption) ?_; intro p hp)
 | (refine rIX (by assumption) (by omega) (by omega) ?_; intro p a ha hp)
 | refine rLDi (by assumption) ?_
 | (refine rLD (by assumption) ?_; intro c hc)
 | refine rADD (by omega) ?_
 | refine rSUB (by omega) ?_
 | refine rLSS ?_
 | refine rLEQ ?_
 | refine rGTR ?_
 | refine rGEQ ?_
 | refine rEQL ?_
 | refine rNEQ ?_
 | refine rNOT ?_
 | (refine rBRK ?_ ?_ <;> intro hb)
 | (refine rBRKn ?_ ?_ <;> intro hb)
 | (refine rBRKnb ?_ ?_ <;> intro hb)
 | (refine rBRKb ?_ ?_ <;> intro hb)
 | (refine rSPL ?_ ?_ <;> intro hb)
 | (refine rSPLn ?_ ?_ <;> intro hb)
 | (refine rSPLnb ?_ ?_ <;> intro hb)
 | (refine rSPLb ?_ ?_ <;> intro hb)
 | (exfalso; omega))
      have e : (((m + 1 : Nat) : Int) - 1) = (m : Int) := by omega
      rw [e]
      have hl4 : ∀ b : Bool, (bif b then heFlipF t ci cj else []).length ≤ 6 ∧ isSquareB (bif b then heFlipF t ci cj else []) = true := by
        intro b
        cases b with
        | false => exact ⟨by simp, rfl⟩
        | true =>
          rw [heights_len] at g2
          have := heFlip_sq (m := t) (i := ci) (j := cj) (by omega)
          exact ⟨by simp only [cond_true]; omega, this.2⟩
      refine ih (B + 4) _ h H5 cs4 (by omega) (by omega) h5 (hl4 _).1 (hl4 _).2 ?_ (hc4.le (by omega))
      rw [hH4, hH2, hH, hset_set, hset_set]
    · have e : (((m + 1 : Nat) : Int) - 1) = (m : Int) := by omega
      rw [e]
      refine ih (B + 4) t v7 H3 cs2 (by omega) (by omega) ht htl hts ?_ (hc2.le (by omega))
      rw [hH2, hH, hset_set]
theorem pair_ok {A most : Int} {H : Heap} {i g : Nat} (h : Cur A H i g) (hA : A ≤ 100000) (h1 : 1 ≤ most) (hm : most ≤ 6) : ACalls Try.prog 85 [.ptr i g 0, I most] H (PairV (A + 10000) i g H) := by
  apply spec_l1Cur_pair.start
  unfold spec_l1Cur_pair.start_vc
  refine ACalls.mono (signsV_ok h (by omega) h1 hm) ?_
  rintro r1 H1 ⟨a, cs1, ha, hal, har, hH1, hc1⟩
  have hsa : Small a := ⟨hal, har⟩
  have hend : ∀ {H2 : Heap} {cs2 : List AVal} {B : Int}, H2 = hset H i g cs2 → Cur B H2 i g → B ≤ A + 5000 → ACalls Try.prog 49 [.ptr i g 0, I most] H2 fun x H7 => PairV (A + 10000) i g H (.tup [r1, x]) H7 := by
    intro H2 cs2 B hH2 hc2 hB
    refine ACalls.mono (signsV_ok hc2 (by omega) h1 hm) ?_
    rintro r2 H3 ⟨b, cs3, hb1, hbl, hbr, hH3, hc3⟩
    exact ⟨a, b, r1, r2, cs3, rfl, ha, hb1, hsa, ⟨hbl, hbr⟩, by rw [hH3, hH2, hset_set], hc3.le (by omega)⟩
  refine ACalls.mono (sgGood_ok ha (by omega) (fun r hr => by have := har r hr; omega)) ?_
  rintro r H2 ⟨rfl, rfl⟩
  refine rNOT ?_
  refine rSPLnb (fun hb => hend hH1 hc1 (by omega)) (fun hg => ?_)
  have gl := goodB_len hg
  refine ACalls.mono (one_ok hc1 (by omega) (by omega)) ?_
  rintro r5 H5 ⟨b, cs5, rfl, hH5, hc5⟩
  refine rBRKb (fun _ => hend (hH5.trans (by rw [hH1, hset_set])) hc5 (by omega)) (fun _ => ?_)
  refine rLEN ha ?_
  refine ACalls.mono (sureV_ok hc5 (by omega) gl.1 gl.2) ?_
  rintro r6 H6 ⟨k, cs6, hk, hkl, hks, hH6, hc6⟩
  refine ACalls.mono (one_ok hc6 (by omega) (by omega)) ?_
  rintro r7 H7 ⟨b7, cs7, rfl, hH7, hc7⟩
  have hH7' : H7 = hset H i g cs7 := by rw [hH7, hH6, hH5, hH1, hset_set, hset_set, hset_set]
  refine rBRKb (fun _ => ?_) (fun _ => ?_)
  · refine ACalls.mono (pick_ok hc7 (by omega) (by omega)) ?_
    rintro r8 H8 ⟨x, cs8, rfl, hx0, hx1, hH8, hc8⟩
    obtain ⟨xn, rfl⟩ : ∃ xn : Nat, x = xn := ⟨x.toNat, by omega⟩
    exact pair_loop (by omega) ha hsa xn _ a r1 H8 cs8 (by omega) (by omega) ha gl.2 (goodB_sq hg) (by rw [hH8, hH7', hset_set]) hc8
  · exact ⟨a, k, r1, r6, cs7, rfl, ha, hk, hsa, small_sq (by omega) hks, hH7', hc7.le (by omega)⟩
theorem rBOXc {v : AVal} {H : Heap} {K : AVal → Heap → Prop} (h : ∀ g, K (.ptr H.length g 0) (hnew H g [v, I 0, .int .u64 0])) : BLDK (([AVal.nilS, (AVal.int .i64 0), (AVal.int .u64 0)].take 0 ++ [v]) ++ [AVal.nilS, (AVal.int .i64 0), (AVal.int .u64 0)].drop (0 + 1)) [] fun x1 => BOXK x1 H K := h
/-- Two drawn tables, as values. -/
def TabR2 (r : AVal) : Prop := ∃ a b va vb, r = .tup [va, vb] ∧ IsTab va a ∧ IsTab vb b ∧ Small a ∧ Small b
theorem drawIsBelow_ok {code : List Int} {v : AVal} (hv : IsSl IsB v code) (hl : code.length ≤ 1099511627776) {H : Heap} : ACalls Try.prog 29 [v] H fun r H' => TabR2 r ∧ H' = H := by
  apply ACalls.sub
  apply spec_DrawIsBelow.start
  unfold spec_DrawIsBelow.start_vc
  refine rTT ?_
  refine cells_one hv.one ⟨rfl, by decide, ?_⟩
  simp only [BLDK, List.take_zero, List.nil_append, List.drop_succ_cons, List.drop_zero, List.singleton_append, Nat.zero_add, BOXK, cellsOfV]
  intro g
  have hc : Cur 0 (hnew H g [v, I 0, .int .u64 0]) H.length g := ⟨v, code, 0, 0, hget_new _ _ _, hv, hl, by omega, by omega⟩
  refine ACalls.mono (pair_ok hc (by omega) (by omega) (by omega)) ?_
  rintro r H' ⟨a, b, va, vb, cs, rfl, h1, h2, h3, h4, h5, h6⟩
  refine ⟨_, rfl, _, rfl, H, ?_, ⟨a, b, va, vb, rfl, h1, h2, h3, h4⟩, rfl⟩
  rw [h5, hset_new]; exact hsub_new _ _ _

end Go.Proofs.Ytccioplhchmilaa.AL

set_option linter.unusedVariables false
set_option maxRecDepth 100000
namespace Go.Proofs.Ytccioplhchmilaa.AL
open Go Go.Proofs

/-! ### Setting a number -/
theorem getM_set {t : List (List Int)} {n : Nat} (hl : t.length = n) (hs : ∀ r ∈ t, r.length = n) {i j : Nat} (hi : i < n) (hj : j < n) {x : Int} {a b : Nat} : getM (setM t i j x) a b = if a = i ∧ b = j then x else getM t a b := by
  unfold getM setM
  by_cases ha : a = i
  · subst ha
    have hr : (t.getD a []).length = n := hs _ (getD_mem (by omega) _)
    by_cases hb : b = j
    · subst hb
      rw [if_pos ⟨rfl, rfl⟩]
      simp only [List.getD_eq_getElem?_getD, List.getElem?_set_self (show a < t.length by omega), Option.getD_some]
      rw [List.getElem?_set_self (by rw [← List.getD_eq_getElem?_getD]; omega), Option.getD_some]
    · rw [if_neg (by simp [hb])]
      simp only [List.getD_eq_getElem?_getD, List.getElem?_set_self (show a < t.length by omega), Option.getD_some]
      rw [List.getElem?_set_ne (Ne.symm hb)]
  · rw [if_neg (by simp [ha])]
    simp only [List.getD_eq_getElem?_getD, List.getElem?_set_ne (Ne.symm ha)]

/-! ### Flips -/
theorem ht_get {n : Nat} {m : List (List Int)} (h : Good n m) {i j : Nat} (hi : i ≤ n) (hj : j ≤ n) : getM (heightsF m) i j = htC (Cn m) i j := by
  rw [heightsF_good h, tabT_get (by omega) (by omega)]
/-- Heights of neighbours differ by 1. -/
theorem ht_dn {n : Nat} {m : List (List Int)} (h : Good n m) {i j : Nat} (hi : i < n) (hj : j ≤ n) : getM (heightsF m) (i + 1) j = getM (heightsF m) i j + 1 ∨ getM (heightsF m) (i + 1) j = getM (heightsF m) i j - 1 := by
  rw [ht_get h (by omega) hj, ht_get h (by omega) hj]
  unfold htC
  have := h.ct.dn i j hi hj
  omega
theorem ht_rt {n : Nat} {m : List (List Int)} (h : Good n m) {i j : Nat} (hi : i ≤ n) (hj : j < n) : getM (heightsF m) i (j + 1) = getM (heightsF m) i j + 1 ∨ getM (heightsF m) i (j + 1) = getM (heightsF m) i j - 1 := by
  rw [ht_get h hi (by omega), ht_get h hi (by omega)]
  unfold htC
  have := h.ct.rt i j hi hj
  omega
theorem ht_bound {n : Nat} {m : List (List Int)} (h : Good n m) {i j : Nat} (hi : i ≤ n) (hj : j ≤ n) : 0 ≤ getM (heightsF m) i j ∧ getM (heightsF m) i j ≤ 6 := by
  rw [ht_get h hi hj]
  have := ht_in h.ct hi hj
  have := h.n6
  omega
theorem way_up {n : Nat} {m : List (List Int)} (h : Good n m) {i j : Nat} (hi : i ≤ n) (hj : j ≤ n) : heWayF (heightsF m) i j = 1 ↔ (getM (heightsF m) (i - 1) j = getM (heightsF m) i j + 1 ∧ getM (heightsF m) (i + 1) j = getM (heightsF m) i j + 1) ∧ getM (heightsF m) i (j - 1) = getM (heightsF m) i j + 1 ∧ getM (heightsF m) i (j + 1) = getM (heightsF m) i j + 1 := by
  have hb := ht_bound h hi hj
  unfold heWayF sameB
  rw [w64_in (n := getM (heightsF m) i j + 1) (by constructor <;> omega)]
  simp only [Bool.and_eq_true, decide_eq_true_eq]
  split
  · exact ⟨fun _ => by assumption, fun _ => rfl⟩
  · split
    · exact ⟨fun h => (by cases h), fun h' => absurd h' (by assumption)⟩
    · exact ⟨fun h => (by cases h), fun h' => absurd h' (by assumption)⟩
theorem way_dn {n : Nat} {m : List (List Int)} (h : Good n m) {i j : Nat} (hi : i ≤ n) (hj : j ≤ n) : heWayF (heightsF m) i j = -1 ↔ (getM (heightsF m) (i - 1) j = getM (heightsF m) i j - 1 ∧ getM (heightsF m) (i + 1) j = getM (heightsF m) i j - 1) ∧ getM (heightsF m) i (j - 1) = getM (heightsF m) i j - 1 ∧ getM (heightsF m) i (j + 1) = getM (heightsF m) i j - 1 := by
  have hb := ht_bound h hi hj
  unfold heWayF sameB
  rw [w64_in (n := getM (heightsF m) i j + 1) (by constructor <;> omega), w64_in (n := getM (heightsF m) i j - 1) (by constructor <;> omega)]
  simp only [Bool.and_eq_true, decide_eq_true_eq]
  split
  · exact ⟨fun h => (by cases h), fun h' => (by omega)⟩
  · split
    · exact ⟨fun _ => by assumption, fun _ => rfl⟩
    · exact ⟨fun h => (by cases h), fun h' => absurd h' (by assumption)⟩
theorem way_cases (h : List (List Int)) (i j : Nat) : heWayF h i j = 1 ∨ heWayF h i j = -1 ∨ heWayF h i j = 0 := by
  unfold heWayF; split
  · exact .inl rfl
  · split
    · exact .inr (.inl rfl)
    · exact .inr (.inr rfl)
/-- What a flip makes of the corner sums. -/
def flipC (C : Nat → Nat → Int) (i j : Nat) (w : Int) (a b : Nat) : Int := if a = i ∧ b = j then C a b - w else C a b
theorem flip_ct {n : Nat} {m : List (List Int)} (h : Good n m) {i j : Nat} (hi1 : 1 ≤ i) (hi : i < n) (hj1 : 1 ≤ j) (hj : j < n) (hw : heWayF (heightsF m) i j ≠ 0) : CT n (flipC (Cn m) i j (heWayF (heightsF m) i j)) := by
  have c := h.ct
  have e0 := ht_get h (i := i) (j := j) (by omega) (by omega)
  have e1 := ht_get h (i := i - 1) (j := j) (by omega) (by omega)
  have e2 := ht_get h (i := i + 1) (j := j) (by omega) (by omega)
  have e3 := ht_get h (i := i) (j := j - 1) (by omega) (by omega)
  have e4 := ht_get h (i := i) (j := j + 1) (by omega) (by omega)
  have key : Cn m i j - heWayF (heightsF m) i j = 2 * Cn m i j - 2 * Cn m i j + (Cn m i j - heWayF (heightsF m) i j) := by omega
  have q : (heWayF (heightsF m) i j = 1 ∧ Cn m (i - 1) j = Cn m i j - 1 ∧ Cn m (i + 1) j = Cn m i j ∧ Cn m i (j - 1) = Cn m i j - 1 ∧ Cn m i (j + 1) = Cn m i j) ∨ (heWayF (heightsF m) i j = -1 ∧ Cn m (i - 1) j = Cn m i j ∧ Cn m (i + 1) j = Cn m i j + 1 ∧ Cn m i (j - 1) = Cn m i j ∧ Cn m i (j + 1) = Cn m i j + 1) := by
    unfold htC at e0 e1 e2 e3 e4
    rcases way_cases (heightsF m) i j with hc | hc | hc
    · left
      have := (way_up h (by omega) (by omega)).1 hc
      refine ⟨hc, ?_⟩
      omega
    · right
      have := (way_dn h (by omega) (by omega)).1 hc
      refine ⟨hc, ?_⟩
      omega
    · exact absurd hc hw
  generalize heWayF (heightsF m) i j = w at q
  clear key e0 e1 e2 e3 e4 hw
  obtain ⟨i, rfl⟩ : ∃ i', i = i' + 1 := ⟨i - 1, by omega⟩
  obtain ⟨j, rfl⟩ : ∃ j', j = j' + 1 := ⟨j - 1, by omega⟩
  simp only [Nat.add_sub_cancel] at q
  refine ⟨?_, ?_, ?_, ?_, ?_, ?_⟩
  · intro b hb; unfold flipC; rw [if_neg (by omega)]; exact c.l0 b hb
  · intro a ha; unfold flipC; rw [if_neg (by omega)]; exact c.r0 a ha
  · intro b hb; unfold flipC; rw [if_neg (by omega)]; exact c.ln b hb
  · intro a ha; unfold flipC; rw [if_neg (by omega)]; exact c.rn a ha
  · intro a b ha hb
    have := c.dn a b ha hb
    unfold flipC
    by_cases h1 : a = i + 1 ∧ b = j + 1
    · obtain ⟨rfl, rfl⟩ := h1
      rw [if_pos ⟨rfl, rfl⟩, if_neg (by omega)]; omega
    · rw [if_neg h1]
      by_cases h2 : a + 1 = i + 1 ∧ b = j + 1
      · obtain ⟨h3, rfl⟩ := h2
        obtain rfl : a = i := by omega
        rw [if_pos ⟨rfl, rfl⟩]; omega
      · rw [if_neg h2]; exact this
  · intro a b ha hb
    have := c.rt a b ha hb
    unfold flipC
    by_cases h1 : a = i + 1 ∧ b = j + 1
    · obtain ⟨rfl, rfl⟩ := h1
      rw [if_pos ⟨rfl, rfl⟩, if_neg (by omega)]; omega
    · rw [if_neg h1]
      by_cases h2 : a = i + 1 ∧ b + 1 = j + 1
      · obtain ⟨rfl, h3⟩ := h2
        obtain rfl : b = j := by omega
        rw [if_pos ⟨rfl, rfl⟩]; omega
      · rw [if_neg h2]; exact this
/-- The matrix behind a flip. -/
def flipM (m : List (List Int)) (i j : Nat) : List (List Int) := ofC m.length (flipC (Cn m) i j (heWayF (heightsF m) i j))
theorem flip_good {n : Nat} {m : List (List Int)} (h : Good n m) {i j : Nat} (hi1 : 1 ≤ i) (hi : i < n) (hj1 : 1 ≤ j) (hj : j < n) (hw : heWayF (heightsF m) i j ≠ 0) : Good n (flipM m i j) := by
  unfold flipM; rw [h.len]; exact (flip_ct h hi1 hi hj1 hj hw).good h.n1 h.n6
theorem flip_Cn {n : Nat} {m : List (List Int)} (h : Good n m) {i j : Nat} (hi1 : 1 ≤ i) (hi : i < n) (hj1 : 1 ≤ j) (hj : j < n) (hw : heWayF (heightsF m) i j ≠ 0) {a b : Nat} (ha : a ≤ n) (hb : b ≤ n) : Cn (flipM m i j) a b = flipC (Cn m) i j (heWayF (heightsF m) i j) a b := by
  unfold flipM; rw [h.len]; exact ofC_Cn (flip_ct h hi1 hi hj1 hj hw) ha hb
theorem flip_ht {n : Nat} {m : List (List Int)} (h : Good n m) {i j : Nat} (hi1 : 1 ≤ i) (hi : i < n) (hj1 : 1 ≤ j) (hj : j < n) (hw : heWayF (heightsF m) i j ≠ 0) : heUp (heightsF m) i j = heightsF (flipM m i j) := by
  have hl : (heightsF m).length = n + 1 := by rw [heights_len, h.len]
  have hs : ∀ r ∈ heightsF m, r.length = n + 1 := fun r hr => by rw [heights_sq hr, h.len]
  have g := flip_good h hi1 hi hj1 hj hw
  refine getM_eq (n := n + 1) (by rw [heUp, setM_len, hl]) (by rw [heights_len, g.len]) (setM_sq hs (by omega)) (fun r hr => by rw [heights_sq hr, g.len]) fun a b ha hb => ?_
  rw [ht_get g (by omega) (by omega), heUp, getM_set hl hs (by omega) (by omega)]
  have hb1 := ht_bound h (i := i) (j := j) (by omega) (by omega)
  have := way_cases (heightsF m) i j
  rw [w64_in (by constructor <;> omega)]
  unfold htC
  rw [flip_Cn h hi1 hi hj1 hj hw (by omega) (by omega)]
  unfold flipC
  split
  · rename_i hh
    obtain ⟨rfl, rfl⟩ := hh
    rw [ht_get h (by omega) (by omega)]; unfold htC; omega
  · rw [ht_get h (by omega) (by omega)]; rfl
theorem heFlip_eq {n : Nat} {m : List (List Int)} (h : Good n m) {i j : Nat} (hi1 : 1 ≤ i) (hi : i < n) (hj1 : 1 ≤ j) (hj : j < n) (hw : heWayF (heightsF m) i j ≠ 0) : heFlipF m i j = flipM m i j := by
  unfold heFlipF
  rw [Int.toNat_natCast, Int.toNat_natCast, flip_ht h hi1 hi hj1 hj hw, heFrom_good (flip_good h hi1 hi hj1 hj hw)]
/-- A flip is undone by itself. -/
theorem flip_way {n : Nat} {m : List (List Int)} (h : Good n m) {i j : Nat} (hi1 : 1 ≤ i) (hi : i < n) (hj1 : 1 ≤ j) (hj : j < n) (hw : heWayF (heightsF m) i j ≠ 0) : heWayF (heightsF (flipM m i j)) i j = - heWayF (heightsF m) i j := by
  have g := flip_good h hi1 hi hj1 hj hw
  have hl : (heightsF m).length = n + 1 := by rw [heights_len, h.len]
  have hs : ∀ r ∈ heightsF m, r.length = n + 1 := fun r hr => by rw [heights_sq hr, h.len]
  have e : ∀ a b, a ≤ n → b ≤ n → getM (heightsF (flipM m i j)) a b = if a = i ∧ b = j then getM (heightsF m) i j + 2 * heWayF (heightsF m) i j else getM (heightsF m) a b := by
    intro a b ha hb
    rw [← flip_ht h hi1 hi hj1 hj hw, heUp, getM_set hl hs (by omega) (by omega), w64_in]
    have := ht_bound h (i := i) (j := j) (by omega) (by omega)
    have := way_cases (heightsF m) i j
    constructor <;> omega
  have e0 := e i j (by omega) (by omega)
  have e1 := e (i - 1) j (by omega) (by omega)
  have e2 := e (i + 1) j (by omega) (by omega)
  have e3 := e i (j - 1) (by omega) (by omega)
  have e4 := e i (j + 1) (by omega) (by omega)
  rw [if_pos ⟨rfl, rfl⟩] at e0
  rw [if_neg (by omega)] at e1 e2 e3 e4
  rcases way_cases (heightsF m) i j with hc | hc | hc
  · have q := (way_up h (by omega) (by omega)).1 hc
    rw [hc, way_dn g (by omega) (by omega)]
    rw [hc] at e0
    omega
  · have q := (way_dn h (by omega) (by omega)).1 hc
    rw [hc, show (- -1 : Int) = 1 from rfl, way_up g (by omega) (by omega)]
    rw [hc] at e0
    omega
  · exact absurd hc hw
theorem flipM_flip {n : Nat} {m : List (List Int)} (h : Good n m) {i j : Nat} (hi1 : 1 ≤ i) (hi : i < n) (hj1 : 1 ≤ j) (hj : j < n) (hw : heWayF (heightsF m) i j ≠ 0) : flipM (flipM m i j) i j = m := by
  have g := flip_good h hi1 hi hj1 hj hw
  have hw2 : heWayF (heightsF (flipM m i j)) i j ≠ 0 := by rw [flip_way h hi1 hi hj1 hj hw]; omega
  have g2 := flip_good g hi1 hi hj1 hj hw2
  rw [g2.of, h.of]
  refine ofC_congr fun a b ha hb => ?_
  rw [← h.of, flip_Cn g hi1 hi hj1 hj hw2 ha hb, flip_way h hi1 hi hj1 hj hw]
  unfold flipC
  rw [flip_Cn h hi1 hi hj1 hj hw ha hb]
  unfold flipC
  split
  · omega
  · rfl

/-! ### The program's way -/
def min4 (a b c d : Int) : Int := min (min (min a b) c) d
def max4 (a b c d : Int) : Int := max (max (max a b) c) d
def wayF (h : List (List Int)) (i j : Nat) : Int :=
  if min4 (getM h (i - 1) j) (getM h i (j + 1)) (getM h (i + 1) j) (getM h i (j - 1)) ≠ max4 (getM h (i - 1) j) (getM h i (j + 1)) (getM h (i + 1) j) (getM h i (j - 1)) then 0
  else w64 (2 * w64 (min4 (getM h (i - 1) j) (getM h i (j + 1)) (getM h (i + 1) j) (getM h i (j - 1)) - getM h i j))
theorem way_arith {w x a b e f : Int} (u : w = 1 ↔ (a = x + 1 ∧ b = x + 1) ∧ e = x + 1 ∧ f = x + 1) (d : w = -1 ↔ (a = x - 1 ∧ b = x - 1) ∧ e = x - 1 ∧ f = x - 1) (c : w = 1 ∨ w = -1 ∨ w = 0) (n1 : x = a + 1 ∨ x = a - 1) (n2 : b = x + 1 ∨ b = x - 1) (n3 : x = e + 1 ∨ x = e - 1) (n4 : f = x + 1 ∨ f = x - 1) :
    (if min4 a f b e ≠ max4 a f b e then 0 else w64 (2 * w64 (min4 a f b e - x))) = 2 * w := by
  have key : ∀ y z : Int, min4 a f b e = y → max4 a f b e = z → (y ≠ z → w = 0) → (y = z → y - x = w) → (if min4 a f b e ≠ max4 a f b e then 0 else w64 (2 * w64 (min4 a f b e - x))) = 2 * w := by
    intro y z hy hz h1 h2
    rw [hy, hz]
    split
    · rw [h1 (by assumption)]; rfl
    · rename_i h
      have := h2 (Decidable.not_not.1 h)
      rw [this, w64_in (n := w) (by constructor <;> omega), w64_in (by constructor <;> omega)]
  unfold min4 max4 at *
  by_cases hu : (a = x + 1 ∧ b = x + 1) ∧ e = x + 1 ∧ f = x + 1
  · have hw := u.2 hu
    exact key (x + 1) (x + 1) (by omega) (by omega) (by omega) (by omega)
  · by_cases hd : (a = x - 1 ∧ b = x - 1) ∧ e = x - 1 ∧ f = x - 1
    · have hw := d.2 hd
      exact key (x - 1) (x - 1) (by omega) (by omega) (by omega) (by omega)
    · have hw : w = 0 := by
        rcases c with h | h | h
        · exact absurd (u.1 h) hu
        · exact absurd (d.1 h) hd
        · exact h
      clear u d
      refine key (x - 1) (x + 1) ?_ ?_ (by omega) (by omega)
      · omega
      · omega
theorem way_eq {n : Nat} {m : List (List Int)} (h : Good n m) {i j : Nat} (hi1 : 1 ≤ i) (hi : i < n) (hj1 : 1 ≤ j) (hj : j < n) : wayF (heightsF m) i j = 2 * heWayF (heightsF m) i j := by
  have u := way_up h (i := i) (j := j) (by omega) (by omega)
  have d := way_dn h (i := i) (j := j) (by omega) (by omega)
  have c := way_cases (heightsF m) i j
  have n1 := ht_dn h (i := i - 1) (j := j) (by omega) (by omega)
  have n2 := ht_dn h (i := i) (j := j) (by omega) (by omega)
  have n3 := ht_rt h (i := i) (j := j - 1) (by omega) (by omega)
  have n4 := ht_rt h (i := i) (j := j) (by omega) (by omega)
  rw [show i - 1 + 1 = i by omega] at n1
  rw [show j - 1 + 1 = j by omega] at n3
  generalize heWayF (heightsF m) i j = w at *
  unfold wayF
  generalize getM (heightsF m) i j = x at *
  generalize getM (heightsF m) (i - 1) j = a at *
  generalize getM (heightsF m) (i + 1) j = b at *
  generalize getM (heightsF m) i (j - 1) = e at *
  generalize getM (heightsF m) i (j + 1) = f at *
  exact way_arith u d c n1 n2 n3 n4

/-! ### Distances -/
def ab (x : Int) : Int := max x (-x)
def distM (n : Nat) (a b : List (List Int)) : Int := psum (fun i => psum (fun j => ab (Cn a i j - Cn b i j)) (n + 1)) (n + 1)
theorem psum_upd {f g : Nat → Int} {i : Nat} : ∀ {n : Nat}, i < n → (∀ k, k < n → k ≠ i → f k = g k) → psum f n = psum g n + (f i - g i)
  | 0, h, _ => by omega
  | n + 1, h, e => by
    rw [psum_succ, psum_succ]
    by_cases hi : i = n
    · subst hi
      rw [psum_congr (f := f) (g := g) fun k hk => e k (by omega) (by omega)]; omega
    · rw [psum_upd (n := n) (by omega) fun k hk hki => e k (by omega) hki, e n (by omega) (by omega)]; omega
theorem psum_upd2 {f g : Nat → Nat → Int} {i j n m : Nat} (hi : i < n) (hj : j < m) (e : ∀ a b, a < n → b < m → ¬ (a = i ∧ b = j) → f a b = g a b) :
    psum (fun a => psum (f a) m) n = psum (fun a => psum (g a) m) n + (f i j - g i j) := by
  rw [psum_upd (f := fun a => psum (f a) m) (g := fun a => psum (g a) m) hi fun k hk hki => psum_congr fun b hb => e k b hk hb (by omega)]
  have := psum_upd (f := f i) (g := g i) hj fun k hk hkj => e i k hi hk (by omega)
  omega
theorem psum_nonneg {f : Nat → Int} {n : Nat} (h : ∀ i, i < n → 0 ≤ f i) : 0 ≤ psum f n := by
  have := psum_le (f := fun _ => 0) (g := f) h
  rw [psum_zero] at this; exact this
theorem psum_eq_zero {f : Nat → Int} : ∀ {n : Nat}, (∀ i, i < n → 0 ≤ f i) → psum f n = 0 → ∀ i, i < n → f i = 0
  | 0, _, _, i, hi => by omega
  | n + 1, h, e, i, hi => by
    rw [psum_succ] at e
    have h1 := psum_nonneg (n := n) fun i hi => h i (by omega)
    have h2 := h n (by omega)
    by_cases hin : i = n
    · subst hin; omega
    · exact psum_eq_zero (n := n) (fun i hi => h i (by omega)) (by omega) i (by omega)
theorem ab_nonneg (x : Int) : 0 ≤ ab x := by unfold ab; omega
theorem dist_nonneg (n : Nat) (a b : List (List Int)) : 0 ≤ distM n a b := psum_nonneg fun _ _ => psum_nonneg fun _ _ => ab_nonneg _
theorem dist_zero {n : Nat} {a b : List (List Int)} (ha : Good n a) (hb : Good n b) (h : distM n a b = 0) : a = b := by
  rw [ha.of, hb.of]
  refine ofC_congr fun i j hi hj => ?_
  have h1 := psum_eq_zero (fun i _ => psum_nonneg fun _ _ => ab_nonneg _) h i (by omega)
  have h2 := psum_eq_zero (fun j _ => ab_nonneg _) h1 j (by omega)
  unfold ab at h2; omega
theorem dist_self (n : Nat) (a : List (List Int)) : distM n a a = 0 := by
  have : distM n a a = psum (fun i => psum (fun j => 0) (n + 1)) (n + 1) := psum_congr fun i _ => psum_congr fun j _ => by unfold ab; omega
  rw [this, psum_congr (g := fun _ => 0) fun i _ => psum_zero _, psum_zero]
theorem dist_flip {n : Nat} {m b : List (List Int)} (h : Good n m) {i j : Nat} (hi1 : 1 ≤ i) (hi : i < n) (hj1 : 1 ≤ j) (hj : j < n) (hw : heWayF (heightsF m) i j ≠ 0) :
    distM n (flipM m i j) b = distM n m b + (ab (Cn m i j - heWayF (heightsF m) i j - Cn b i j) - ab (Cn m i j - Cn b i j)) := by
  unfold distM
  rw [psum_upd2 (f := fun a c => ab (Cn (flipM m i j) a c - Cn b a c)) (g := fun a c => ab (Cn m a c - Cn b a c)) (i := i) (j := j) (by omega) (by omega)]
  · rw [flip_Cn h hi1 hi hj1 hj hw (by omega) (by omega)]
    unfold flipC; rw [if_pos ⟨rfl, rfl⟩]
  · intro a c ha hc hne
    rw [flip_Cn h hi1 hi hj1 hj hw (by omega) (by omega)]
    unfold flipC; rw [if_neg hne]
theorem psum_tri {f g h : Nat → Int} {n : Nat} (e : ∀ i, i < n → f i ≤ g i + h i) : psum f n ≤ psum g n + psum h n := by
  rw [← psum_add]; exact psum_le e
theorem dist_tri (n : Nat) (a b c : List (List Int)) : distM n a c ≤ distM n a b + distM n b c := by
  refine psum_tri fun i _ => psum_tri fun j _ => ?_
  unfold ab; omega
theorem dist_comm (n : Nat) (a b : List (List Int)) : distM n a b = distM n b a := psum_congr fun i _ => psum_congr fun j _ => by unfold ab; omega
theorem dist_below {n : Nat} {a b c : List (List Int)} (h1 : ∀ i j, i ≤ n → j ≤ n → Cn b i j ≤ Cn a i j) (h2 : ∀ i j, i ≤ n → j ≤ n → Cn c i j ≤ Cn b i j) : distM n a c = distM n a b + distM n b c := by
  unfold distM
  rw [← psum_add]
  refine psum_congr fun i hi => ?_
  rw [← psum_add]
  refine psum_congr fun j hj => ?_
  have := h1 i j (by omega) (by omega)
  have := h2 i j (by omega) (by omega)
  unfold ab; omega
theorem dist_bound {n : Nat} {a b : List (List Int)} (ha : Good n a) (hb : Good n b) : distM n a b ≤ 147 := by
  have h6 := ha.n6
  have h1 : ∀ i, i < n + 1 → psum (fun j => ab (Cn a i j - Cn b i j)) (n + 1) ≤ 21 := by
    intro i hi
    have : ∀ j, j < n + 1 → ab (Cn a i j - Cn b i j) ≤ 3 := by
      intro j hj
      have q1 := ha.ct.le_min (i := i) (j := j) (by omega) (by omega)
      have q2 := hb.ct.le_min (i := i) (j := j) (by omega) (by omega)
      have q3 := ha.ct.ge (i := i) (by omega) (d := n - j) (j := j) (by omega)
      have q4 := hb.ct.ge (i := i) (by omega) (d := n - j) (j := j) (by omega)
      unfold ab
      omega
    have h2 := psum_le this
    have h3 : psum (fun _ => (3 : Int)) (n + 1) = 3 * psum (fun _ => 1) (n + 1) := by
      generalize n + 1 = k
      induction k with
      | zero => rfl
      | succ k ih => rw [psum_succ, psum_succ, ih]; omega
    rw [h3, psum_one] at h2
    omega
  have h2 := psum_le h1
  have h3 : psum (fun _ => (21 : Int)) (n + 1) = 21 * psum (fun _ => 1) (n + 1) := by
    generalize n + 1 = k
    induction k with
    | zero => rfl
    | succ k ih => rw [psum_succ, psum_succ, ih]; omega
  rw [h3, psum_one] at h2
  unfold distM
  omega

/-! ### Cells that are nearer -/
theorem ht_lt {n : Nat} {a b : List (List Int)} (ha : Good n a) (hb : Good n b) {i j : Nat} (hi : i ≤ n) (hj : j ≤ n) : getM (heightsF a) i j < getM (heightsF b) i j ↔ Cn b i j < Cn a i j := by
  rw [ht_get ha hi hj, ht_get hb hi hj]; unfold htC; omega
theorem inner {n : Nat} {a b : List (List Int)} (ha : Good n a) (hb : Good n b) {i j : Nat} (hi : i ≤ n) (hj : j ≤ n) (h : Cn a i j ≠ Cn b i j) : 1 ≤ i ∧ i < n ∧ 1 ≤ j ∧ j < n := by
  refine ⟨?_, ?_, ?_, ?_⟩
  · rcases Nat.eq_zero_or_pos i with rfl | h'
    · exact absurd rfl (by rw [ha.ct.l0 j hj, hb.ct.l0 j hj] at h; exact h)
    · exact h'
  · rcases Nat.lt_or_ge i n with h' | h'
    · exact h'
    · have : i = n := by omega
      subst this
      rw [ha.ct.ln j hj, hb.ct.ln j hj] at h; exact absurd rfl h
  · rcases Nat.eq_zero_or_pos j with rfl | h'
    · exact absurd rfl (by rw [ha.ct.r0 i hi, hb.ct.r0 i hi] at h; exact h)
    · exact h'
  · rcases Nat.lt_or_ge j n with h' | h'
    · exact h'
    · have : j = n := by omega
      subst this
      rw [ha.ct.rn i hi, hb.ct.rn i hi] at h; exact absurd rfl h
theorem up_exists {n : Nat} {a b : List (List Int)} (ha : Good n a) (hb : Good n b) : ∀ (k i j : Nat), i ≤ n → j ≤ n → getM (heightsF a) i j ≤ k → Cn b i j < Cn a i j → ∃ i j, 1 ≤ i ∧ i < n ∧ 1 ≤ j ∧ j < n ∧ Cn b i j < Cn a i j ∧ heWayF (heightsF a) i j = 1 := by
  intro k
  induction k with
  | zero =>
    intro i j hi hj hk hlt
    obtain ⟨q1, q2, q3, q4⟩ := inner ha hb hi hj (by omega)
    have n1 := ht_dn ha (i := i - 1) (j := j) (by omega) (by omega)
    have b1 := ht_bound ha (i := i - 1) (j := j) (by omega) (by omega)
    have n2 := ht_dn ha (i := i) (j := j) (by omega) (by omega)
    have b2 := ht_bound ha (i := i + 1) (j := j) (by omega) (by omega)
    have n3 := ht_rt ha (i := i) (j := j - 1) (by omega) (by omega)
    have b3 := ht_bound ha (i := i) (j := j - 1) (by omega) (by omega)
    have n4 := ht_rt ha (i := i) (j := j) (by omega) (by omega)
    have b4 := ht_bound ha (i := i) (j := j + 1) (by omega) (by omega)
    rw [show i - 1 + 1 = i by omega] at n1
    rw [show j - 1 + 1 = j by omega] at n3
    exact ⟨i, j, q1, q2, q3, q4, hlt, (way_up ha hi hj).2 (by omega)⟩
  | succ k ih =>
    intro i j hi hj hk hlt
    obtain ⟨q1, q2, q3, q4⟩ := inner ha hb hi hj (by omega)
    by_cases hw : heWayF (heightsF a) i j = 1
    · exact ⟨i, j, q1, q2, q3, q4, hlt, hw⟩
    · have n1 := ht_dn ha (i := i - 1) (j := j) (by omega) (by omega)
      have n2 := ht_dn ha (i := i) (j := j) (by omega) (by omega)
      have n3 := ht_rt ha (i := i) (j := j - 1) (by omega) (by omega)
      have n4 := ht_rt ha (i := i) (j := j) (by omega) (by omega)
      have m1 := ht_dn hb (i := i - 1) (j := j) (by omega) (by omega)
      have m2 := ht_dn hb (i := i) (j := j) (by omega) (by omega)
      have m3 := ht_rt hb (i := i) (j := j - 1) (by omega) (by omega)
      have m4 := ht_rt hb (i := i) (j := j) (by omega) (by omega)
      rw [show i - 1 + 1 = i by omega] at n1 m1
      rw [show j - 1 + 1 = j by omega] at n3 m3
      rw [way_up ha hi hj] at hw
      have hp : getM (heightsF a) i j + 2 ≤ getM (heightsF b) i j := by
        rw [ht_get ha hi hj, ht_get hb hi hj]; unfold htC; omega
      by_cases c1 : getM (heightsF a) (i - 1) j = getM (heightsF a) i j + 1
      · by_cases c2 : getM (heightsF a) (i + 1) j = getM (heightsF a) i j + 1
        · by_cases c3 : getM (heightsF a) i (j - 1) = getM (heightsF a) i j + 1
          · exact ih i (j + 1) hi (by omega) (by omega) ((ht_lt ha hb hi (by omega)).1 (by omega))
          · exact ih i (j - 1) hi (by omega) (by omega) ((ht_lt ha hb hi (by omega)).1 (by omega))
        · exact ih (i + 1) j (by omega) hj (by omega) ((ht_lt ha hb (by omega) hj).1 (by omega))
      · exact ih (i - 1) j (by omega) hj (by omega) ((ht_lt ha hb (by omega) hj).1 (by omega))
theorem dn_exists {n : Nat} {a b : List (List Int)} (ha : Good n a) (hb : Good n b) : ∀ (k i j : Nat), i ≤ n → j ≤ n → 6 ≤ getM (heightsF a) i j + k → Cn a i j < Cn b i j → ∃ i j, 1 ≤ i ∧ i < n ∧ 1 ≤ j ∧ j < n ∧ Cn a i j < Cn b i j ∧ heWayF (heightsF a) i j = -1 := by
  intro k
  induction k with
  | zero =>
    intro i j hi hj hk hlt
    obtain ⟨q1, q2, q3, q4⟩ := inner ha hb hi hj (by omega)
    have n1 := ht_dn ha (i := i - 1) (j := j) (by omega) (by omega)
    have b1 := ht_bound ha (i := i - 1) (j := j) (by omega) (by omega)
    have n2 := ht_dn ha (i := i) (j := j) (by omega) (by omega)
    have b2 := ht_bound ha (i := i + 1) (j := j) (by omega) (by omega)
    have n3 := ht_rt ha (i := i) (j := j - 1) (by omega) (by omega)
    have b3 := ht_bound ha (i := i) (j := j - 1) (by omega) (by omega)
    have n4 := ht_rt ha (i := i) (j := j) (by omega) (by omega)
    have b4 := ht_bound ha (i := i) (j := j + 1) (by omega) (by omega)
    rw [show i - 1 + 1 = i by omega] at n1
    rw [show j - 1 + 1 = j by omega] at n3
    exact ⟨i, j, q1, q2, q3, q4, hlt, (way_dn ha hi hj).2 (by omega)⟩
  | succ k ih =>
    intro i j hi hj hk hlt
    obtain ⟨q1, q2, q3, q4⟩ := inner ha hb hi hj (by omega)
    by_cases hw : heWayF (heightsF a) i j = -1
    · exact ⟨i, j, q1, q2, q3, q4, hlt, hw⟩
    · have n1 := ht_dn ha (i := i - 1) (j := j) (by omega) (by omega)
      have n2 := ht_dn ha (i := i) (j := j) (by omega) (by omega)
      have n3 := ht_rt ha (i := i) (j := j - 1) (by omega) (by omega)
      have n4 := ht_rt ha (i := i) (j := j) (by omega) (by omega)
      have m1 := ht_dn hb (i := i - 1) (j := j) (by omega) (by omega)
      have m2 := ht_dn hb (i := i) (j := j) (by omega) (by omega)
      have m3 := ht_rt hb (i := i) (j := j - 1) (by omega) (by omega)
      have m4 := ht_rt hb (i := i) (j := j) (by omega) (by omega)
      rw [show i - 1 + 1 = i by omega] at n1 m1
      rw [show j - 1 + 1 = j by omega] at n3 m3
      rw [way_dn ha hi hj] at hw
      have hp : getM (heightsF b) i j + 2 ≤ getM (heightsF a) i j := by
        rw [ht_get ha hi hj, ht_get hb hi hj]; unfold htC; omega
      by_cases c1 : getM (heightsF a) (i - 1) j = getM (heightsF a) i j - 1
      · by_cases c2 : getM (heightsF a) (i + 1) j = getM (heightsF a) i j - 1
        · by_cases c3 : getM (heightsF a) i (j - 1) = getM (heightsF a) i j - 1
          · exact ih i (j + 1) hi (by omega) (by omega) ((ht_lt hb ha hi (by omega)).1 (by omega))
          · exact ih i (j - 1) hi (by omega) (by omega) ((ht_lt hb ha hi (by omega)).1 (by omega))
        · exact ih (i + 1) j (by omega) hj (by omega) ((ht_lt hb ha (by omega) hj).1 (by omega))
      · exact ih (i - 1) j (by omega) hj (by omega) ((ht_lt hb ha (by omega) hj).1 (by omega))

/-! ### Lists of cells -/
theorem row_mem {p : Nat → Bool} {i j : Nat} (hp : p j = true) : ∀ {m j0 : Nat}, j0 ≤ j → j < j0 + m → [(i : Int), (j : Int)] ∈ cellsRow p i j0 m
  | 0, j0, h1, h2 => by omega
  | m + 1, j0, h1, h2 => by
    simp only [cellsRow, List.mem_append]
    by_cases h : j0 = j
    · subst h; left; rw [if_pos hp]; simp
    · right; exact row_mem hp (by omega) (by omega)
theorem from_mem {p : Nat → Nat → Bool} {n i j : Nat} (hp : p i j = true) (hj1 : 1 ≤ j) (hj : j ≤ n) : ∀ {m i0 : Nat}, i0 ≤ i → i < i0 + m → [(i : Int), (j : Int)] ∈ cellsFrom p n i0 m
  | 0, i0, h1, h2 => by omega
  | m + 1, i0, h1, h2 => by
    simp only [cellsFrom, List.mem_append]
    by_cases h : i0 = i
    · subst h; left; exact row_mem hp hj1 (by omega)
    · right; exact from_mem hp hj1 hj (by omega) (by omega)
theorem cells_mem {p : Nat → Nat → Bool} {n i j : Nat} (hp : p i j = true) (hi1 : 1 ≤ i) (hi : i ≤ n) (hj1 : 1 ≤ j) (hj : j ≤ n) : [(i : Int), (j : Int)] ∈ cellsF p n := from_mem hp hj1 hj hi1 (by omega)
theorem row_congr {p q : Nat → Bool} {i : Nat} : ∀ {m j0 : Nat}, (∀ j, j0 ≤ j → j < j0 + m → p j = q j) → cellsRow p i j0 m = cellsRow q i j0 m
  | 0, j0, h => rfl
  | m + 1, j0, h => by rw [cellsRow, cellsRow, h j0 (by omega) (by omega), row_congr (m := m) fun j h1 h2 => h j (by omega) (by omega)]
theorem from_congr {p q : Nat → Nat → Bool} {n : Nat} : ∀ {m i0 : Nat}, (∀ i j, i0 ≤ i → i < i0 + m → 1 ≤ j → j ≤ n → p i j = q i j) → cellsFrom p n i0 m = cellsFrom q n i0 m
  | 0, i0, h => rfl
  | m + 1, i0, h => by rw [cellsFrom, cellsFrom, row_congr (q := q i0) fun j h1 h2 => h i0 j (by omega) (by omega) h1 (by omega), from_congr (m := m) fun i j h1 h2 => h i j (by omega) (by omega)]
theorem cells_congr {p q : Nat → Nat → Bool} {n : Nat} (h : ∀ i j, 1 ≤ i → i ≤ n → 1 ≤ j → j ≤ n → p i j = q i j) : cellsF p n = cellsF q n := from_congr fun i j h1 h2 => h i j h1 (by omega)
/-- What a cell says. -/
def onCell (q : Nat → Nat → Bool) (c : List Int) : Bool := q (c.getD 0 0).toNat (c.getD 1 0).toNat
theorem row_filter {p : Nat → Bool} {q : Nat → Nat → Bool} {i : Nat} : ∀ {m j0 : Nat}, (cellsRow p i j0 m).filter (onCell q) = cellsRow (fun j => p j && q i j) i j0 m
  | 0, j0 => rfl
  | m + 1, j0 => by
    rw [cellsRow, cellsRow, List.filter_append, row_filter]
    congr 1
    cases hp : p j0 with
    | false => rfl
    | true =>
      simp only [if_true, Bool.true_and, List.filter_cons, List.filter_nil, onCell]
      rfl
theorem from_filter {p q : Nat → Nat → Bool} {n : Nat} : ∀ {m i0 : Nat}, (cellsFrom p n i0 m).filter (onCell q) = cellsFrom (fun i j => p i j && q i j) n i0 m
  | 0, i0 => rfl
  | m + 1, i0 => by rw [cellsFrom, cellsFrom, List.filter_append, row_filter, from_filter]
theorem cells_filter {p q : Nat → Nat → Bool} {n : Nat} : (cellsF p n).filter (onCell q) = cellsF (fun i j => p i j && q i j) n := from_filter

/-! ### Paths -/
def ups (n : Nat) (a b : List (List Int)) : List (List Int) := cellsF (fun i j => decide (heWayF (heightsF a) i j = 1) && decide (getM (heightsF a) i j < getM (heightsF b) i j)) (n - 1)
def dns (n : Nat) (a b : List (List Int)) : List (List Int) := cellsF (fun i j => decide (heWayF (heightsF a) i j = -1) && decide (getM (heightsF b) i j < getM (heightsF a) i j)) (n - 1)
def flipL (m : List (List Int)) (c : List Int) : List (List Int) := flipM m (c.getD 0 0).toNat (c.getD 1 0).toNat
def pathM (n : Nat) (b : List (List Int)) : Nat → List (List Int) → List (List Int)
  | 0, _ => []
  | f + 1, a => match ups n a b ++ dns n a b with
    | [] => []
    | c :: _ => c :: pathM n b f (flipL a c)
/-- A cell that is nearer. -/
def Step (n : Nat) (a b : List (List Int)) (c : List Int) : Prop := ∃ i j : Nat, c = [(i : Int), (j : Int)] ∧ 1 ≤ i ∧ i < n ∧ 1 ≤ j ∧ j < n ∧ heWayF (heightsF a) i j ≠ 0 ∧ distM n (flipM a i j) b + 1 = distM n a b ∧ Good n (flipM a i j)
theorem mem_cellsRow' {p : Nat → Bool} {i : Nat} {c : List Int} : ∀ {m j : Nat}, c ∈ cellsRow p i j m → ∃ j' : Nat, j ≤ j' ∧ j' < j + m ∧ p j' = true ∧ c = [(i : Int), (j' : Int)]
  | 0, j, h => by simp [cellsRow] at h
  | m + 1, j, h => by
    simp only [cellsRow, List.mem_append] at h
    rcases h with h | h
    · split at h
      · rename_i hp
        simp at h; exact ⟨j, by omega, by omega, hp, h⟩
      · simp at h
    · obtain ⟨j', h1, h2, h3, h4⟩ := mem_cellsRow' h
      exact ⟨j', by omega, by omega, h3, h4⟩
theorem mem_cellsFrom' {p : Nat → Nat → Bool} {n : Nat} {c : List Int} : ∀ {m i : Nat}, c ∈ cellsFrom p n i m → ∃ i' j' : Nat, i ≤ i' ∧ i' < i + m ∧ 1 ≤ j' ∧ j' ≤ n ∧ p i' j' = true ∧ c = [(i' : Int), (j' : Int)]
  | 0, i, h => by simp [cellsFrom] at h
  | m + 1, i, h => by
    simp only [cellsFrom, List.mem_append] at h
    rcases h with h | h
    · obtain ⟨j', h1, h2, h3, h4⟩ := mem_cellsRow' h
      exact ⟨i, j', by omega, by omega, by omega, by omega, h3, h4⟩
    · obtain ⟨i', j', h1, h2, h3⟩ := mem_cellsFrom' h
      exact ⟨i', j', by omega, by omega, h3⟩
theorem step_up {n : Nat} {a b : List (List Int)} (ha : Good n a) (hb : Good n b) {c : List Int} (h : c ∈ ups n a b) : Step n a b c := by
  obtain ⟨i, j, h1, h2, h3, h4, h5, rfl⟩ := mem_cellsFrom' h
  simp only [Bool.and_eq_true, decide_eq_true_eq] at h5
  have hn := ha.n1
  have hlt := (ht_lt ha hb (i := i) (j := j) (by omega) (by omega)).1 h5.2
  have hw : heWayF (heightsF a) i j ≠ 0 := by omega
  refine ⟨i, j, rfl, h1, by omega, h3, by omega, hw, ?_, flip_good ha h1 (by omega) h3 (by omega) hw⟩
  rw [dist_flip ha h1 (by omega) h3 (by omega) hw, h5.1]
  unfold ab; omega
theorem step_dn {n : Nat} {a b : List (List Int)} (ha : Good n a) (hb : Good n b) {c : List Int} (h : c ∈ dns n a b) : Step n a b c := by
  obtain ⟨i, j, h1, h2, h3, h4, h5, rfl⟩ := mem_cellsFrom' h
  simp only [Bool.and_eq_true, decide_eq_true_eq] at h5
  have hn := ha.n1
  have hlt := (ht_lt hb ha (i := i) (j := j) (by omega) (by omega)).1 h5.2
  have hw : heWayF (heightsF a) i j ≠ 0 := by omega
  refine ⟨i, j, rfl, h1, by omega, h3, by omega, hw, ?_, flip_good ha h1 (by omega) h3 (by omega) hw⟩
  rw [dist_flip ha h1 (by omega) h3 (by omega) hw, h5.1]
  unfold ab; omega
theorem next_exists {n : Nat} {a b : List (List Int)} (ha : Good n a) (hb : Good n b) (hne : a ≠ b) : ups n a b ++ dns n a b ≠ [] := by
  intro he
  rw [List.append_eq_nil_iff] at he
  have hn := ha.n1
  have h1 : ∀ i j, i ≤ n → j ≤ n → ¬ Cn b i j < Cn a i j := by
    intro i j hi hj hlt
    obtain ⟨i, j, q1, q2, q3, q4, q5, q6⟩ := up_exists ha hb _ i j hi hj (Int.self_le_toNat (getM (heightsF a) i j)) hlt
    have : [(i : Int), (j : Int)] ∈ ups n a b := cells_mem (by rw [decide_eq_true q6, decide_eq_true ((ht_lt ha hb (by omega) (by omega)).2 q5)]; rfl) q1 (by omega) q3 (by omega)
    rw [he.1] at this; cases this
  have h2 : ∀ i j, i ≤ n → j ≤ n → ¬ Cn a i j < Cn b i j := by
    intro i j hi hj hlt
    obtain ⟨i, j, q1, q2, q3, q4, q5, q6⟩ := dn_exists ha hb 6 i j hi hj (by have := ht_bound ha hi hj; omega) hlt
    have : [(i : Int), (j : Int)] ∈ dns n a b := cells_mem (by rw [decide_eq_true q6, decide_eq_true ((ht_lt hb ha (by omega) (by omega)).2 q5)]; rfl) q1 (by omega) q3 (by omega)
    rw [he.2] at this; cases this
  apply hne
  rw [ha.of, hb.of]
  exact ofC_congr fun i j hi hj => by have := h1 i j hi hj; have := h2 i j hi hj; omega
theorem path_len {n : Nat} {b : List (List Int)} (hb : Good n b) : ∀ (d : Nat) (a : List (List Int)), Good n a → distM n a b = d → (pathM n b d a).length = d
  | 0, a, _, _ => rfl
  | d + 1, a, ha, hd => by
    have hne : a ≠ b := fun e => by subst e; rw [dist_self] at hd; omega
    have hx := next_exists ha hb hne
    rw [pathM]
    cases hc : ups n a b ++ dns n a b with
    | nil => exact absurd hc hx
    | cons c l =>
      have hs : Step n a b c := by
        have : c ∈ ups n a b ++ dns n a b := by rw [hc]; simp
        rcases List.mem_append.1 this with h | h
        · exact step_up ha hb h
        · exact step_dn ha hb h
      obtain ⟨i, j, rfl, h1, h2, h3, h4, h5, h6, h7⟩ := hs
      have e : flipL a [(i : Int), (j : Int)] = flipM a i j := rfl
      simp only [List.length_cons]
      rw [e, path_len hb d _ h7 (by omega)]
theorem path_step {n : Nat} {a b : List (List Int)} (ha : Good n a) (hb : Good n b) {d : Nat} (hd : distM n a b = (d + 1 : Nat)) : ∃ (i j : Nat) (l : List (List Int)), ups n a b ++ dns n a b = [(i : Int), (j : Int)] :: l ∧ 1 ≤ i ∧ i < n ∧ 1 ≤ j ∧ j < n ∧ heWayF (heightsF a) i j ≠ 0 ∧ distM n (flipM a i j) b = d ∧ Good n (flipM a i j) ∧ pathM n b (d + 1) a = [(i : Int), (j : Int)] :: pathM n b d (flipM a i j) := by
  have hne : a ≠ b := fun e => by subst e; rw [dist_self] at hd; omega
  have hx := next_exists ha hb hne
  rw [pathM]
  cases hc : ups n a b ++ dns n a b with
  | nil => exact absurd hc hx
  | cons c l =>
    have hs : Step n a b c := by
      have : c ∈ ups n a b ++ dns n a b := by rw [hc]; simp
      rcases List.mem_append.1 this with h | h
      · exact step_up ha hb h
      · exact step_dn ha hb h
    obtain ⟨i, j, rfl, h1, h2, h3, h4, h5, h6, h7⟩ := hs
    exact ⟨i, j, l, rfl, h1, h2, h3, h4, h5, by omega, h7, rfl⟩

/-! ### Following cells -/
def isCellB (n : Nat) (c : List Int) : Bool := decide (c.length = 2) && (decide (1 ≤ c.getD 0 0 ∧ c.getD 0 0 ≤ (n : Int) - 1) && decide (1 ≤ c.getD 1 0 ∧ c.getD 1 0 ≤ (n : Int) - 1))
theorem isCell_mk {n i j : Nat} (h1 : 1 ≤ i) (h2 : i < n) (h3 : 1 ≤ j) (h4 : j < n) : isCellB n [(i : Int), (j : Int)] = true := by
  have q1 : (1 ≤ (i : Int) ∧ (i : Int) ≤ (n : Int) - 1) := by omega
  have q2 : (1 ≤ (j : Int) ∧ (j : Int) ≤ (n : Int) - 1) := by omega
  show (decide (2 = 2) && (decide (1 ≤ (i : Int) ∧ (i : Int) ≤ (n : Int) - 1) && decide (1 ≤ (j : Int) ∧ (j : Int) ≤ (n : Int) - 1))) = true
  rw [decide_eq_true q1, decide_eq_true q2]; rfl
def followM (n : Nat) : List (List Int) → List (List Int) → Option (List (List Int))
  | m, [] => some m
  | m, c :: p => if isCellB n c = true ∧ heWayF (heightsF m) (c.getD 0 0).toNat (c.getD 1 0).toNat ≠ 0 then followM n (flipL m c) p else none
theorem follow_path {n : Nat} {b : List (List Int)} (hb : Good n b) : ∀ (d : Nat) (a : List (List Int)), Good n a → distM n a b = d → followM n a (pathM n b d a) = some b
  | 0, a, ha, hd => by
    have := dist_zero ha hb hd
    subst this; rfl
  | d + 1, a, ha, hd => by
    obtain ⟨i, j, l, _, h1, h2, h3, h4, h5, h6, h7, h8⟩ := path_step ha hb hd
    rw [h8, followM, if_pos]
    · exact follow_path hb d _ h7 h6
    · exact ⟨isCell_mk h1 h2 h3 h4, h5⟩
theorem path_cells {n : Nat} {b : List (List Int)} (hb : Good n b) : ∀ (d : Nat) (a : List (List Int)), Good n a → distM n a b = d → ∀ c ∈ pathM n b d a, isCellB n c = true
  | 0, a, ha, hd => by intro c hc; cases hc
  | d + 1, a, ha, hd => by
    obtain ⟨i, j, l, _, h1, h2, h3, h4, h5, h6, h7, h8⟩ := path_step ha hb hd
    rw [h8]
    intro c hc
    rcases List.mem_cons.1 hc with rfl | hc
    · exact isCell_mk h1 h2 h3 h4
    · exact path_cells hb d _ h7 h6 c hc

end Go.Proofs.Ytccioplhchmilaa.AL

set_option linter.unusedVariables false
set_option maxRecDepth 100000
namespace Go.Proofs.Ytccioplhchmilaa.AL
open Go Go.Proofs

/-! slices.Min[[]int,int] (slots: 0 x, 1 x, 3 m, 4 i) -/
namespace slices_Min_T1_int
def lv : List (Nat × List Nat) := [(5, [0, 3, 4])]
noncomputable def K5 : List KF := [.lp (cB (cB (cR (cL (cR (cR (cR (bodyOf Try.f112)))))))), .bl 0, .sq (cR (cR (cR (cR (bodyOf Try.f112)))))]
def L5 (Q : AVal → Heap → Prop) (v0 v3 v4 : AVal) (H : Heap) : Prop := At Try.prog 112 25 K5 Q (slotsOf [(0, v0), (3, v3), (4, v4)]) H
theorem L5_frz {Q : AVal → Heap → Prop} {v0 v3 v4 w0 w3 w4 : AVal} {H Hf Hk : Heap} {k : Nat} (hs : Split H Hf Hk) (hp : PurL Hf k [(0, v0, w0), (3, v3, w3), (4, v4, w4)]) (h : L5 Q w0 w3 w4 Hk) : L5 Q v0 v3 v4 H := at_frz (ks := K5) hs hp h
def start_vc (Q : AVal → Heap → Prop) (a0 : AVal) (H : Heap) : Prop :=
 LENK a0 fun x1 =>
 BINK .lss x1 (AVal.int .i64 1) fun x2 =>
 BRK x2 (False) (TT ∧ IXK 1 a0 (AVal.int .i64 0) fun x3 =>
 TT ∧ TT ∧ LDK false 1 H x3 fun x4 =>
 slices_Min_T1_int.L5 Q a0 x4 (AVal.int .i64 1) H)
theorem start_eq (Q : AVal → Heap → Prop) (a0 : AVal) (H : Heap) : vs Try.prog lv 112 25 Try.f112.results.toList Q true 1000 [.sq (bodyOf Try.f112)] (entry [a0]) H = start_vc Q a0 H := by kernel_rfl
theorem start {Q : AVal → Heap → Prop} {a0 : AVal} {H : Heap} (h : start_vc Q a0 H) : ACalls Try.prog 112 [a0] H Q := acalls_vs (lv := lv) mixed Try.func112 rfl (by kernel_rfl) (by kernel_rfl) (start_eq Q a0 H ▸ h)
def step5_vc (Q : AVal → Heap → Prop) (v0 v3 v4 : AVal) (H : Heap) : Prop :=
 LENK v0 fun x1 =>
 BINK .lss v4 x1 fun x2 =>
 BRK x2 (TT ∧ IXK 1 v0 v4 fun x3 =>
 TT ∧ TT ∧ LDK false 1 H x3 fun x4 =>
 MMK false [v3, x4] fun x5 =>
 BINK .add v4 (AVal.int .i64 1) fun x6 =>
 slices_Min_T1_int.L5 Q v0 x5 x6 H) (Q v3 H)
theorem step5_eq (Q : AVal → Heap → Prop) (v0 v3 v4 : AVal) (H : Heap) : vs Try.prog lv 112 25 Try.f112.results.toList Q true 1000 (.sq (cB (cB (cR (cL (cR (cR (cR (bodyOf Try.f112)))))))) :: K5) (slotsOf [(0, v0), (3, v3), (4, v4)]) H = step5_vc Q v0 v3 v4 H := by kernel_rfl
theorem step5 {Q : AVal → Heap → Prop} {v0 v3 v4 : AVal} {H : Heap} (h : step5_vc Q v0 v3 v4 H) : L5 Q v0 v3 v4 H := at_lp_vs (lv := lv) (ks := K5.tail) mixed Try.func112 (step5_eq Q v0 v3 v4 H ▸ h)
end slices_Min_T1_int

/-! slices.Max[[]int,int] (slots: 0 x, 1 x, 3 m, 4 i) -/
namespace slices_Max_T1_int
def lv : List (Nat × List Nat) := [(5, [0, 3, 4])]
noncomputable def K5 : List KF := [.lp (cB (cB (cR (cL (cR (cR (cR (bodyOf Try.f113)))))))), .bl 0, .sq (cR (cR (cR (cR (bodyOf Try.f113)))))]
def L5 (Q : AVal → Heap → Prop) (v0 v3 v4 : AVal) (H : Heap) : Prop := At Try.prog 113 25 K5 Q (slotsOf [(0, v0), (3, v3), (4, v4)]) H
theorem L5_frz {Q : AVal → Heap → Prop} {v0 v3 v4 w0 w3 w4 : AVal} {H Hf Hk : Heap} {k : Nat} (hs : Split H Hf Hk) (hp : PurL Hf k [(0, v0, w0), (3, v3, w3), (4, v4, w4)]) (h : L5 Q w0 w3 w4 Hk) : L5 Q v0 v3 v4 H := at_frz (ks := K5) hs hp h
def start_vc (Q : AVal → Heap → Prop) (a0 : AVal) (H : Heap) : Prop :=
 LENK a0 fun x1 =>
 BINK .lss x1 (AVal.int .i64 1) fun x2 =>
 BRK x2 (False) (TT ∧ IXK 1 a0 (AVal.int .i64 0) fun x3 =>
 TT ∧ TT ∧ LDK false 1 H x3 fun x4 =>
 slices_Max_T1_int.L5 Q a0 x4 (AVal.int .i64 1) H)
theorem start_eq (Q : AVal → Heap → Prop) (a0 : AVal) (H : Heap) : vs Try.prog lv 113 25 Try.f113.results.toList Q true 1000 [.sq (bodyOf Try.f113)] (entry [a0]) H = start_vc Q a0 H := by kernel_rfl
theorem start {Q : AVal → Heap → Prop} {a0 : AVal} {H : Heap} (h : start_vc Q a0 H) : ACalls Try.prog 113 [a0] H Q := acalls_vs (lv := lv) mixed Try.func113 rfl (by kernel_rfl) (by kernel_rfl) (start_eq Q a0 H ▸ h)
def step5_vc (Q : AVal → Heap → Prop) (v0 v3 v4 : AVal) (H : Heap) : Prop :=
 LENK v0 fun x1 =>
 BINK .lss v4 x1 fun x2 =>
 BRK x2 (TT ∧ IXK 1 v0 v4 fun x3 =>
 TT ∧ TT ∧ LDK false 1 H x3 fun x4 =>
 MMK true [v3, x4] fun x5 =>
 BINK .add v4 (AVal.int .i64 1) fun x6 =>
 slices_Max_T1_int.L5 Q v0 x5 x6 H) (Q v3 H)
theorem step5_eq (Q : AVal → Heap → Prop) (v0 v3 v4 : AVal) (H : Heap) : vs Try.prog lv 113 25 Try.f113.results.toList Q true 1000 (.sq (cB (cB (cR (cL (cR (cR (cR (bodyOf Try.f113)))))))) :: K5) (slotsOf [(0, v0), (3, v3), (4, v4)]) H = step5_vc Q v0 v3 v4 H := by kernel_rfl
theorem step5 {Q : AVal → Heap → Prop} {v0 v3 v4 : AVal} {H : Heap} (h : step5_vc Q v0 v3 v4 H) : L5 Q v0 v3 v4 H := at_lp_vs (lv := lv) (ks := K5.tail) mixed Try.func113 (step5_eq Q v0 v3 v4 H ▸ h)
end slices_Max_T1_int

/-! impl.way (slots: 0 h, 1 i, 2 j, 3 h, 4 i, 5 j, 7 around, 8 low, 9 high) -/
namespace impl_way
def lv : List (Nat × List Nat) := []
def start_vc (Q : AVal → Heap → Prop) (a0 a1 a2 : AVal) (H : Heap) : Prop :=
 TT ∧ BINK .sub a1 (AVal.int .i64 1) fun x1 =>
 TT ∧ IXK 1 a0 x1 fun x2 =>
 TT ∧ TT ∧ LDK false 1 H x2 fun x3 =>
 TT ∧ IXK 1 x3 a2 fun x4 =>
 TT ∧ TT ∧ LDK false 1 H x4 fun x5 =>
 TT ∧ IXK 1 a0 a1 fun x6 =>
 TT ∧ TT ∧ LDK false 1 H x6 fun x7 =>
 BINK .add a2 (AVal.int .i64 1) fun x8 =>
 TT ∧ IXK 1 x7 x8 fun x9 =>
 TT ∧ TT ∧ LDK false 1 H x9 fun x10 =>
 BINK .add a1 (AVal.int .i64 1) fun x11 =>
 TT ∧ IXK 1 a0 x11 fun x12 =>
 TT ∧ TT ∧ LDK false 1 H x12 fun x13 =>
 TT ∧ IXK 1 x13 a2 fun x14 =>
 TT ∧ TT ∧ LDK false 1 H x14 fun x15 =>
 TT ∧ IXK 1 a0 a1 fun x16 =>
 TT ∧ TT ∧ LDK false 1 H x16 fun x17 =>
 BINK .sub a2 (AVal.int .i64 1) fun x18 =>
 TT ∧ IXK 1 x17 x18 fun x19 =>
 TT ∧ TT ∧ LDK false 1 H x19 fun x20 =>
 TT ∧ TT ∧ TT ∧ allCells 1 [x5, x10, x15, x20] fun c21 =>
 ACalls Try.prog 112 [(AVal.sl true 4 c21)] H fun x22 H23 =>
 ACalls Try.prog 113 [(AVal.sl true 4 c21)] H23 fun x24 H25 =>
 BINK .neq x22 x24 fun x26 =>
 BRK x26 (Q (AVal.int .i64 0) H25) (TT ∧ IXK 1 a0 a1 fun x27 =>
 TT ∧ TT ∧ LDK false 1 H25 x27 fun x28 =>
 TT ∧ IXK 1 x28 a2 fun x29 =>
 TT ∧ TT ∧ LDK false 1 H25 x29 fun x30 =>
 BINK .sub x22 x30 fun x31 =>
 BINK .mul (AVal.int .i64 2) x31 fun x32 =>
 Q x32 H25)
theorem start_eq (Q : AVal → Heap → Prop) (a0 a1 a2 : AVal) (H : Heap) : vs Try.prog lv 60 60 Try.f60.results.toList Q true 1000 [.sq (bodyOf Try.f60)] (entry [a0, a1, a2]) H = start_vc Q a0 a1 a2 H := by kernel_rfl
theorem start {Q : AVal → Heap → Prop} {a0 a1 a2 : AVal} {H : Heap} (h : start_vc Q a0 a1 a2 H) : ACalls Try.prog 60 [a0, a1, a2] H Q := acalls_vs (lv := lv) mixed Try.func60 rfl (by kernel_rfl) (by kernel_rfl) (start_eq Q a0 a1 a2 H ▸ h)
end impl_way

/-! impl.cells (slots: 0 n, 1 accept, 2 n, 3 accept, 5 out, 6 i, 7 j) -/
namespace impl_cells
def lv : List (Nat × List Nat) := [(3, [0, 1, 5, 6]), (6, [0, 1, 5, 6, 7])]
noncomputable def K3 : List KF := [.lp (cB (cB (cR (cL (cR (cR (bodyOf Try.f78))))))), .bl 0, .sq (cR (cR (cR (bodyOf Try.f78))))]
def L3 (Q : AVal → Heap → Prop) (v0 v1 v5 v6 : AVal) (H : Heap) : Prop := At Try.prog 78 30 K3 Q (slotsOf [(0, v0), (1, v1), (5, v5), (6, v6)]) H
theorem L3_frz {Q : AVal → Heap → Prop} {v0 v1 v5 v6 w0 w1 w5 w6 : AVal} {H Hf Hk : Heap} {k : Nat} (hs : Split H Hf Hk) (hp : PurL Hf k [(0, v0, w0), (1, v1, w1), (5, v5, w5), (6, v6, w6)]) (h : L3 Q w0 w1 w5 w6 Hk) : L3 Q v0 v1 v5 v6 H := at_frz (ks := K3) hs hp h
noncomputable def K6 : List KF := [.lp (cB (cB (cR (cB (cL (cR (cB (cB (cR (cL (cR (cR (bodyOf Try.f78))))))))))))), .bl 2, .bl 1, .sq (cR (cR (cB (cB (cR (cL (cR (cR (bodyOf Try.f78))))))))), .lp (cB (cB (cR (cL (cR (cR (bodyOf Try.f78))))))), .bl 0, .sq (cR (cR (cR (bodyOf Try.f78))))]
def L6 (Q : AVal → Heap → Prop) (v0 v1 v5 v6 v7 : AVal) (H : Heap) : Prop := At Try.prog 78 30 K6 Q (slotsOf [(0, v0), (1, v1), (5, v5), (6, v6), (7, v7)]) H
theorem L6_frz {Q : AVal → Heap → Prop} {v0 v1 v5 v6 v7 w0 w1 w5 w6 w7 : AVal} {H Hf Hk : Heap} {k : Nat} (hs : Split H Hf Hk) (hp : PurL Hf k [(0, v0, w0), (1, v1, w1), (5, v5, w5), (6, v6, w6), (7, v7, w7)]) (h : L6 Q w0 w1 w5 w6 w7 Hk) : L6 Q v0 v1 v5 v6 v7 H := at_frz (ks := K6) hs hp h
def start_vc (Q : AVal → Heap → Prop) (a0 a1 : AVal) (H : Heap) : Prop :=
 TT ∧ TT ∧ TT ∧ BSK 1 [] H fun x1 H2 =>
 impl_cells.L3 Q a0 a1 x1 (AVal.int .i64 1) H2
theorem start_eq (Q : AVal → Heap → Prop) (a0 a1 : AVal) (H : Heap) : vs Try.prog lv 78 30 Try.f78.results.toList Q true 1000 [.sq (bodyOf Try.f78)] (entry [a0, a1]) H = start_vc Q a0 a1 H := by kernel_rfl
theorem start {Q : AVal → Heap → Prop} {a0 a1 : AVal} {H : Heap} (h : start_vc Q a0 a1 H) : ACalls Try.prog 78 [a0, a1] H Q := acalls_vs (lv := lv) mixed Try.func78 rfl (by kernel_rfl) (by kernel_rfl) (start_eq Q a0 a1 H ▸ h)
def step3_vc (Q : AVal → Heap → Prop) (v0 v1 v5 v6 : AVal) (H : Heap) : Prop :=
 BINK .lss v6 v0 fun x1 =>
 BRK x1 (impl_cells.L6 Q v0 v1 v5 v6 (AVal.int .i64 1) H) (Q v5 H)
theorem step3_eq (Q : AVal → Heap → Prop) (v0 v1 v5 v6 : AVal) (H : Heap) : vs Try.prog lv 78 30 Try.f78.results.toList Q true 1000 (.sq (cB (cB (cR (cL (cR (cR (bodyOf Try.f78))))))) :: K3) (slotsOf [(0, v0), (1, v1), (5, v5), (6, v6)]) H = step3_vc Q v0 v1 v5 v6 H := by kernel_rfl
theorem step3 {Q : AVal → Heap → Prop} {v0 v1 v5 v6 : AVal} {H : Heap} (h : step3_vc Q v0 v1 v5 v6 H) : L3 Q v0 v1 v5 v6 H := at_lp_vs (lv := lv) (ks := K3.tail) mixed Try.func78 (step3_eq Q v0 v1 v5 v6 H ▸ h)
def step6_vc (Q : AVal → Heap → Prop) (v0 v1 v5 v6 v7 : AVal) (H : Heap) : Prop :=
 BINK .lss v7 v0 fun x1 =>
 BRK x1 (CALLK Try.prog v1 [v6, v7] H fun x2 H3 =>
 BRK x2 (TT ∧ TT ∧ TT ∧ BSK 1 [v6, v7] H3 fun x4 H5 =>
 TT ∧ TT ∧ TT ∧ BSK 1 [x4] H5 fun x6 H7 =>
 TT ∧ TT ∧ APK 1 H7 v5 x6 fun x8 H9 =>
 BINK .add v7 (AVal.int .i64 1) fun x10 =>
 impl_cells.L6 Q v0 v1 x8 v6 x10 H9) (BINK .add v7 (AVal.int .i64 1) fun x11 =>
 impl_cells.L6 Q v0 v1 v5 v6 x11 H3)) (BINK .add v6 (AVal.int .i64 1) fun x12 =>
 impl_cells.L3 Q v0 v1 v5 x12 H)
theorem step6_eq (Q : AVal → Heap → Prop) (v0 v1 v5 v6 v7 : AVal) (H : Heap) : vs Try.prog lv 78 30 Try.f78.results.toList Q true 1000 (.sq (cB (cB (cR (cB (cL (cR (cB (cB (cR (cL (cR (cR (bodyOf Try.f78))))))))))))) :: K6) (slotsOf [(0, v0), (1, v1), (5, v5), (6, v6), (7, v7)]) H = step6_vc Q v0 v1 v5 v6 v7 H := by kernel_rfl
theorem step6 {Q : AVal → Heap → Prop} {v0 v1 v5 v6 v7 : AVal} {H : Heap} (h : step6_vc Q v0 v1 v5 v6 v7 H) : L6 Q v0 v1 v5 v6 v7 H := at_lp_vs (lv := lv) (ks := K6.tail) mixed Try.func78 (step6_eq Q v0 v1 v5 v6 v7 H ▸ h)
end impl_cells

/-! impl.flips (slots: 0 m, 1 up, 2 m, 3 up, 5 h) -/
namespace impl_flips
def lv : List (Nat × List Nat) := []
def start_vc (Q : AVal → Heap → Prop) (a0 a1 : AVal) (H : Heap) : Prop :=
 BOXK a1 H fun x1 H2 =>
 ACalls Try.prog 56 [a0] H2 fun x3 H4 =>
 TT ∧ BOXK AVal.nilS H4 fun x5 H6 =>
 TT ∧ STK 1 H6 x5 x3 fun H7 =>
 LENK a0 fun x8 =>
 ACalls Try.prog 78 [x8, (AVal.fn 132 [] [x5, x1])] H7 fun x9 H10 =>
 Q x9 H10
theorem start_eq (Q : AVal → Heap → Prop) (a0 a1 : AVal) (H : Heap) : vs Try.prog lv 92 12 Try.f92.results.toList Q true 1000 [.sq (bodyOf Try.f92)] (entry [a0, a1]) H = start_vc Q a0 a1 H := by kernel_rfl
theorem start {Q : AVal → Heap → Prop} {a0 a1 : AVal} {H : Heap} (h : start_vc Q a0 a1 H) : ACalls Try.prog 92 [a0, a1] H Q := acalls_vs (lv := lv) mixed Try.func92 rfl (by kernel_rfl) (by kernel_rfl) (start_eq Q a0 a1 H ▸ h)
end impl_flips

/-! impl.flips$1 (slots: 0 i, 1 j, 4 i, 5 j) -/
namespace impl_flips_1
def lv : List (Nat × List Nat) := []
def start_vc (Q : AVal → Heap → Prop) (a0 a1 a2 a3 : AVal) (H : Heap) : Prop :=
 TT ∧ TT ∧ TT ∧ LDK false 1 H a2 fun x1 =>
 ACalls Try.prog 60 [x1, a0, a1] H fun x2 H3 =>
 BINK .neq x2 (AVal.int .i64 0) fun x4 =>
 SPL x4 (TT ∧ TT ∧ LDK false 1 H3 a2 fun x5 =>
 TT ∧ TT ∧ LDK false 1 H3 a3 fun x6 =>
 ACalls Try.prog 60 [x5, a0, a1] H3 fun x7 H8 =>
 (TT ∧ TT ∧ LDK false 1 H8 a3 fun x9 =>
 x9 = x6) ∧
 BINK .gtr x7 (AVal.int .i64 0) fun x10 =>
 EQB .eql x10 x6 fun x11 =>
 Q x11 H8) (((AVal.tup []) = (AVal.tup [])) ∧
 Q (AVal.bool false) H3)
theorem start_eq (Q : AVal → Heap → Prop) (a0 a1 a2 a3 : AVal) (H : Heap) : vs Try.prog lv 132 21 Try.f132.results.toList Q true 1000 [.sq (bodyOf Try.f132)] (entry [a0, a1, a2, a3]) H = start_vc Q a0 a1 a2 a3 H := by kernel_rfl
theorem start {Q : AVal → Heap → Prop} {a0 a1 a2 a3 : AVal} {H : Heap} (h : start_vc Q a0 a1 a2 a3 H) : ACalls Try.prog 132 [a0, a1, a2, a3] H Q := acalls_vs (lv := lv) mixed Try.func132 rfl (by kernel_rfl) (by kernel_rfl) (start_eq Q a0 a1 a2 a3 H ▸ h)
end impl_flips_1

/-! impl.FlipsOf (slots: 0 m, 1 up, 2 m, 3 up) -/
namespace impl_FlipsOf
def lv : List (Nat × List Nat) := []
def start_vc (Q : AVal → Heap → Prop) (a0 a1 : AVal) (H : Heap) : Prop :=
 ACalls Try.prog 40 [a0] H fun x1 H2 =>
 NOTK x1 fun x3 =>
 BRK x3 (Q (AVal.tup [AVal.nilS, (AVal.bool false)]) H2) (ACalls Try.prog 92 [a0, a1] H2 fun x4 H5 =>
 Q (AVal.tup [x4, (AVal.bool true)]) H5)
theorem start_eq (Q : AVal → Heap → Prop) (a0 a1 : AVal) (H : Heap) : vs Try.prog lv 39 12 Try.f39.results.toList Q true 1000 [.sq (bodyOf Try.f39)] (entry [a0, a1]) H = start_vc Q a0 a1 H := by kernel_rfl
theorem start {Q : AVal → Heap → Prop} {a0 a1 : AVal} {H : Heap} (h : start_vc Q a0 a1 H) : ACalls Try.prog 39 [a0, a1] H Q := acalls_vs (lv := lv) mixed Try.func39 rfl (by kernel_rfl) (by kernel_rfl) (start_eq Q a0 a1 H ▸ h)
end impl_FlipsOf

/-! impl.isCell (slots: 0 n, 1 i, 2 j, 3 n, 4 i, 5 j) -/
namespace impl_isCell
def lv : List (Nat × List Nat) := []
def start_vc (Q : AVal → Heap → Prop) (a0 a1 a2 : AVal) (H : Heap) : Prop :=
 BINK .sub a0 (AVal.int .i64 1) fun x1 =>
 ACalls Try.prog 102 [a1, (AVal.int .i64 1), x1] H fun x2 H3 =>
 SPL x2 (BINK .sub a0 (AVal.int .i64 1) fun x4 =>
 ACalls Try.prog 102 [a2, (AVal.int .i64 1), x4] H3 fun x5 H6 =>
 Q x5 H6) (Q (AVal.bool false) H3)
theorem start_eq (Q : AVal → Heap → Prop) (a0 a1 a2 : AVal) (H : Heap) : vs Try.prog lv 119 17 Try.f119.results.toList Q true 1000 [.sq (bodyOf Try.f119)] (entry [a0, a1, a2]) H = start_vc Q a0 a1 a2 H := by kernel_rfl
theorem start {Q : AVal → Heap → Prop} {a0 a1 a2 : AVal} {H : Heap} (h : start_vc Q a0 a1 a2 H) : ACalls Try.prog 119 [a0, a1, a2] H Q := acalls_vs (lv := lv) mixed Try.func119 rfl (by kernel_rfl) (by kernel_rfl) (start_eq Q a0 a1 a2 H ▸ h)
end impl_isCell

/-! impl.areCells (slots: 0 n, 1 list, 2 n, 3 list) -/
namespace impl_areCells
def lv : List (Nat × List Nat) := []
def start_vc (Q : AVal → Heap → Prop) (a0 a1 : AVal) (H : Heap) : Prop :=
 BOXK a0 H fun x1 H2 =>
 LENK a1 fun x3 =>
 BINK .leq x3 (AVal.int .i64 200) fun x4 =>
 SPL x4 (ACalls Try.prog 117 [a1, (AVal.fn 118 [] [x1])] H2 fun x5 H6 =>
 NOTK x5 fun x7 =>
 Q x7 H6) (Q (AVal.bool false) H2)
theorem start_eq (Q : AVal → Heap → Prop) (a0 a1 : AVal) (H : Heap) : vs Try.prog lv 66 14 Try.f66.results.toList Q true 1000 [.sq (bodyOf Try.f66)] (entry [a0, a1]) H = start_vc Q a0 a1 H := by kernel_rfl
theorem start {Q : AVal → Heap → Prop} {a0 a1 : AVal} {H : Heap} (h : start_vc Q a0 a1 H) : ACalls Try.prog 66 [a0, a1] H Q := acalls_vs (lv := lv) mixed Try.func66 rfl (by kernel_rfl) (by kernel_rfl) (start_eq Q a0 a1 H ▸ h)
end impl_areCells

/-! impl.areCells$1 (slots: 0 c, 2 c) -/
namespace impl_areCells_1
def lv : List (Nat × List Nat) := []
def start_vc (Q : AVal → Heap → Prop) (a0 a1 : AVal) (H : Heap) : Prop :=
 TT ∧ LENK a0 fun x1 =>
 BINK .neq x1 (AVal.int .i64 2) fun x2 =>
 SPL x2 (Q (AVal.bool true) H) (TT ∧ TT ∧ LDK false 1 H a1 fun x3 =>
 TT ∧ IXK 1 a0 (AVal.int .i64 0) fun x4 =>
 TT ∧ TT ∧ LDK false 1 H x4 fun x5 =>
 TT ∧ IXK 1 a0 (AVal.int .i64 1) fun x6 =>
 TT ∧ TT ∧ LDK false 1 H x6 fun x7 =>
 ACalls Try.prog 119 [x3, x5, x7] H fun x8 H9 =>
 NOTK x8 fun x10 =>
 Q x10 H9)
theorem start_eq (Q : AVal → Heap → Prop) (a0 a1 : AVal) (H : Heap) : vs Try.prog lv 118 18 Try.f118.results.toList Q true 1000 [.sq (bodyOf Try.f118)] (entry [a0, a1]) H = start_vc Q a0 a1 H := by kernel_rfl
theorem start {Q : AVal → Heap → Prop} {a0 a1 : AVal} {H : Heap} (h : start_vc Q a0 a1 H) : ACalls Try.prog 118 [a0, a1] H Q := acalls_vs (lv := lv) mixed Try.func118 rfl (by kernel_rfl) (by kernel_rfl) (start_eq Q a0 a1 H ▸ h)
end impl_areCells_1

/-! spec.FlipsOf (slots: 0 m, 1 up, 2 m, 3 up) -/
namespace spec_FlipsOf
def lv : List (Nat × List Nat) := []
def start_vc (Q : AVal → Heap → Prop) (a0 a1 : AVal) (H : Heap) : Prop :=
 ACalls Try.prog 53 [a0] H fun x1 H2 =>
 NOTK x1 fun x3 =>
 BRK x3 (Q (AVal.tup [AVal.nilS, (AVal.bool false)]) H2) (BRK a1 (ACalls Try.prog 61 [a0] H2 fun x4 H5 =>
 ACalls Try.prog 100 [x4, (AVal.int .i64 1)] H5 fun x6 H7 =>
 Q (AVal.tup [x6, (AVal.bool true)]) H7) (ACalls Try.prog 61 [a0] H2 fun x8 H9 =>
 ACalls Try.prog 100 [x8, (AVal.int .i64 (-1))] H9 fun x10 H11 =>
 Q (AVal.tup [x10, (AVal.bool true)]) H11))
theorem start_eq (Q : AVal → Heap → Prop) (a0 a1 : AVal) (H : Heap) : vs Try.prog lv 48 16 Try.f48.results.toList Q true 1000 [.sq (bodyOf Try.f48)] (entry [a0, a1]) H = start_vc Q a0 a1 H := by kernel_rfl
theorem start {Q : AVal → Heap → Prop} {a0 a1 : AVal} {H : Heap} (h : start_vc Q a0 a1 H) : ACalls Try.prog 48 [a0, a1] H Q := acalls_vs (lv := lv) mixed Try.func48 rfl (by kernel_rfl) (by kernel_rfl) (start_eq Q a0 a1 H ▸ h)
end spec_FlipsOf


theorem rMIN {a b : Int} {K : AVal → Prop} (h : K (I (min a b))) : MMK false [I a, I b] K := by
  show K (I (bif false then (if b > a then b else a) else (if b < a then b else a)))
  have : (bif false then (if b > a then b else a) else (if b < a then b else a)) = min a b := by simp only [cond_false]; split <;> omega
  rw [this]; exact h
theorem rMAX {a b : Int} {K : AVal → Prop} (h : K (I (max a b))) : MMK true [I a, I b] K := by
  show K (I (bif true then (if b > a then b else a) else (if b < a then b else a)))
  have : (bif true then (if b > a then b else a) else (if b < a then b else a)) = max a b := by simp only [cond_true]; split <;> omega
  rw [this]; exact h
section
variable {v : AVal} {H : Heap}
theorem min_loop {l : List Int} (hv : IsInts v l) (hl : l.length ≤ 1000000) {Q : AVal → Heap → Prop} : ∀ (n k : Nat) (x : Int), k + n = l.length → Q (I ((l.drop k).foldl min x)) H → slices_Min_T1_int.L5 Q v (I x) (I k) H := by
  intro n
  induction n with
  | zero =>
    intro k x hk hq
    apply slices_Min_T1_int.step5
    unfold slices_Min_T1_int.step5_vc
    repeat' (with_reducible first
 | refine rTT ?_
 | refine rRFL ?_
 | refine rLEN (by assumption) ?_
 | (refine rIXk (by assumption) (by assumption) ?_; intro p hp)
 | (refine rIX (by assumption) (by omega) (by omega) ?_; intro p a ha hp)
 | refine rLDi (by assumption) ?_
 | (refine rLD (by assumption) ?_; intro c hc)
 | refine rADD (by omega) ?_
 | refine rSUB (by omega) ?_
 | refine rLSS ?_
 | refine rLEQ ?_
 | refine rGTR ?_
 | refine rGEQ ?_
 | refine rEQL ?_
 | refine rNEQ ?_
 | refine rNOT ?_
 | (refine rBRK ?_ ?_ <;> intro hb)
 | (refine rBRKn ?_ ?_ <;> intro hb)
 | (refine rBRKnb ?_ ?_ <;> intro hb)
 | (refine rBRKb ?_ ?_ <;> intro hb)
 | (refine rSPL ?_ ?_ <;> intro hb)
 | (refine rSPLn ?_ ?_ <;> intro hb)
 | (refine rSPLnb ?_ ?_ <;> intro hb)
 | (refine rSPLb ?_ ?_ <;> intro hb)
 | (exfalso; omega))
    rw [List.drop_eq_nil_of_le (by omega)] at hq
    exact hq
  | succ n ih =>
    intro k x hk hq
    apply slices_Min_T1_int.step5
    unfold slices_Min_T1_int.step5_vc
    repeat' (with_reducible first
 | refine rTT ?_
 | refine rRFL ?_
 | refine rLEN (by assumption) ?_
 | (refine rIXk (by assumption) (by assumption) ?_; intro p hp)
 | (refine rIX (by assumption) (by omega) (by omega) ?_; intro p a ha hp)
 | refine rLDi (by assumption) ?_
 | (refine rLD (by assumption) ?_; intro c hc)
 | refine rADD (by omega) ?_
 | refine rSUB (by omega) ?_
 | refine rLSS ?_
 | refine rLEQ ?_
 | refine rGTR ?_
 | refine rGEQ ?_
 | refine rEQL ?_
 | refine rNEQ ?_
 | refine rNOT ?_
 | (refine rBRK ?_ ?_ <;> intro hb)
 | (refine rBRKn ?_ ?_ <;> intro hb)
 | (refine rBRKnb ?_ ?_ <;> intro hb)
 | (refine rBRKb ?_ ?_ <;> intro hb)
 | (refine rSPL ?_ ?_ <;> intro hb)
 | (refine rSPLn ?_ ?_ <;> intro hb)
 | (refine rSPLnb ?_ ?_ <;> intro hb)
 | (refine rSPLb ?_ ?_ <;> intro hb)
 | (exfalso; omega))
    rw [drop_someI ha] at hq
    refine rMIN ?_
    repeat' (with_reducible first
 | refine rTT ?_
 | refine rRFL ?_
 | refine rLEN (by assumption) ?_
 | (refine rIXk (by assumption) (by assumption) ?_; intro p hp)
 | (refine rIX (by assumption) (by omega) (by omega) ?_; intro p a ha hp)
 | refine rLDi (by assumption) ?_
 | (refine rLD (by assumption) ?_; intro c hc)
 | refine rADD (by omega) ?_
 | refine rSUB (by omega) ?_
 | refine rLSS ?_
 | refine rLEQ ?_
 | refine rGTR ?_
 | refine rGEQ ?_
 | refine rEQL ?_
 | refine rNEQ ?_
 | refine rNOT ?_
 | (refine rBRK ?_ ?_ <;> intro hb)
 | (refine rBRKn ?_ ?_ <;> intro hb)
 | (refine rBRKnb ?_ ?_ <;> intro hb)
 | (refine rBRKb ?_ ?_ <;> intro hb)
 | (refine rSPL ?_ ?_ <;> intro hb)
 | (refine rSPLn ?_ ?_ <;> intro hb)
 | (refine rSPLnb ?_ ?_ <;> intro hb)
 | (refine rSPLb ?_ ?_ <;> intro hb)
 | (exfalso; omega))
    exact ih (k + 1) _ (by omega) hq
theorem max_loop {l : List Int} (hv : IsInts v l) (hl : l.length ≤ 1000000) {Q : AVal → Heap → Prop} : ∀ (n k : Nat) (x : Int), k + n = l.length → Q (I ((l.drop k).foldl max x)) H → slices_Max_T1_int.L5 Q v (I x) (I k) H := by
  intro n
  induction n with
  | zero =>
    intro k x hk hq
    apply slices_Max_T1_int.step5
    unfold slices_Max_T1_int.step5_vc
    repeat' (with_reducible first
 | refine rTT ?_
 | refine rRFL ?_
 | refine rLEN (by assumption) ?_
 | (refine rIXk (by assumption) (by assumption) ?_; intro p hp)
 | (refine rIX (by assumption) (by omega) (by omega) ?_; intro p a ha hp)
 | refine rLDi (by assumption) ?_
 | (refine rLD (by assumption) ?_; intro c hc)
 | refine rADD (by omega) ?_
 | refine rSUB (by omega) ?_
 | refine rLSS ?_
 | refine rLEQ ?_
 | refine rGTR ?_
 | refine rGEQ ?_
 | refine rEQL ?_
 | refine rNEQ ?_
 | refine rNOT ?_
 | (refine rBRK ?_ ?_ <;> intro hb)
 | (refine rBRKn ?_ ?_ <;> intro hb)
 | (refine rBRKnb ?_ ?_ <;> intro hb)
 | (refine rBRKb ?_ ?_ <;> intro hb)
 | (refine rSPL ?_ ?_ <;> intro hb)
 | (refine rSPLn ?_ ?_ <;> intro hb)
 | (refine rSPLnb ?_ ?_ <;> intro hb)
 | (refine rSPLb ?_ ?_ <;> intro hb)
 | (exfalso; omega))
    rw [List.drop_eq_nil_of_le (by omega)] at hq
    exact hq
  | succ n ih =>
    intro k x hk hq
    apply slices_Max_T1_int.step5
    unfold slices_Max_T1_int.step5_vc
    repeat' (with_reducible first
 | refine rTT ?_
 | refine rRFL ?_
 | refine rLEN (by assumption) ?_
 | (refine rIXk (by assumption) (by assumption) ?_; intro p hp)
 | (refine rIX (by assumption) (by omega) (by omega) ?_; intro p a ha hp)
 | refine rLDi (by assumption) ?_
 | (refine rLD (by assumption) ?_; intro c hc)
 | refine rADD (by omega) ?_
 | refine rSUB (by omega) ?_
 | refine rLSS ?_
 | refine rLEQ ?_
 | refine rGTR ?_
 | refine rGEQ ?_
 | refine rEQL ?_
 | refine rNEQ ?_
 | refine rNOT ?_
 | (refine rBRK ?_ ?_ <;> intro hb)
 | (refine rBRKn ?_ ?_ <;> intro hb)
 | (refine rBRKnb ?_ ?_ <;> intro hb)
 | (refine rBRKb ?_ ?_ <;> intro hb)
 | (refine rSPL ?_ ?_ <;> intro hb)
 | (refine rSPLn ?_ ?_ <;> intro hb)
 | (refine rSPLnb ?_ ?_ <;> intro hb)
 | (refine rSPLb ?_ ?_ <;> intro hb)
 | (exfalso; omega))
    rw [drop_someI ha] at hq
    refine rMAX ?_
    repeat' (with_reducible first
 | refine rTT ?_
 | refine rRFL ?_
 | refine rLEN (by assumption) ?_
 | (refine rIXk (by assumption) (by assumption) ?_; intro p hp)
 | (refine rIX (by assumption) (by omega) (by omega) ?_; intro p a ha hp)
 | refine rLDi (by assumption) ?_
 | (refine rLD (by assumption) ?_; intro c hc)
 | refine rADD (by omega) ?_
 | refine rSUB (by omega) ?_
 | refine rLSS ?_
 | refine rLEQ ?_
 | refine rGTR ?_
 | refine rGEQ ?_
 | refine rEQL ?_
 | refine rNEQ ?_
 | refine rNOT ?_
 | (refine rBRK ?_ ?_ <;> intro hb)
 | (refine rBRKn ?_ ?_ <;> intro hb)
 | (refine rBRKnb ?_ ?_ <;> intro hb)
 | (refine rBRKb ?_ ?_ <;> intro hb)
 | (refine rSPL ?_ ?_ <;> intro hb)
 | (refine rSPLn ?_ ?_ <;> intro hb)
 | (refine rSPLnb ?_ ?_ <;> intro hb)
 | (refine rSPLb ?_ ?_ <;> intro hb)
 | (exfalso; omega))
    exact ih (k + 1) _ (by omega) hq
theorem sliceMin_ok {x : Int} {l : List Int} (hv : IsInts v (x :: l)) (hl : (x :: l).length ≤ 1000000) : ACalls Try.prog 112 [v] H fun r H' => r = I (l.foldl min x) ∧ H' = H := by
  apply slices_Min_T1_int.start
  unfold slices_Min_T1_int.start_vc
  have h0 : (x :: l)[0]? = some x := rfl
  have hl1 : (x :: l).length = l.length + 1 := rfl
  repeat' (first
 | (refine rIXk (i := 0) hv h0 ?_; intro p hp)
 | with_reducible first
 | refine rTT ?_
 | refine rRFL ?_
 | refine rLEN (by assumption) ?_
 | (refine rIXk (by assumption) (by assumption) ?_; intro p hp)
 | (refine rIX (by assumption) (by omega) (by omega) ?_; intro p a ha hp)
 | refine rLDi (by assumption) ?_
 | (refine rLD (by assumption) ?_; intro c hc)
 | refine rADD (by omega) ?_
 | refine rSUB (by omega) ?_
 | refine rLSS ?_
 | refine rLEQ ?_
 | refine rGTR ?_
 | refine rGEQ ?_
 | refine rEQL ?_
 | refine rNEQ ?_
 | refine rNOT ?_
 | (refine rBRK ?_ ?_ <;> intro hb)
 | (refine rBRKn ?_ ?_ <;> intro hb)
 | (refine rBRKnb ?_ ?_ <;> intro hb)
 | (refine rBRKb ?_ ?_ <;> intro hb)
 | (refine rSPL ?_ ?_ <;> intro hb)
 | (refine rSPLn ?_ ?_ <;> intro hb)
 | (refine rSPLnb ?_ ?_ <;> intro hb)
 | (refine rSPLb ?_ ?_ <;> intro hb)
 | (exfalso; omega))
  exact min_loop hv hl l.length 1 x (by omega) ⟨rfl, rfl⟩
theorem sliceMax_ok {x : Int} {l : List Int} (hv : IsInts v (x :: l)) (hl : (x :: l).length ≤ 1000000) : ACalls Try.prog 113 [v] H fun r H' => r = I (l.foldl max x) ∧ H' = H := by
  apply slices_Max_T1_int.start
  unfold slices_Max_T1_int.start_vc
  have h0 : (x :: l)[0]? = some x := rfl
  have hl1 : (x :: l).length = l.length + 1 := rfl
  repeat' (first
 | (refine rIXk (i := 0) hv h0 ?_; intro p hp)
 | with_reducible first
 | refine rTT ?_
 | refine rRFL ?_
 | refine rLEN (by assumption) ?_
 | (refine rIXk (by assumption) (by assumption) ?_; intro p hp)
 | (refine rIX (by assumption) (by omega) (by omega) ?_; intro p a ha hp)
 | refine rLDi (by assumption) ?_
 | (refine rLD (by assumption) ?_; intro c hc)
 | refine rADD (by omega) ?_
 | refine rSUB (by omega) ?_
 | refine rLSS ?_
 | refine rLEQ ?_
 | refine rGTR ?_
 | refine rGEQ ?_
 | refine rEQL ?_
 | refine rNEQ ?_
 | refine rNOT ?_
 | (refine rBRK ?_ ?_ <;> intro hb)
 | (refine rBRKn ?_ ?_ <;> intro hb)
 | (refine rBRKnb ?_ ?_ <;> intro hb)
 | (refine rBRKb ?_ ?_ <;> intro hb)
 | (refine rSPL ?_ ?_ <;> intro hb)
 | (refine rSPLn ?_ ?_ <;> intro hb)
 | (refine rSPLnb ?_ ?_ <;> intro hb)
 | (refine rSPLb ?_ ?_ <;> intro hb)
 | (exfalso; omega))
  exact max_loop hv hl l.length 1 x (by omega) ⟨rfl, rfl⟩
theorem way_ok {h : List (List Int)} {i j n : Nat} (hv : IsTab v h) (hl : h.length = n) (hsq : ∀ r ∈ h, r.length = n) (hi : 1 ≤ i) (hi2 : i + 1 < n) (hj : 1 ≤ j) (hj2 : j + 1 < n) (hn : n ≤ 1000000) :
    ACalls Try.prog 60 [v, I i, I j] H fun r H' => r = I (wayF h i j) ∧ H' = H := by
  obtain ⟨r1, hr1⟩ := ex_get (l := h) (k := i - 1) (by omega)
  obtain ⟨r2, hr2⟩ := ex_get (l := h) (k := i) (by omega)
  obtain ⟨r3, hr3⟩ := ex_get (l := h) (k := i + 1) (by omega)
  have l1 := hsq _ (getElem_mem' hr1)
  have l2 := hsq _ (getElem_mem' hr2)
  have l3 := hsq _ (getElem_mem' hr3)
  obtain ⟨x1, hx1⟩ := ex_get (l := r1) (k := j) (by omega)
  obtain ⟨x2, hx2⟩ := ex_get (l := r2) (k := j) (by omega)
  obtain ⟨x3, hx3⟩ := ex_get (l := r3) (k := j) (by omega)
  obtain ⟨x4, hx4⟩ := ex_get (l := r2) (k := j - 1) (by omega)
  obtain ⟨x5, hx5⟩ := ex_get (l := r2) (k := j + 1) (by omega)
  have e1 : (i : Int) - 1 = ((i - 1 : Nat) : Int) := by omega
  have e2 : (i : Int) + 1 = ((i + 1 : Nat) : Int) := by omega
  have e3 : (j : Int) - 1 = ((j - 1 : Nat) : Int) := by omega
  have e4 : (j : Int) + 1 = ((j + 1 : Nat) : Int) := by omega
  apply impl_way.start
  unfold impl_way.start_vc
  repeat' (first
 | ((with_reducible refine rIXk hv hr1 ?_; intro p hp))
 | ((with_reducible refine rIXk hv hr2 ?_; intro p hp))
 | (rw [e1])
 | (rw [e2])
 | (rw [e3])
 | (rw [e4])
 | with_reducible first
 | refine rTT ?_
 | refine rRFL ?_
 | refine rLEN (by assumption) ?_
 | (refine rIXk (by assumption) (by assumption) ?_; intro p hp)
 | (refine rIX (by assumption) (by omega) (by omega) ?_; intro p a ha hp)
 | refine rLDi (by assumption) ?_
 | (refine rLD (by assumption) ?_; intro c hc)
 | refine rADD (by omega) ?_
 | refine rSUB (by omega) ?_
 | refine rLSS ?_
 | refine rLEQ ?_
 | refine rGTR ?_
 | refine rGEQ ?_
 | refine rEQL ?_
 | refine rNEQ ?_
 | refine rNOT ?_
 | (refine rBRK ?_ ?_ <;> intro hb)
 | (refine rBRKn ?_ ?_ <;> intro hb)
 | (refine rBRKnb ?_ ?_ <;> intro hb)
 | (refine rBRKb ?_ ?_ <;> intro hb)
 | (refine rSPL ?_ ?_ <;> intro hb)
 | (refine rSPLn ?_ ?_ <;> intro hb)
 | (refine rSPLnb ?_ ?_ <;> intro hb)
 | (refine rSPLb ?_ ?_ <;> intro hb)
 | (exfalso; omega))
  refine rLITc rfl (rLITc rfl (rLITc rfl (rLITc rfl (rLITe ?_))))
  have hA := isI_list [x1, x5, x3, x4] true
  refine ACalls.mono (sliceMin_ok hA (by simp)) ?_
  rintro r H1 ⟨rfl, rfl⟩
  refine ACalls.mono (sliceMax_ok hA (by simp)) ?_
  rintro r H2 ⟨rfl, rfl⟩
  have c1 := getM_at hr1 hx1
  have c2 := getM_at hr2 hx2
  have c3 := getM_at hr3 hx3
  have c4 := getM_at hr2 hx4
  have c5 := getM_at hr2 hx5
  have m1 : [x5, x3, x4].foldl min x1 = min4 x1 x5 x3 x4 := rfl
  have m2 : [x5, x3, x4].foldl max x1 = max4 x1 x5 x3 x4 := rfl
  rw [m1, m2]
  unfold wayF
  rw [c1, c2, c3, c4, c5]
  refine rNEQ (rBRK (fun hb => ?_) (fun hb => ?_))
  · exact ⟨by rw [if_pos hb], rfl⟩
  · repeat' (first
 | ((with_reducible refine rIXk hv hr2 ?_; intro p hp))
 | with_reducible first
 | refine rTT ?_
 | refine rRFL ?_
 | refine rLEN (by assumption) ?_
 | (refine rIXk (by assumption) (by assumption) ?_; intro p hp)
 | (refine rIX (by assumption) (by omega) (by omega) ?_; intro p a ha hp)
 | refine rLDi (by assumption) ?_
 | (refine rLD (by assumption) ?_; intro c hc)
 | refine rADD (by omega) ?_
 | refine rSUB (by omega) ?_
 | refine rLSS ?_
 | refine rLEQ ?_
 | refine rGTR ?_
 | refine rGEQ ?_
 | refine rEQL ?_
 | refine rNEQ ?_
 | refine rNOT ?_
 | (refine rBRK ?_ ?_ <;> intro hb)
 | (refine rBRKn ?_ ?_ <;> intro hb)
 | (refine rBRKnb ?_ ?_ <;> intro hb)
 | (refine rBRKb ?_ ?_ <;> intro hb)
 | (refine rSPL ?_ ?_ <;> intro hb)
 | (refine rSPLn ?_ ?_ <;> intro hb)
 | (refine rSPLnb ?_ ?_ <;> intro hb)
 | (refine rSPLb ?_ ?_ <;> intro hb)
 | (exfalso; omega))
    refine rSUBw (rMULw ⟨by rw [if_neg hb], rfl⟩)
theorem way_own {h : List (List Int)} {i j n lo : Nat} (hv : IsOTab lo H v h) (hl : h.length = n) (hsq : ∀ r ∈ h, r.length = n) (hi : 1 ≤ i) (hi2 : i + 1 < n) (hj : 1 ≤ j) (hj2 : j + 1 < n) (hn : n ≤ 1000000) :
    ACalls Try.prog 60 [v, I i, I j] H fun r H' => r = I (wayF h i j) ∧ H' = H := by
  obtain ⟨v', h1, h2⟩ := hv.pur (Hf := H) fun _ _ => rfl
  exact lend_flat (k := 2) (args' := [v', I i, I j]) (Q0 := fun r => r = I (wayF h i j)) ⟨v', _, rfl, h1, _, _, rfl, Pur.refl _ _ _, _, _, rfl, Pur.refl _ _ _, rfl⟩ (by rintro r rfl; rfl) fun H => way_ok h2 hl hsq hi hi2 hj hj2 hn
end

/-! ### Cells that a closure accepts -/
section
variable {f : AVal} {n : Nat} {p : Nat → Nat → Bool} {H0 : Heap} {Q : AVal → Heap → Prop}
theorem cells_in (hn : n ≤ 1000) (hf : ∀ i j, 1 ≤ i → i < n → 1 ≤ j → j < n → ∀ H1, HSub H0 H1 → CALLK Try.prog f [I (i : Nat), I (j : Nat)] H1 fun v H2 => v = .bool (p i j) ∧ H2 = H1) {i : Nat} (hi : 1 ≤ i) (hi2 : i < n) {L : List (List Int)}
    (hq : ∀ v5 H ls, Bld H0 v5 H ls → Rel2 IsInts ls (L ++ cellsRow (p i) i 1 (n - 1)) → impl_cells.L3 Q (I n) f v5 (I (i + 1 : Nat)) H) :
    ∀ (m j : Nat) (v5 : AVal) (H : Heap) (ls : List AVal) (L1 : List (List Int)), 1 ≤ j → j + m = n → Bld H0 v5 H ls → Rel2 IsInts ls L1 → ls.length ≤ 1000 * i + j → L1 ++ cellsRow (p i) i j m = L ++ cellsRow (p i) i 1 (n - 1) →
    impl_cells.L6 Q (I n) f v5 (I i) (I j) H := by
  intro m
  induction m with
  | zero =>
    intro j v5 H ls L1 hj hjm hb0 hr hls he
    apply impl_cells.step6
    unfold impl_cells.step6_vc
    repeat' (with_reducible first
 | refine rTT ?_
 | refine rRFL ?_
 | refine rLEN (by assumption) ?_
 | (refine rIXk (by assumption) (by assumption) ?_; intro p hp)
 | (refine rIX (by assumption) (by omega) (by omega) ?_; intro p a ha hp)
 | refine rLDi (by assumption) ?_
 | (refine rLD (by assumption) ?_; intro c hc)
 | refine rADD (by omega) ?_
 | refine rSUB (by omega) ?_
 | refine rLSS ?_
 | refine rLEQ ?_
 | refine rGTR ?_
 | refine rGEQ ?_
 | refine rEQL ?_
 | refine rNEQ ?_
 | refine rNOT ?_
 | (refine rBRK ?_ ?_ <;> intro hb)
 | (refine rBRKn ?_ ?_ <;> intro hb)
 | (refine rBRKnb ?_ ?_ <;> intro hb)
 | (refine rBRKb ?_ ?_ <;> intro hb)
 | (refine rSPL ?_ ?_ <;> intro hb)
 | (refine rSPLn ?_ ?_ <;> intro hb)
 | (refine rSPLnb ?_ ?_ <;> intro hb)
 | (refine rSPLb ?_ ?_ <;> intro hb)
 | (exfalso; omega))
    rw [cellsRow, List.append_nil] at he
    exact hq _ _ ls hb0 (he ▸ hr)
  | succ m ih =>
    intro j v5 H ls L1 hj hjm hb0 hr hls he
    apply impl_cells.step6
    unfold impl_cells.step6_vc
    repeat' (with_reducible first
 | refine rTT ?_
 | refine rRFL ?_
 | refine rLEN (by assumption) ?_
 | (refine rIXk (by assumption) (by assumption) ?_; intro p hp)
 | (refine rIX (by assumption) (by omega) (by omega) ?_; intro p a ha hp)
 | refine rLDi (by assumption) ?_
 | (refine rLD (by assumption) ?_; intro c hc)
 | refine rADD (by omega) ?_
 | refine rSUB (by omega) ?_
 | refine rLSS ?_
 | refine rLEQ ?_
 | refine rGTR ?_
 | refine rGEQ ?_
 | refine rEQL ?_
 | refine rNEQ ?_
 | refine rNOT ?_
 | (refine rBRK ?_ ?_ <;> intro hb)
 | (refine rBRKn ?_ ?_ <;> intro hb)
 | (refine rBRKnb ?_ ?_ <;> intro hb)
 | (refine rBRKb ?_ ?_ <;> intro hb)
 | (refine rSPL ?_ ?_ <;> intro hb)
 | (refine rSPLn ?_ ?_ <;> intro hb)
 | (refine rSPLnb ?_ ?_ <;> intro hb)
 | (refine rSPLb ?_ ?_ <;> intro hb)
 | (exfalso; omega))
    refine CALLK_mono ?_ (hf i j hi hi2 hj (by omega) H hb0.sub)
    rintro r H1 ⟨rfl, rfl⟩
    repeat' (with_reducible first
 | refine rTT ?_
 | refine rRFL ?_
 | refine rLEN (by assumption) ?_
 | (refine rIXk (by assumption) (by assumption) ?_; intro p hp)
 | (refine rIX (by assumption) (by omega) (by omega) ?_; intro p a ha hp)
 | refine rLDi (by assumption) ?_
 | (refine rLD (by assumption) ?_; intro c hc)
 | refine rADD (by omega) ?_
 | refine rSUB (by omega) ?_
 | refine rLSS ?_
 | refine rLEQ ?_
 | refine rGTR ?_
 | refine rGEQ ?_
 | refine rEQL ?_
 | refine rNEQ ?_
 | refine rNOT ?_
 | (refine rBRK ?_ ?_ <;> intro hb)
 | (refine rBRKn ?_ ?_ <;> intro hb)
 | (refine rBRKnb ?_ ?_ <;> intro hb)
 | (refine rBRKb ?_ ?_ <;> intro hb)
 | (refine rSPL ?_ ?_ <;> intro hb)
 | (refine rSPLn ?_ ?_ <;> intro hb)
 | (refine rSPLnb ?_ ?_ <;> intro hb)
 | (refine rSPLb ?_ ?_ <;> intro hb)
 | (exfalso; omega))
    · refine rLITn (rLITc rfl (rLITc rfl (rLITe ?_)))
      repeat' (with_reducible first
 | refine rTT ?_
 | refine rRFL ?_
 | refine rLEN (by assumption) ?_
 | (refine rIXk (by assumption) (by assumption) ?_; intro p hp)
 | (refine rIX (by assumption) (by omega) (by omega) ?_; intro p a ha hp)
 | refine rLDi (by assumption) ?_
 | (refine rLD (by assumption) ?_; intro c hc)
 | refine rADD (by omega) ?_
 | refine rSUB (by omega) ?_
 | refine rLSS ?_
 | refine rLEQ ?_
 | refine rGTR ?_
 | refine rGEQ ?_
 | refine rEQL ?_
 | refine rNEQ ?_
 | refine rNOT ?_
 | (refine rBRK ?_ ?_ <;> intro hb)
 | (refine rBRKn ?_ ?_ <;> intro hb)
 | (refine rBRKnb ?_ ?_ <;> intro hb)
 | (refine rBRKb ?_ ?_ <;> intro hb)
 | (refine rSPL ?_ ?_ <;> intro hb)
 | (refine rSPLn ?_ ?_ <;> intro hb)
 | (refine rSPLnb ?_ ?_ <;> intro hb)
 | (refine rSPLb ?_ ?_ <;> intro hb)
 | (exfalso; omega))
      refine rLIT1 rfl ?_
      repeat' (with_reducible first
 | refine rTT ?_
 | refine rRFL ?_
 | refine rLEN (by assumption) ?_
 | (refine rIXk (by assumption) (by assumption) ?_; intro p hp)
 | (refine rIX (by assumption) (by omega) (by omega) ?_; intro p a ha hp)
 | refine rLDi (by assumption) ?_
 | (refine rLD (by assumption) ?_; intro c hc)
 | refine rADD (by omega) ?_
 | refine rSUB (by omega) ?_
 | refine rLSS ?_
 | refine rLEQ ?_
 | refine rGTR ?_
 | refine rGEQ ?_
 | refine rEQL ?_
 | refine rNEQ ?_
 | refine rNOT ?_
 | (refine rBRK ?_ ?_ <;> intro hb)
 | (refine rBRKn ?_ ?_ <;> intro hb)
 | (refine rBRKnb ?_ ?_ <;> intro hb)
 | (refine rBRKb ?_ ?_ <;> intro hb)
 | (refine rSPL ?_ ?_ <;> intro hb)
 | (refine rSPLn ?_ ?_ <;> intro hb)
 | (refine rSPLnb ?_ ?_ <;> intro hb)
 | (refine rSPLb ?_ ?_ <;> intro hb)
 | (exfalso; omega))
      refine rAPK1 hb0 (by omega) fun v' H' hb1 => ?_
      repeat' (with_reducible first
 | refine rTT ?_
 | refine rRFL ?_
 | refine rLEN (by assumption) ?_
 | (refine rIXk (by assumption) (by assumption) ?_; intro p hp)
 | (refine rIX (by assumption) (by omega) (by omega) ?_; intro p a ha hp)
 | refine rLDi (by assumption) ?_
 | (refine rLD (by assumption) ?_; intro c hc)
 | refine rADD (by omega) ?_
 | refine rSUB (by omega) ?_
 | refine rLSS ?_
 | refine rLEQ ?_
 | refine rGTR ?_
 | refine rGEQ ?_
 | refine rEQL ?_
 | refine rNEQ ?_
 | refine rNOT ?_
 | (refine rBRK ?_ ?_ <;> intro hb)
 | (refine rBRKn ?_ ?_ <;> intro hb)
 | (refine rBRKnb ?_ ?_ <;> intro hb)
 | (refine rBRKb ?_ ?_ <;> intro hb)
 | (refine rSPL ?_ ?_ <;> intro hb)
 | (refine rSPLn ?_ ?_ <;> intro hb)
 | (refine rSPLnb ?_ ?_ <;> intro hb)
 | (refine rSPLb ?_ ?_ <;> intro hb)
 | (exfalso; omega))
      refine ih (j + 1) v' H' _ (L1 ++ [[(i : Int), (j : Int)]]) (by omega) (by omega) hb1 (hr.snoc (isInts_pair _ _)) (by simp; omega) ?_
      rw [cellsRow, if_pos hb, ← List.append_assoc] at he
      exact he
    · refine ih (j + 1) v5 _ ls L1 (by omega) (by omega) hb0 hr (by omega) ?_
      rw [cellsRow, if_neg (by rw [hb]; decide), List.nil_append] at he
      exact he
theorem cells_out (hn : n ≤ 1000) (hf : ∀ i j, 1 ≤ i → i < n → 1 ≤ j → j < n → ∀ H1, HSub H0 H1 → CALLK Try.prog f [I (i : Nat), I (j : Nat)] H1 fun v H2 => v = .bool (p i j) ∧ H2 = H1) {L : List (List Int)}
    (hq : ∀ v5 H ls, Bld H0 v5 H ls → Rel2 IsInts ls L → Q v5 H) :
    ∀ (m i : Nat) (v5 : AVal) (H : Heap) (ls : List AVal) (L1 : List (List Int)), 1 ≤ i → (m = 0 ∧ n ≤ i ∨ i + m = n) → Bld H0 v5 H ls → Rel2 IsInts ls L1 → ls.length ≤ 1000 * i → L1 ++ cellsFrom p (n - 1) i m = L →
    impl_cells.L3 Q (I n) f v5 (I i) H := by
  intro m
  induction m with
  | zero =>
    intro i v5 H ls L1 hi him hb0 hr hls he
    apply impl_cells.step3
    unfold impl_cells.step3_vc
    repeat' (with_reducible first
 | refine rTT ?_
 | refine rRFL ?_
 | refine rLEN (by assumption) ?_
 | (refine rIXk (by assumption) (by assumption) ?_; intro p hp)
 | (refine rIX (by assumption) (by omega) (by omega) ?_; intro p a ha hp)
 | refine rLDi (by assumption) ?_
 | (refine rLD (by assumption) ?_; intro c hc)
 | refine rADD (by omega) ?_
 | refine rSUB (by omega) ?_
 | refine rLSS ?_
 | refine rLEQ ?_
 | refine rGTR ?_
 | refine rGEQ ?_
 | refine rEQL ?_
 | refine rNEQ ?_
 | refine rNOT ?_
 | (refine rBRK ?_ ?_ <;> intro hb)
 | (refine rBRKn ?_ ?_ <;> intro hb)
 | (refine rBRKnb ?_ ?_ <;> intro hb)
 | (refine rBRKb ?_ ?_ <;> intro hb)
 | (refine rSPL ?_ ?_ <;> intro hb)
 | (refine rSPLn ?_ ?_ <;> intro hb)
 | (refine rSPLnb ?_ ?_ <;> intro hb)
 | (refine rSPLb ?_ ?_ <;> intro hb)
 | (exfalso; omega))
    rw [cellsFrom, List.append_nil] at he
    exact hq _ _ ls hb0 (he ▸ hr)
  | succ m ih =>
    intro i v5 H ls L1 hi him hb0 hr hls he
    apply impl_cells.step3
    unfold impl_cells.step3_vc
    repeat' (with_reducible first
 | refine rTT ?_
 | refine rRFL ?_
 | refine rLEN (by assumption) ?_
 | (refine rIXk (by assumption) (by assumption) ?_; intro p hp)
 | (refine rIX (by assumption) (by omega) (by omega) ?_; intro p a ha hp)
 | refine rLDi (by assumption) ?_
 | (refine rLD (by assumption) ?_; intro c hc)
 | refine rADD (by omega) ?_
 | refine rSUB (by omega) ?_
 | refine rLSS ?_
 | refine rLEQ ?_
 | refine rGTR ?_
 | refine rGEQ ?_
 | refine rEQL ?_
 | refine rNEQ ?_
 | refine rNOT ?_
 | (refine rBRK ?_ ?_ <;> intro hb)
 | (refine rBRKn ?_ ?_ <;> intro hb)
 | (refine rBRKnb ?_ ?_ <;> intro hb)
 | (refine rBRKb ?_ ?_ <;> intro hb)
 | (refine rSPL ?_ ?_ <;> intro hb)
 | (refine rSPLn ?_ ?_ <;> intro hb)
 | (refine rSPLnb ?_ ?_ <;> intro hb)
 | (refine rSPLb ?_ ?_ <;> intro hb)
 | (exfalso; omega))
    show impl_cells.L6 Q (I n) f v5 (I i) (I (1 : Nat)) H
    refine cells_in hn hf hi (by omega) (fun v5 H ls' hb1 hr1 => ?_) (n - 1) 1 v5 H ls L1 (by omega) (by omega) hb0 hr (by omega) rfl
    refine ih (i + 1) v5 H ls' _ (by omega) (by omega) hb1 hr1 ?_ ?_
    · rw [hr1.1, List.length_append, ← hr.1]
      have := cellsRow_len (p i) i (n - 1) 1
      omega
    · rw [cellsFrom] at he
      rw [List.append_assoc]; exact he
/-- The cells, as a value; the heap is as it was. -/
theorem cellsP_ok (hn : n ≤ 1000) (h1 : 1 ≤ n) (hf : ∀ i j, 1 ≤ i → i < n → 1 ≤ j → j < n → ∀ H1, HSub H0 H1 → CALLK Try.prog f [I (i : Nat), I (j : Nat)] H1 fun v H2 => v = .bool (p i j) ∧ H2 = H1) :
    ACalls Try.prog 78 [I n, f] H0 fun r H' => IsTab r (cellsF p (n - 1)) ∧ H' = H0 := by
  apply ACalls.pure
  apply impl_cells.start
  unfold impl_cells.start_vc
  refine rTT (rTT (rTT (rLIT0 ?_)))
  unfold cellsF
  show impl_cells.L3 _ (I n) f _ (I (1 : Nat)) H0
  exact cells_out hn hf (fun v5 H1 ls hb1 hr1 => hb1.relP hr1) (n - 1) 1 _ _ [] [] (by omega) (by omega) (bld_lit H0) Rel2.nil (by simp) (by simp)
end

/-! ### Cells that can be flipped -/
def flipsOfF (m : List (List Int)) (up : Bool) : List (List Int) := cellsF (fun i j => decide (heWayF (heightsF m) i j = if up = true then 1 else -1)) (m.length - 1)
theorem flips_ok {m : List (List Int)} {v : AVal} {up : Bool} {H : Heap} (hv : IsTab v m) (hg : goodB m = true) : ACalls Try.prog 92 [v, .bool up] H fun r H' => IsTab r (flipsOfF m up) ∧ H' = H := by
  have G := goodB_iff.1 hg
  have h6 := G.n6
  have h1 := G.n1
  apply ACalls.sub
  apply impl_flips.start
  unfold impl_flips.start_vc
  refine rBOX rfl fun g => ?_
  refine ACalls.mono (heights_ok hv (by omega) (goodB_sq hg)) ?_
  rintro r1 H1 ⟨hh, rfl⟩
  refine rTT (rBOX rfl fun g2 => ?_)
  refine rTT (rSTp (hget_new _ _ _) (by simp) hh.one ?_)
  rw [hset_new]
  generalize hH2 : hnew (hnew H g [.bool up]) g2 ([AVal.nilS].set 0 r1) = H2
  have p1 : hget H2 (hnew H g [.bool up]).length = some (g2, [r1]) := by rw [← hH2]; exact hget_new _ _ _
  have p2 : hget H2 H.length = some (g, [.bool up]) := by rw [← hH2]; exact hget_new' _ _ (hget_new _ _ _)
  have hS : HSub H H2 := by rw [← hH2]; exact (hsub_new _ _ _).trans (hsub_new _ _ _)
  refine rLEN hv ?_
  refine ACalls.mono (cellsP_ok (p := fun i j => decide (wayF (heightsF m) i j ≠ 0) && (decide (0 < wayF (heightsF m) i j) == up)) (by omega) h1 (fun i j a1 a2 b1 b2 H3 hs => rCALL ?_)) ?_
  · show ACalls Try.prog 132 [I i, I j, .ptr (hnew H g [.bool up]).length g2 0, .ptr H.length g 0] _ _
    have q1 := hs _ _ _ p1
    have q2 := hs _ _ _ p2
    have hl := heights_len m
    apply impl_flips_1.start
    unfold impl_flips_1.start_vc
    refine rTT (rTT (rTT (rLDp q1 ?_)))
    refine ACalls.mono (way_ok hh hl (fun r hr => heights_sq hr) a1 (by omega) b1 (by omega) (by omega)) ?_
    rintro r H4 ⟨rfl, rfl⟩
    refine rNEQ (rSPL (fun hb => ?_) (fun hb => ?_))
    · refine rTT (rTT (rLDp q1 (rTT (rTT (rLDp q2 ?_)))))
      refine ACalls.mono (way_ok hh hl (fun r hr => heights_sq hr) a1 (by omega) b1 (by omega) (by omega)) ?_
      rintro r H5 ⟨rfl, rfl⟩
      refine ⟨rTT (rTT (rLDp q2 rfl)), rGTR (rEQB ⟨?_, rfl⟩)⟩
      simp only [decide_eq_true hb, Bool.true_and]
    · exact ⟨rfl, by simp only [decide_eq_false hb, Bool.false_and], rfl⟩
  · rintro r H3 ⟨h3, rfl⟩
    refine ⟨_, hS, ?_, rfl⟩
    have e : cellsF (fun i j => decide (wayF (heightsF m) i j ≠ 0) && (decide (0 < wayF (heightsF m) i j) == up)) (m.length - 1) = flipsOfF m up := by
      refine cells_congr fun i j a1 a2 b1 b2 => ?_
      rw [way_eq G a1 (by omega) b1 (by omega)]
      rcases way_cases (heightsF m) i j with h | h | h <;> rw [h] <;> cases up <;> rfl
    rw [← e]; exact h3
theorem flipsOf_ok {m : List (List Int)} {v : AVal} {up : Bool} {H : Heap} (hv : IsTab v m) (hl : m.length ≤ 100000) : ACalls Try.prog 39 [v, .bool up] H fun r H' => TabOk (goodB m) (flipsOfF m up) r ∧ H' = H := by
  apply impl_FlipsOf.start
  unfold impl_FlipsOf.start_vc
  refine ACalls.mono (isSign_ok hv (by omega)) ?_
  rintro r H1 ⟨rfl, rfl⟩
  repeat' (with_reducible first
 | refine rTT ?_
 | refine rRFL ?_
 | refine rLEN (by assumption) ?_
 | (refine rIXk (by assumption) (by assumption) ?_; intro p hp)
 | (refine rIX (by assumption) (by omega) (by omega) ?_; intro p a ha hp)
 | refine rLDi (by assumption) ?_
 | (refine rLD (by assumption) ?_; intro c hc)
 | refine rADD (by omega) ?_
 | refine rSUB (by omega) ?_
 | refine rLSS ?_
 | refine rLEQ ?_
 | refine rGTR ?_
 | refine rGEQ ?_
 | refine rEQL ?_
 | refine rNEQ ?_
 | refine rNOT ?_
 | (refine rBRK ?_ ?_ <;> intro hb)
 | (refine rBRKn ?_ ?_ <;> intro hb)
 | (refine rBRKnb ?_ ?_ <;> intro hb)
 | (refine rBRKb ?_ ?_ <;> intro hb)
 | (refine rSPL ?_ ?_ <;> intro hb)
 | (refine rSPLn ?_ ?_ <;> intro hb)
 | (refine rSPLnb ?_ ?_ <;> intro hb)
 | (refine rSPLb ?_ ?_ <;> intro hb)
 | (exfalso; omega))
  · rw [hb]; exact ⟨tabOk_no, rfl⟩
  · refine ACalls.mono (flips_ok hv hb) ?_
    rintro r H2 ⟨h2, rfl⟩
    rw [hb]; exact ⟨⟨_, rfl, h2⟩, rfl⟩
theorem specFlipsOf_ok {m : List (List Int)} {v : AVal} {up : Bool} {H : Heap} (hv : IsTab v m) (hl : m.length ≤ 100000) (hr : ∀ r ∈ m, r.length ≤ 1000000) : ACalls Try.prog 48 [v, .bool up] H fun r H' => TabOk (goodB m) (flipsOfF m up) r ∧ H' = H := by
  apply spec_FlipsOf.start
  unfold spec_FlipsOf.start_vc
  refine ACalls.mono (sgGood_ok hv (by omega) hr) ?_
  rintro r H1 ⟨rfl, rfl⟩
  refine rNOT (rBRKnb (fun hb => ?_) (fun hb => ?_))
  · rw [hb]; exact ⟨tabOk_no, rfl⟩
  · have gl := goodB_len hb
    have hf : ∀ w, heFlipsF (heightsF m) w = cellsF (fun i j => decide (heWayF (heightsF m) i j = w)) (m.length - 1) := fun w => by
      unfold heFlipsF; rw [heights_len]; rfl
    refine rBRKb (fun hu => ?_) (fun hu => ?_)
    · refine ACalls.mono (heOf_okF hv hl (goodB_sq hb)) ?_
      rintro r1 H2 ⟨h1, rfl⟩
      refine ACalls.mono (heFlips_ok h1 (heights_len m) (fun r hr => heights_sq hr) (by omega) (by omega)) ?_
      rintro r2 H3 ⟨h2, rfl⟩
      rw [hb, hu]
      refine ⟨⟨_, rfl, ?_⟩, rfl⟩
      rw [hf] at h2; exact h2
    · refine ACalls.mono (heOf_okF hv hl (goodB_sq hb)) ?_
      rintro r1 H2 ⟨h1, rfl⟩
      refine ACalls.mono (heFlips_ok h1 (heights_len m) (fun r hr => heights_sq hr) (by omega) (by omega)) ?_
      rintro r2 H3 ⟨h2, rfl⟩
      rw [hb, hu]
      refine ⟨⟨_, rfl, ?_⟩, rfl⟩
      rw [hf] at h2; exact h2

theorem isCell_ok {n i j : Int} {H : Heap} (hn : R64 (n - 1)) : ACalls Try.prog 119 [I n, I i, I j] H fun r H' => r = .bool (decide (1 ≤ i ∧ i ≤ n - 1) && decide (1 ≤ j ∧ j ≤ n - 1)) ∧ H' = H := by
  apply impl_isCell.start
  unfold impl_isCell.start_vc
  repeat' (with_reducible first
 | refine rTT ?_
 | (refine ACalls.mono (within_ok) ?_; rintro r H' ⟨rfl, rfl⟩)
 | refine rRFL ?_
 | refine rLEN (by assumption) ?_
 | (refine rIXk (by assumption) (by assumption) ?_; intro p hp)
 | (refine rIX (by assumption) (by omega) (by omega) ?_; intro p a ha hp)
 | refine rLDi (by assumption) ?_
 | (refine rLD (by assumption) ?_; intro c hc)
 | refine rADD (by omega) ?_
 | refine rSUB (by omega) ?_
 | refine rLSS ?_
 | refine rLEQ ?_
 | refine rGTR ?_
 | refine rGEQ ?_
 | refine rEQL ?_
 | refine rNEQ ?_
 | refine rNOT ?_
 | (refine rBRK ?_ ?_ <;> intro hb)
 | (refine rBRKn ?_ ?_ <;> intro hb)
 | (refine rBRKnb ?_ ?_ <;> intro hb)
 | (refine rBRKb ?_ ?_ <;> intro hb)
 | (refine rSPL ?_ ?_ <;> intro hb)
 | (refine rSPLn ?_ ?_ <;> intro hb)
 | (refine rSPLnb ?_ ?_ <;> intro hb)
 | (refine rSPLb ?_ ?_ <;> intro hb)
 | (exfalso; omega))
  · exact ⟨by rw [decide_eq_true hb]; rfl, rfl⟩
  · exact ⟨by rw [decide_eq_false hb]; rfl, rfl⟩
theorem areCells_ok {n : Nat} {l : List (List Int)} {v : AVal} {H : Heap} (hv : IsTab v l) (hl : l.length ≤ 1000000) (hr : ∀ r ∈ l, r.length ≤ 1000000) (hn : n ≤ 1000000) : ACalls Try.prog 66 [I n, v] H fun r H' => r = .bool (decide (l.length ≤ 200) && l.all (isCellB n)) ∧ H' = H := by
  apply ACalls.sub
  apply impl_areCells.start
  unfold impl_areCells.start_vc
  refine rBOX rfl fun g => ?_
  have p1 := hget_new H g [I n]
  repeat' (with_reducible first
 | refine rTT ?_
 | refine rRFL ?_
 | refine rLEN (by assumption) ?_
 | (refine rIXk (by assumption) (by assumption) ?_; intro p hp)
 | (refine rIX (by assumption) (by omega) (by omega) ?_; intro p a ha hp)
 | refine rLDi (by assumption) ?_
 | (refine rLD (by assumption) ?_; intro c hc)
 | refine rADD (by omega) ?_
 | refine rSUB (by omega) ?_
 | refine rLSS ?_
 | refine rLEQ ?_
 | refine rGTR ?_
 | refine rGEQ ?_
 | refine rEQL ?_
 | refine rNEQ ?_
 | refine rNOT ?_
 | (refine rBRK ?_ ?_ <;> intro hb)
 | (refine rBRKn ?_ ?_ <;> intro hb)
 | (refine rBRKnb ?_ ?_ <;> intro hb)
 | (refine rBRKb ?_ ?_ <;> intro hb)
 | (refine rSPL ?_ ?_ <;> intro hb)
 | (refine rSPLn ?_ ?_ <;> intro hb)
 | (refine rSPLnb ?_ ?_ <;> intro hb)
 | (refine rSPLb ?_ ?_ <;> intro hb)
 | (exfalso; omega))
  · refine ACalls.mono (containsT_ok (b := fun r => !isCellB n r) hv hl fun a ha c hc => rCALL ?_) ?_
    · show ACalls Try.prog 118 [c, .ptr H.length g 0] _ _
      have hal := hr a ha
      apply impl_areCells_1.start
      unfold impl_areCells_1.start_vc
      repeat' (with_reducible first
 | refine rTT ?_
 | refine rRFL ?_
 | refine rLEN (by assumption) ?_
 | (refine rIXk (by assumption) (by assumption) ?_; intro p hp)
 | (refine rIX (by assumption) (by omega) (by omega) ?_; intro p a ha hp)
 | refine rLDi (by assumption) ?_
 | (refine rLD (by assumption) ?_; intro c hc)
 | refine rADD (by omega) ?_
 | refine rSUB (by omega) ?_
 | refine rLSS ?_
 | refine rLEQ ?_
 | refine rGTR ?_
 | refine rGEQ ?_
 | refine rEQL ?_
 | refine rNEQ ?_
 | refine rNOT ?_
 | (refine rBRK ?_ ?_ <;> intro hb)
 | (refine rBRKn ?_ ?_ <;> intro hb)
 | (refine rBRKnb ?_ ?_ <;> intro hb)
 | (refine rBRKb ?_ ?_ <;> intro hb)
 | (refine rSPL ?_ ?_ <;> intro hb)
 | (refine rSPLn ?_ ?_ <;> intro hb)
 | (refine rSPLnb ?_ ?_ <;> intro hb)
 | (refine rSPLb ?_ ?_ <;> intro hb)
 | (exfalso; omega))
      · refine ⟨?_, rfl⟩
        unfold isCellB
        rw [decide_eq_false (by omega)]; rfl
      · refine rLDp p1 ?_
        obtain ⟨x, y, rfl⟩ : ∃ x y, a = [x, y] := by
          match a, hb with
          | [x, y], _ => exact ⟨x, y, rfl⟩
          | [], hb => simp at hb
          | [_], hb => simp at hb
          | _ :: _ :: _ :: _, hb => simp at hb; omega
        have q0 : [x, y][0]? = some x := rfl
        have q1 : [x, y][1]? = some y := rfl
        repeat' (first
 | ((refine rIXk (i := 0) hc q0 ?_; intro p hp))
 | ((refine rIXk (i := 1) hc q1 ?_; intro p hp))
 | with_reducible first
 | refine rTT ?_
 | refine rRFL ?_
 | refine rLEN (by assumption) ?_
 | (refine rIXk (by assumption) (by assumption) ?_; intro p hp)
 | (refine rIX (by assumption) (by omega) (by omega) ?_; intro p a ha hp)
 | refine rLDi (by assumption) ?_
 | (refine rLD (by assumption) ?_; intro c hc)
 | refine rADD (by omega) ?_
 | refine rSUB (by omega) ?_
 | refine rLSS ?_
 | refine rLEQ ?_
 | refine rGTR ?_
 | refine rGEQ ?_
 | refine rEQL ?_
 | refine rNEQ ?_
 | refine rNOT ?_
 | (refine rBRK ?_ ?_ <;> intro hb)
 | (refine rBRKn ?_ ?_ <;> intro hb)
 | (refine rBRKnb ?_ ?_ <;> intro hb)
 | (refine rBRKb ?_ ?_ <;> intro hb)
 | (refine rSPL ?_ ?_ <;> intro hb)
 | (refine rSPLn ?_ ?_ <;> intro hb)
 | (refine rSPLnb ?_ ?_ <;> intro hb)
 | (refine rSPLb ?_ ?_ <;> intro hb)
 | (exfalso; omega))
        refine ACalls.mono (isCell_ok (by constructor <;> omega)) ?_
        rintro r H1 ⟨rfl, rfl⟩
        refine rNOT ⟨rfl, rfl⟩
    · rintro r H' ⟨rfl, rfl⟩
      repeat' (with_reducible first
 | refine rTT ?_
 | refine rRFL ?_
 | refine rLEN (by assumption) ?_
 | (refine rIXk (by assumption) (by assumption) ?_; intro p hp)
 | (refine rIX (by assumption) (by omega) (by omega) ?_; intro p a ha hp)
 | refine rLDi (by assumption) ?_
 | (refine rLD (by assumption) ?_; intro c hc)
 | refine rADD (by omega) ?_
 | refine rSUB (by omega) ?_
 | refine rLSS ?_
 | refine rLEQ ?_
 | refine rGTR ?_
 | refine rGEQ ?_
 | refine rEQL ?_
 | refine rNEQ ?_
 | refine rNOT ?_
 | (refine rBRK ?_ ?_ <;> intro hb)
 | (refine rBRKn ?_ ?_ <;> intro hb)
 | (refine rBRKnb ?_ ?_ <;> intro hb)
 | (refine rBRKb ?_ ?_ <;> intro hb)
 | (refine rSPL ?_ ?_ <;> intro hb)
 | (refine rSPLn ?_ ?_ <;> intro hb)
 | (refine rSPLnb ?_ ?_ <;> intro hb)
 | (refine rSPLb ?_ ?_ <;> intro hb)
 | (exfalso; omega))
      refine ⟨H, hsub_new _ _ _, ?_, rfl⟩
      rw [decide_eq_true (by omega)]
      simp [List.all_eq_not_any_not]
  · refine ⟨H, hsub_new _ _ _, ?_, rfl⟩
    rw [decide_eq_false (by omega)]; rfl

end Go.Proofs.Ytccioplhchmilaa.AL

set_option linter.unusedVariables false
set_option maxRecDepth 100000
namespace Go.Proofs.Ytccioplhchmilaa.AL
open Go Go.Proofs

/-! impl.distance (slots: 0 m, 1 k, 2 m, 3 k, 5 a, 6 b, 7 all, 8 i, 9 row, 10 j, 11 n) -/
namespace impl_distance
def lv : List (Nat × List Nat) := [(3, [6, 7, 16, 17, 18]), (6, [6, 7, 8, 16, 17, 18, 23, 24, 25])]
noncomputable def K3 : List KF := [.lp (cB (cB (cR (cL (cR (cR (bodyOf Try.f65))))))), .bl 0, .sq (cR (cR (cR (bodyOf Try.f65))))]
def L3 (Q : AVal → Heap → Prop) (v6 v7 v16 v17 v18 : AVal) (H : Heap) : Prop := At Try.prog 65 55 K3 Q (slotsOf [(6, v6), (7, v7), (16, v16), (17, v17), (18, v18)]) H
theorem L3_frz {Q : AVal → Heap → Prop} {v6 v7 v16 v17 v18 w6 w7 w16 w17 w18 : AVal} {H Hf Hk : Heap} {k : Nat} (hs : Split H Hf Hk) (hp : PurL Hf k [(6, v6, w6), (7, v7, w7), (16, v16, w16), (17, v17, w17), (18, v18, w18)]) (h : L3 Q w6 w7 w16 w17 w18 Hk) : L3 Q v6 v7 v16 v17 v18 H := at_frz (ks := K3) hs hp h
noncomputable def K6 : List KF := [.lp (cB (cB (cR (cR (cB (cL (cR (cR (cB (cB (cR (cL (cR (cR (bodyOf Try.f65))))))))))))))), .bl 2, .bl 1, .sq (cR (cR (cR (cB (cB (cR (cL (cR (cR (bodyOf Try.f65)))))))))), .lp (cB (cB (cR (cL (cR (cR (bodyOf Try.f65))))))), .bl 0, .sq (cR (cR (cR (bodyOf Try.f65))))]
def L6 (Q : AVal → Heap → Prop) (v6 v7 v8 v16 v17 v18 v23 v24 v25 : AVal) (H : Heap) : Prop := At Try.prog 65 55 K6 Q (slotsOf [(6, v6), (7, v7), (8, v8), (16, v16), (17, v17), (18, v18), (23, v23), (24, v24), (25, v25)]) H
theorem L6_frz {Q : AVal → Heap → Prop} {v6 v7 v8 v16 v17 v18 v23 v24 v25 w6 w7 w8 w16 w17 w18 w23 w24 w25 : AVal} {H Hf Hk : Heap} {k : Nat} (hs : Split H Hf Hk) (hp : PurL Hf k [(6, v6, w6), (7, v7, w7), (8, v8, w8), (16, v16, w16), (17, v17, w17), (18, v18, w18), (23, v23, w23), (24, v24, w24), (25, v25, w25)]) (h : L6 Q w6 w7 w8 w16 w17 w18 w23 w24 w25 Hk) : L6 Q v6 v7 v8 v16 v17 v18 v23 v24 v25 H := at_frz (ks := K6) hs hp h
def start_vc (Q : AVal → Heap → Prop) (a0 a1 : AVal) (H : Heap) : Prop :=
 ACalls Try.prog 56 [a0] H fun x1 H2 =>
 ACalls Try.prog 56 [a1] H2 fun x3 H4 =>
 LENK x1 fun x5 =>
 impl_distance.L3 Q x3 (AVal.int .i64 0) x1 x5 (AVal.int .i64 0) H4
theorem start_eq (Q : AVal → Heap → Prop) (a0 a1 : AVal) (H : Heap) : vs Try.prog lv 65 55 Try.f65.results.toList Q true 1000 [.sq (bodyOf Try.f65)] (entry [a0, a1]) H = start_vc Q a0 a1 H := by kernel_rfl
theorem start {Q : AVal → Heap → Prop} {a0 a1 : AVal} {H : Heap} (h : start_vc Q a0 a1 H) : ACalls Try.prog 65 [a0, a1] H Q := acalls_vs (lv := lv) mixed Try.func65 rfl (by kernel_rfl) (by kernel_rfl) (start_eq Q a0 a1 H ▸ h)
def step3_vc (Q : AVal → Heap → Prop) (v6 v7 v16 v17 v18 : AVal) (H : Heap) : Prop :=
 BINK .lss v18 v17 fun x1 =>
 BRK x1 (TT ∧ IXK 1 v16 v18 fun x2 =>
 TT ∧ TT ∧ LDK false 1 H x2 fun x3 =>
 LENK x3 fun x4 =>
 impl_distance.L6 Q v6 v7 v18 v16 v17 v18 x3 x4 (AVal.int .i64 0) H) (BINK .quo v7 (AVal.int .i64 2) fun x5 =>
 Q x5 H)
theorem step3_eq (Q : AVal → Heap → Prop) (v6 v7 v16 v17 v18 : AVal) (H : Heap) : vs Try.prog lv 65 55 Try.f65.results.toList Q true 1000 (.sq (cB (cB (cR (cL (cR (cR (bodyOf Try.f65))))))) :: K3) (slotsOf [(6, v6), (7, v7), (16, v16), (17, v17), (18, v18)]) H = step3_vc Q v6 v7 v16 v17 v18 H := by kernel_rfl
theorem step3 {Q : AVal → Heap → Prop} {v6 v7 v16 v17 v18 : AVal} {H : Heap} (h : step3_vc Q v6 v7 v16 v17 v18 H) : L3 Q v6 v7 v16 v17 v18 H := at_lp_vs (lv := lv) (ks := K3.tail) mixed Try.func65 (step3_eq Q v6 v7 v16 v17 v18 H ▸ h)
def step6_vc (Q : AVal → Heap → Prop) (v6 v7 v8 v16 v17 v18 v23 v24 v25 : AVal) (H : Heap) : Prop :=
 BINK .lss v25 v24 fun x1 =>
 BRK x1 (TT ∧ IXK 1 v23 v25 fun x2 =>
 TT ∧ TT ∧ LDK false 1 H x2 fun x3 =>
 TT ∧ TT ∧ IXK 1 v6 v8 fun x4 =>
 TT ∧ TT ∧ LDK false 1 H x4 fun x5 =>
 TT ∧ IXK 1 x5 v25 fun x6 =>
 TT ∧ TT ∧ LDK false 1 H x6 fun x7 =>
 BINK .sub x3 x7 fun x8 =>
 TT ∧ IXK 1 v6 v8 fun x9 =>
 TT ∧ TT ∧ LDK false 1 H x9 fun x10 =>
 TT ∧ IXK 1 x10 v25 fun x11 =>
 TT ∧ TT ∧ LDK false 1 H x11 fun x12 =>
 BINK .sub x12 x3 fun x13 =>
 MMK true [x8, x13] fun x14 =>
 BINK .add v7 x14 fun x15 =>
 BINK .add v25 (AVal.int .i64 1) fun x16 =>
 impl_distance.L6 Q v6 x15 v8 v16 v17 v18 v23 v24 x16 H) (BINK .add v18 (AVal.int .i64 1) fun x17 =>
 impl_distance.L3 Q v6 v7 v16 v17 x17 H)
theorem step6_eq (Q : AVal → Heap → Prop) (v6 v7 v8 v16 v17 v18 v23 v24 v25 : AVal) (H : Heap) : vs Try.prog lv 65 55 Try.f65.results.toList Q true 1000 (.sq (cB (cB (cR (cR (cB (cL (cR (cR (cB (cB (cR (cL (cR (cR (bodyOf Try.f65))))))))))))))) :: K6) (slotsOf [(6, v6), (7, v7), (8, v8), (16, v16), (17, v17), (18, v18), (23, v23), (24, v24), (25, v25)]) H = step6_vc Q v6 v7 v8 v16 v17 v18 v23 v24 v25 H := by kernel_rfl
theorem step6 {Q : AVal → Heap → Prop} {v6 v7 v8 v16 v17 v18 v23 v24 v25 : AVal} {H : Heap} (h : step6_vc Q v6 v7 v8 v16 v17 v18 v23 v24 v25 H) : L6 Q v6 v7 v8 v16 v17 v18 v23 v24 v25 H := at_lp_vs (lv := lv) (ks := K6.tail) mixed Try.func65 (step6_eq Q v6 v7 v8 v16 v17 v18 v23 v24 v25 H ▸ h)
end impl_distance

/-! impl.RankOf (slots: 0 m, 1 m) -/
namespace impl_RankOf
def lv : List (Nat × List Nat) := []
def start_vc (Q : AVal → Heap → Prop) (a0 : AVal) (H : Heap) : Prop :=
 ACalls Try.prog 40 [a0] H fun x1 H2 =>
 NOTK x1 fun x3 =>
 BRK x3 (Q (AVal.tup [(AVal.int .i64 0), (AVal.bool false)]) H2) (LENK a0 fun x4 =>
 ACalls Try.prog 90 [x4] H2 fun x5 H6 =>
 ACalls Try.prog 65 [a0, x5] H6 fun x7 H8 =>
 Q (AVal.tup [x7, (AVal.bool true)]) H8)
theorem start_eq (Q : AVal → Heap → Prop) (a0 : AVal) (H : Heap) : vs Try.prog lv 38 12 Try.f38.results.toList Q true 1000 [.sq (bodyOf Try.f38)] (entry [a0]) H = start_vc Q a0 H := by kernel_rfl
theorem start {Q : AVal → Heap → Prop} {a0 : AVal} {H : Heap} (h : start_vc Q a0 H) : ACalls Try.prog 38 [a0] H Q := acalls_vs (lv := lv) mixed Try.func38 rfl (by kernel_rfl) (by kernel_rfl) (start_eq Q a0 H ▸ h)
end impl_RankOf

/-! impl.FlipDistance (slots: 0 m, 1 k, 2 m, 3 k) -/
namespace impl_FlipDistance
def lv : List (Nat × List Nat) := []
def start_vc (Q : AVal → Heap → Prop) (a0 a1 : AVal) (H : Heap) : Prop :=
 ACalls Try.prog 64 [a0, a1] H fun x1 H2 =>
 NOTK x1 fun x3 =>
 BRK x3 (Q (AVal.tup [(AVal.int .i64 0), (AVal.bool false)]) H2) (ACalls Try.prog 65 [a0, a1] H2 fun x4 H5 =>
 Q (AVal.tup [x4, (AVal.bool true)]) H5)
theorem start_eq (Q : AVal → Heap → Prop) (a0 a1 : AVal) (H : Heap) : vs Try.prog lv 13 13 Try.f13.results.toList Q true 1000 [.sq (bodyOf Try.f13)] (entry [a0, a1]) H = start_vc Q a0 a1 H := by kernel_rfl
theorem start {Q : AVal → Heap → Prop} {a0 a1 : AVal} {H : Heap} (h : start_vc Q a0 a1 H) : ACalls Try.prog 13 [a0, a1] H Q := acalls_vs (lv := lv) mixed Try.func13 rfl (by kernel_rfl) (by kernel_rfl) (start_eq Q a0 a1 H ▸ h)
end impl_FlipDistance

/-! spec.heApart (slots: 0 a, 1 b, 2 a, 3 b, 5 sum, 6 i, 7 row, 8 j, 9 x) -/
namespace spec_heApart
def lv : List (Nat × List Nat) := [(3, [1, 5, 10, 11, 12]), (6, [1, 5, 6, 10, 11, 12, 17, 18, 19])]
noncomputable def K3 : List KF := [.lp (cB (cB (cR (cL (cR (cR (bodyOf Try.f99))))))), .bl 0, .sq (cR (cR (cR (bodyOf Try.f99))))]
def L3 (Q : AVal → Heap → Prop) (v1 v5 v10 v11 v12 : AVal) (H : Heap) : Prop := At Try.prog 99 40 K3 Q (slotsOf [(1, v1), (5, v5), (10, v10), (11, v11), (12, v12)]) H
theorem L3_frz {Q : AVal → Heap → Prop} {v1 v5 v10 v11 v12 w1 w5 w10 w11 w12 : AVal} {H Hf Hk : Heap} {k : Nat} (hs : Split H Hf Hk) (hp : PurL Hf k [(1, v1, w1), (5, v5, w5), (10, v10, w10), (11, v11, w11), (12, v12, w12)]) (h : L3 Q w1 w5 w10 w11 w12 Hk) : L3 Q v1 v5 v10 v11 v12 H := at_frz (ks := K3) hs hp h
noncomputable def K6 : List KF := [.lp (cB (cB (cR (cR (cB (cL (cR (cR (cB (cB (cR (cL (cR (cR (bodyOf Try.f99))))))))))))))), .bl 2, .bl 1, .sq (cR (cR (cR (cB (cB (cR (cL (cR (cR (bodyOf Try.f99)))))))))), .lp (cB (cB (cR (cL (cR (cR (bodyOf Try.f99))))))), .bl 0, .sq (cR (cR (cR (bodyOf Try.f99))))]
def L6 (Q : AVal → Heap → Prop) (v1 v5 v6 v10 v11 v12 v17 v18 v19 : AVal) (H : Heap) : Prop := At Try.prog 99 40 K6 Q (slotsOf [(1, v1), (5, v5), (6, v6), (10, v10), (11, v11), (12, v12), (17, v17), (18, v18), (19, v19)]) H
theorem L6_frz {Q : AVal → Heap → Prop} {v1 v5 v6 v10 v11 v12 v17 v18 v19 w1 w5 w6 w10 w11 w12 w17 w18 w19 : AVal} {H Hf Hk : Heap} {k : Nat} (hs : Split H Hf Hk) (hp : PurL Hf k [(1, v1, w1), (5, v5, w5), (6, v6, w6), (10, v10, w10), (11, v11, w11), (12, v12, w12), (17, v17, w17), (18, v18, w18), (19, v19, w19)]) (h : L6 Q w1 w5 w6 w10 w11 w12 w17 w18 w19 Hk) : L6 Q v1 v5 v6 v10 v11 v12 v17 v18 v19 H := at_frz (ks := K6) hs hp h
def start_vc (Q : AVal → Heap → Prop) (a0 a1 : AVal) (H : Heap) : Prop :=
 LENK a0 fun x1 =>
 spec_heApart.L3 Q a1 (AVal.int .i64 0) a0 x1 (AVal.int .i64 0) H
theorem start_eq (Q : AVal → Heap → Prop) (a0 a1 : AVal) (H : Heap) : vs Try.prog lv 99 40 Try.f99.results.toList Q true 1000 [.sq (bodyOf Try.f99)] (entry [a0, a1]) H = start_vc Q a0 a1 H := by kernel_rfl
theorem start {Q : AVal → Heap → Prop} {a0 a1 : AVal} {H : Heap} (h : start_vc Q a0 a1 H) : ACalls Try.prog 99 [a0, a1] H Q := acalls_vs (lv := lv) mixed Try.func99 rfl (by kernel_rfl) (by kernel_rfl) (start_eq Q a0 a1 H ▸ h)
def step3_vc (Q : AVal → Heap → Prop) (v1 v5 v10 v11 v12 : AVal) (H : Heap) : Prop :=
 BINK .lss v12 v11 fun x1 =>
 BRK x1 (TT ∧ IXK 1 v10 v12 fun x2 =>
 TT ∧ TT ∧ LDK false 1 H x2 fun x3 =>
 LENK x3 fun x4 =>
 spec_heApart.L6 Q v1 v5 v12 v10 v11 v12 x3 x4 (AVal.int .i64 0) H) (BINK .quo v5 (AVal.int .i64 2) fun x5 =>
 Q x5 H)
theorem step3_eq (Q : AVal → Heap → Prop) (v1 v5 v10 v11 v12 : AVal) (H : Heap) : vs Try.prog lv 99 40 Try.f99.results.toList Q true 1000 (.sq (cB (cB (cR (cL (cR (cR (bodyOf Try.f99))))))) :: K3) (slotsOf [(1, v1), (5, v5), (10, v10), (11, v11), (12, v12)]) H = step3_vc Q v1 v5 v10 v11 v12 H := by kernel_rfl
theorem step3 {Q : AVal → Heap → Prop} {v1 v5 v10 v11 v12 : AVal} {H : Heap} (h : step3_vc Q v1 v5 v10 v11 v12 H) : L3 Q v1 v5 v10 v11 v12 H := at_lp_vs (lv := lv) (ks := K3.tail) mixed Try.func99 (step3_eq Q v1 v5 v10 v11 v12 H ▸ h)
def step6_vc (Q : AVal → Heap → Prop) (v1 v5 v6 v10 v11 v12 v17 v18 v19 : AVal) (H : Heap) : Prop :=
 BINK .lss v19 v18 fun x1 =>
 BRK x1 (TT ∧ IXK 1 v17 v19 fun x2 =>
 TT ∧ TT ∧ LDK false 1 H x2 fun x3 =>
 TT ∧ IXK 1 v1 v6 fun x4 =>
 TT ∧ TT ∧ LDK false 1 H x4 fun x5 =>
 TT ∧ IXK 1 x5 v19 fun x6 =>
 TT ∧ TT ∧ LDK false 1 H x6 fun x7 =>
 BINK .sub x3 x7 fun x8 =>
 ACalls Try.prog 134 [x8] H fun x9 H10 =>
 BINK .add v5 x9 fun x11 =>
 BINK .add v19 (AVal.int .i64 1) fun x12 =>
 spec_heApart.L6 Q v1 x11 v6 v10 v11 v12 v17 v18 x12 H10) (BINK .add v12 (AVal.int .i64 1) fun x13 =>
 spec_heApart.L3 Q v1 v5 v10 v11 x13 H)
theorem step6_eq (Q : AVal → Heap → Prop) (v1 v5 v6 v10 v11 v12 v17 v18 v19 : AVal) (H : Heap) : vs Try.prog lv 99 40 Try.f99.results.toList Q true 1000 (.sq (cB (cB (cR (cR (cB (cL (cR (cR (cB (cB (cR (cL (cR (cR (bodyOf Try.f99))))))))))))))) :: K6) (slotsOf [(1, v1), (5, v5), (6, v6), (10, v10), (11, v11), (12, v12), (17, v17), (18, v18), (19, v19)]) H = step6_vc Q v1 v5 v6 v10 v11 v12 v17 v18 v19 H := by kernel_rfl
theorem step6 {Q : AVal → Heap → Prop} {v1 v5 v6 v10 v11 v12 v17 v18 v19 : AVal} {H : Heap} (h : step6_vc Q v1 v5 v6 v10 v11 v12 v17 v18 v19 H) : L6 Q v1 v5 v6 v10 v11 v12 v17 v18 v19 H := at_lp_vs (lv := lv) (ks := K6.tail) mixed Try.func99 (step6_eq Q v1 v5 v6 v10 v11 v12 v17 v18 v19 H ▸ h)
end spec_heApart

/-! spec.FlipDistance (slots: 0 m, 1 k, 2 m, 3 k) -/
namespace spec_FlipDistance
def lv : List (Nat × List Nat) := []
def start_vc (Q : AVal → Heap → Prop) (a0 a1 : AVal) (H : Heap) : Prop :=
 ACalls Try.prog 87 [a0, a1] H fun x1 H2 =>
 NOTK x1 fun x3 =>
 BRK x3 (Q (AVal.tup [(AVal.int .i64 0), (AVal.bool false)]) H2) (ACalls Try.prog 61 [a0] H2 fun x4 H5 =>
 ACalls Try.prog 61 [a1] H5 fun x6 H7 =>
 ACalls Try.prog 99 [x4, x6] H7 fun x8 H9 =>
 Q (AVal.tup [x8, (AVal.bool true)]) H9)
theorem start_eq (Q : AVal → Heap → Prop) (a0 a1 : AVal) (H : Heap) : vs Try.prog lv 44 15 Try.f44.results.toList Q true 1000 [.sq (bodyOf Try.f44)] (entry [a0, a1]) H = start_vc Q a0 a1 H := by kernel_rfl
theorem start {Q : AVal → Heap → Prop} {a0 a1 : AVal} {H : Heap} (h : start_vc Q a0 a1 H) : ACalls Try.prog 44 [a0, a1] H Q := acalls_vs (lv := lv) mixed Try.func44 rfl (by kernel_rfl) (by kernel_rfl) (start_eq Q a0 a1 H ▸ h)
end spec_FlipDistance

/-! spec.l1Abs (slots: 0 n, 1 n) -/
namespace spec_l1Abs
def lv : List (Nat × List Nat) := []
def start_vc (Q : AVal → Heap → Prop) (a0 : AVal) (H : Heap) : Prop :=
 NEGK a0 fun x1 =>
 ACalls Try.prog 69 [a0, x1] H fun x2 H3 =>
 Q x2 H3
theorem start_eq (Q : AVal → Heap → Prop) (a0 : AVal) (H : Heap) : vs Try.prog lv 134 7 Try.f134.results.toList Q true 1000 [.sq (bodyOf Try.f134)] (entry [a0]) H = start_vc Q a0 H := by kernel_rfl
theorem start {Q : AVal → Heap → Prop} {a0 : AVal} {H : Heap} (h : start_vc Q a0 H) : ACalls Try.prog 134 [a0] H Q := acalls_vs (lv := lv) mixed Try.func134 rfl (by kernel_rfl) (by kernel_rfl) (start_eq Q a0 H ▸ h)
end spec_l1Abs

/-! spec.l1Most (slots: 0 a, 1 b, 2 a, 3 b) -/
namespace spec_l1Most
def lv : List (Nat × List Nat) := []
def start_vc (Q : AVal → Heap → Prop) (a0 a1 : AVal) (H : Heap) : Prop :=
 BINK .gtr a0 a1 fun x1 =>
 BRK x1 (Q a0 H) (Q a1 H)
theorem start_eq (Q : AVal → Heap → Prop) (a0 a1 : AVal) (H : Heap) : vs Try.prog lv 69 10 Try.f69.results.toList Q true 1000 [.sq (bodyOf Try.f69)] (entry [a0, a1]) H = start_vc Q a0 a1 H := by kernel_rfl
theorem start {Q : AVal → Heap → Prop} {a0 a1 : AVal} {H : Heap} (h : start_vc Q a0 a1 H) : ACalls Try.prog 69 [a0, a1] H Q := acalls_vs (lv := lv) mixed Try.func69 rfl (by kernel_rfl) (by kernel_rfl) (start_eq Q a0 a1 H ▸ h)
end spec_l1Most


def dRow : List Int → List Int → Int
  | x :: r, y :: s => ab (x - y) + dRow r s
  | _, _ => 0
def dTab : List (List Int) → List (List Int) → Int
  | r :: a, s :: b => dRow r s + dTab a b
  | _, _ => 0
theorem dRow_nil (s : List Int) : dRow [] s = 0 := by cases s <;> rfl
theorem dTab_nil (s : List (List Int)) : dTab [] s = 0 := by cases s <;> rfl
theorem dRow_app : ∀ {r s : List Int} {x y : Int}, r.length = s.length → dRow (r ++ [x]) (s ++ [y]) = dRow r s + ab (x - y)
  | [], [], x, y, _ => by simp [dRow]
  | a :: r, b :: s, x, y, h => by
    simp only [List.cons_append, dRow, dRow_app (r := r) (s := s) (by simpa using h)]; omega
theorem dTab_app : ∀ {a b : List (List Int)} {x y : List Int}, a.length = b.length → dTab (a ++ [x]) (b ++ [y]) = dTab a b + dRow x y
  | [], [], x, y, _ => by simp [dTab]
  | r :: a, s :: b, x, y, h => by
    simp only [List.cons_append, dTab, dTab_app (a := a) (b := b) (by simpa using h)]; omega
theorem dRow_map (f g : Nat → Int) : ∀ n, dRow ((List.range n).map f) ((List.range n).map g) = psum (fun j => ab (f j - g j)) n
  | 0 => rfl
  | n + 1 => by
    simp only [List.range_succ, List.map_append, List.map_cons, List.map_nil]
    rw [dRow_app (by simp), dRow_map f g n, psum_succ]
theorem dTab_map (c : Nat) (F G : Nat → Nat → Int) : ∀ n, dTab ((List.range n).map (tabRow c F)) ((List.range n).map (tabRow c G)) = psum (fun i => psum (fun j => ab (F i j - G i j)) c) n
  | 0 => rfl
  | n + 1 => by
    simp only [List.range_succ, List.map_append, List.map_cons, List.map_nil]
    rw [dTab_app (by simp), dTab_map c F G n, psum_succ]
    unfold tabRow
    rw [dRow_map]
theorem psum_two (f : Nat → Int) : ∀ n, psum (fun i => 2 * f i) n = 2 * psum f n
  | 0 => rfl
  | n + 1 => by rw [psum_succ, psum_succ, psum_two f n]; omega
theorem dTab_heights {n : Nat} {a b : List (List Int)} (ha : Good n a) (hb : Good n b) : dTab (heightsF a) (heightsF b) = 2 * distM n a b := by
  rw [heightsF_good ha, heightsF_good hb]
  unfold tabT
  rw [dTab_map]
  unfold distM
  rw [← psum_two]
  refine psum_congr fun i _ => ?_
  rw [← psum_two]
  refine psum_congr fun j _ => ?_
  unfold htC ab; omega
theorem ab_max (x y : Int) : max (x - y) (y - x) = ab (x - y) := by unfold ab; omega
theorem mem_drop_cons {α : Type} {l : List α} {k : Nat} {a : α} (h : l[k]? = some a) : a ∈ l := List.mem_of_getElem? h

section
variable {a b : List (List Int)} {v u : AVal} {H : Heap} {Q : AVal → Heap → Prop}
theorem dist_in (hu : IsTab u b) {r s : List Int} {vr : AVal} (hvr : IsInts vr r) {i : Nat} (hs : b[i]? = some s) (hrs : r.length = s.length) (hl : r.length ≤ 100) (hi : i < a.length) (ha : a.length ≤ 100) (hr1 : ∀ x ∈ r, 0 ≤ x ∧ x ≤ 1000) (hs1 : ∀ x ∈ s, 0 ≤ x ∧ x ≤ 1000)
    {t : Int} (hq : 0 ≤ t + dRow r s → t + dRow r s ≤ 2000 * (100 * i + r.length) → impl_distance.L3 Q u (I (t + dRow r s)) v (I a.length) (I (i + 1 : Nat)) H) : ∀ (n k : Nat) (x : Int), k + n = r.length → 0 ≤ x → x ≤ 2000 * (100 * i + k) → x + dRow (r.drop k) (s.drop k) = t + dRow r s →
    impl_distance.L6 Q u (I x) (I i) v (I a.length) (I i) vr (I r.length) (I k) H := by
  intro n
  induction n with
  | zero =>
    intro k x hk h0 h1 he
    rw [List.drop_eq_nil_of_le (by omega), dRow_nil, Int.add_zero] at he
    subst he
    have hq := hq h0 (by omega)
    apply impl_distance.step6
    unfold impl_distance.step6_vc
    repeat' (with_reducible first
 | refine rTT ?_
 | refine rRFL ?_
 | refine rLEN (by assumption) ?_
 | (refine rIXk (by assumption) (by assumption) ?_; intro p hp)
 | (refine rIX (by assumption) (by omega) (by omega) ?_; intro p a ha hp)
 | refine rLDi (by assumption) ?_
 | (refine rLD (by assumption) ?_; intro c hc)
 | refine rADD (by omega) ?_
 | refine rSUB (by omega) ?_
 | refine rLSS ?_
 | refine rLEQ ?_
 | refine rGTR ?_
 | refine rGEQ ?_
 | refine rEQL ?_
 | refine rNEQ ?_
 | refine rNOT ?_
 | (refine rBRK ?_ ?_ <;> intro hb)
 | (refine rBRKn ?_ ?_ <;> intro hb)
 | (refine rBRKnb ?_ ?_ <;> intro hb)
 | (refine rBRKb ?_ ?_ <;> intro hb)
 | (refine rSPL ?_ ?_ <;> intro hb)
 | (refine rSPLn ?_ ?_ <;> intro hb)
 | (refine rSPLnb ?_ ?_ <;> intro hb)
 | (refine rSPLb ?_ ?_ <;> intro hb)
 | (exfalso; omega))
    exact hq
  | succ n ih =>
    intro k x hk h0 h1 he
    obtain ⟨y, hy⟩ := ex_get (l := r) (k := k) (by omega)
    obtain ⟨z, hz⟩ := ex_get (l := s) (k := k) (by omega)
    have by1 := hr1 y (List.mem_of_getElem? hy)
    have bz1 := hs1 z (List.mem_of_getElem? hz)
    rw [drop_some hy, drop_some hz, dRow] at he
    have hab : 0 ≤ ab (y - z) ∧ ab (y - z) ≤ 2000 := by unfold ab; omega
    apply impl_distance.step6
    unfold impl_distance.step6_vc
    repeat' (with_reducible first
 | refine rTT ?_
 | refine rRFL ?_
 | refine rLEN (by assumption) ?_
 | (refine rIXk (by assumption) (by assumption) ?_; intro p hp)
 | (refine rIX (by assumption) (by omega) (by omega) ?_; intro p a ha hp)
 | refine rLDi (by assumption) ?_
 | (refine rLD (by assumption) ?_; intro c hc)
 | refine rADD (by omega) ?_
 | refine rSUB (by omega) ?_
 | refine rLSS ?_
 | refine rLEQ ?_
 | refine rGTR ?_
 | refine rGEQ ?_
 | refine rEQL ?_
 | refine rNEQ ?_
 | refine rNOT ?_
 | (refine rBRK ?_ ?_ <;> intro hb)
 | (refine rBRKn ?_ ?_ <;> intro hb)
 | (refine rBRKnb ?_ ?_ <;> intro hb)
 | (refine rBRKb ?_ ?_ <;> intro hb)
 | (refine rSPL ?_ ?_ <;> intro hb)
 | (refine rSPLn ?_ ?_ <;> intro hb)
 | (refine rSPLnb ?_ ?_ <;> intro hb)
 | (refine rSPLb ?_ ?_ <;> intro hb)
 | (exfalso; omega))
    refine rMAX ?_
    rw [ab_max]
    repeat' (with_reducible first
 | refine rTT ?_
 | refine rRFL ?_
 | refine rLEN (by assumption) ?_
 | (refine rIXk (by assumption) (by assumption) ?_; intro p hp)
 | (refine rIX (by assumption) (by omega) (by omega) ?_; intro p a ha hp)
 | refine rLDi (by assumption) ?_
 | (refine rLD (by assumption) ?_; intro c hc)
 | refine rADD (by omega) ?_
 | refine rSUB (by omega) ?_
 | refine rLSS ?_
 | refine rLEQ ?_
 | refine rGTR ?_
 | refine rGEQ ?_
 | refine rEQL ?_
 | refine rNEQ ?_
 | refine rNOT ?_
 | (refine rBRK ?_ ?_ <;> intro hb)
 | (refine rBRKn ?_ ?_ <;> intro hb)
 | (refine rBRKnb ?_ ?_ <;> intro hb)
 | (refine rBRKb ?_ ?_ <;> intro hb)
 | (refine rSPL ?_ ?_ <;> intro hb)
 | (refine rSPLn ?_ ?_ <;> intro hb)
 | (refine rSPLnb ?_ ?_ <;> intro hb)
 | (refine rSPLb ?_ ?_ <;> intro hb)
 | (exfalso; omega))
    exact ih (k + 1) _ (by omega) (by omega) (by omega) (by omega)
theorem dist_out (hv : IsTab v a) (hu : IsTab u b) (ha : a.length ≤ 100) (hab : a.length = b.length) (hrs : ∀ (i : Nat) (r s : List Int), a[i]? = some r → b[i]? = some s → r.length = s.length ∧ r.length ≤ 100) (ra : ∀ r ∈ a, ∀ x ∈ r, 0 ≤ x ∧ x ≤ 1000) (rb : ∀ r ∈ b, ∀ x ∈ r, 0 ≤ x ∧ x ≤ 1000) : ∀ (n k : Nat) (x : Int), k + n = a.length → 0 ≤ x → x ≤ 2000 * (100 * k) → Q (I ((x + dTab (a.drop k) (b.drop k)).tdiv 2)) H →
    impl_distance.L3 Q u (I x) v (I a.length) (I k) H := by
  intro n
  induction n with
  | zero =>
    intro k x hk h0 h1 hq
    rw [List.drop_eq_nil_of_le (by omega), dTab_nil, Int.add_zero] at hq
    apply impl_distance.step3
    unfold impl_distance.step3_vc
    repeat' (with_reducible first
 | refine rTT ?_
 | refine rRFL ?_
 | refine rLEN (by assumption) ?_
 | (refine rIXk (by assumption) (by assumption) ?_; intro p hp)
 | (refine rIX (by assumption) (by omega) (by omega) ?_; intro p a ha hp)
 | refine rLDi (by assumption) ?_
 | (refine rLD (by assumption) ?_; intro c hc)
 | refine rADD (by omega) ?_
 | refine rSUB (by omega) ?_
 | refine rLSS ?_
 | refine rLEQ ?_
 | refine rGTR ?_
 | refine rGEQ ?_
 | refine rEQL ?_
 | refine rNEQ ?_
 | refine rNOT ?_
 | (refine rBRK ?_ ?_ <;> intro hb)
 | (refine rBRKn ?_ ?_ <;> intro hb)
 | (refine rBRKnb ?_ ?_ <;> intro hb)
 | (refine rBRKb ?_ ?_ <;> intro hb)
 | (refine rSPL ?_ ?_ <;> intro hb)
 | (refine rSPLn ?_ ?_ <;> intro hb)
 | (refine rSPLnb ?_ ?_ <;> intro hb)
 | (refine rSPLb ?_ ?_ <;> intro hb)
 | (exfalso; omega))
    refine rQUO (by decide) (half_in (by constructor <;> omega)) ?_
    exact hq
  | succ n ih =>
    intro k x hk h0 h1 hq
    obtain ⟨r, hr⟩ := ex_get (l := a) (k := k) (by omega)
    obtain ⟨s, hs⟩ := ex_get (l := b) (k := k) (by omega)
    rw [drop_some hr, drop_some hs, dTab] at hq
    obtain ⟨e1, e2⟩ := hrs k r s hr hs
    apply impl_distance.step3
    unfold impl_distance.step3_vc
    repeat' (with_reducible first
 | refine rTT ?_
 | refine rRFL ?_
 | refine rLEN (by assumption) ?_
 | (refine rIXk (by assumption) (by assumption) ?_; intro p hp)
 | (refine rIX (by assumption) (by omega) (by omega) ?_; intro p a ha hp)
 | refine rLDi (by assumption) ?_
 | (refine rLD (by assumption) ?_; intro c hc)
 | refine rADD (by omega) ?_
 | refine rSUB (by omega) ?_
 | refine rLSS ?_
 | refine rLEQ ?_
 | refine rGTR ?_
 | refine rGEQ ?_
 | refine rEQL ?_
 | refine rNEQ ?_
 | refine rNOT ?_
 | (refine rBRK ?_ ?_ <;> intro hb)
 | (refine rBRKn ?_ ?_ <;> intro hb)
 | (refine rBRKnb ?_ ?_ <;> intro hb)
 | (refine rBRKb ?_ ?_ <;> intro hb)
 | (refine rSPL ?_ ?_ <;> intro hb)
 | (refine rSPLn ?_ ?_ <;> intro hb)
 | (refine rSPLnb ?_ ?_ <;> intro hb)
 | (refine rSPLb ?_ ?_ <;> intro hb)
 | (exfalso; omega))
    refine dist_in hu (by assumption) hs e1 e2 (by omega) ha (ra r (List.mem_of_getElem? hr)) (rb s (List.mem_of_getElem? hs)) (fun g1 g2 => ?_) r.length 0 x (by omega) h0 (by omega) rfl
    refine ih (k + 1) _ (by omega) g1 (by omega) ?_
    rw [Int.add_assoc]; exact hq
theorem l1Most_ok {x y : Int} : ACalls Try.prog 69 [I x, I y] H fun r H' => r = I (max x y) ∧ H' = H := by
  apply spec_l1Most.start
  unfold spec_l1Most.start_vc
  repeat' (with_reducible first
 | refine rTT ?_
 | refine rRFL ?_
 | refine rLEN (by assumption) ?_
 | (refine rIXk (by assumption) (by assumption) ?_; intro p hp)
 | (refine rIX (by assumption) (by omega) (by omega) ?_; intro p a ha hp)
 | refine rLDi (by assumption) ?_
 | (refine rLD (by assumption) ?_; intro c hc)
 | refine rADD (by omega) ?_
 | refine rSUB (by omega) ?_
 | refine rLSS ?_
 | refine rLEQ ?_
 | refine rGTR ?_
 | refine rGEQ ?_
 | refine rEQL ?_
 | refine rNEQ ?_
 | refine rNOT ?_
 | (refine rBRK ?_ ?_ <;> intro hb)
 | (refine rBRKn ?_ ?_ <;> intro hb)
 | (refine rBRKnb ?_ ?_ <;> intro hb)
 | (refine rBRKb ?_ ?_ <;> intro hb)
 | (refine rSPL ?_ ?_ <;> intro hb)
 | (refine rSPLn ?_ ?_ <;> intro hb)
 | (refine rSPLnb ?_ ?_ <;> intro hb)
 | (refine rSPLb ?_ ?_ <;> intro hb)
 | (exfalso; omega))
  · exact ⟨by congr 1; omega, rfl⟩
  · exact ⟨by congr 1; omega, rfl⟩
theorem l1Abs_ok {x : Int} (hx : R64 (0 - x)) : ACalls Try.prog 134 [I x] H fun r H' => r = I (ab x) ∧ H' = H := by
  apply spec_l1Abs.start
  unfold spec_l1Abs.start_vc
  refine rNEG hx ?_
  refine ACalls.mono l1Most_ok ?_
  rintro r H1 ⟨rfl, rfl⟩
  refine ⟨?_, rfl⟩
  unfold ab; congr 1; omega
theorem apart_in (hu : IsTab u b) {r s : List Int} {vr : AVal} (hvr : IsInts vr r) {i : Nat} (hs : b[i]? = some s) (hrs : r.length = s.length) (hl : r.length ≤ 100) (hi : i < a.length) (ha : a.length ≤ 100) (hr1 : ∀ x ∈ r, 0 ≤ x ∧ x ≤ 1000) (hs1 : ∀ x ∈ s, 0 ≤ x ∧ x ≤ 1000)
    {t : Int} (hq : 0 ≤ t + dRow r s → t + dRow r s ≤ 2000 * (100 * i + r.length) → spec_heApart.L3 Q u (I (t + dRow r s)) v (I a.length) (I (i + 1 : Nat)) H) : ∀ (n k : Nat) (x : Int), k + n = r.length → 0 ≤ x → x ≤ 2000 * (100 * i + k) → x + dRow (r.drop k) (s.drop k) = t + dRow r s →
    spec_heApart.L6 Q u (I x) (I i) v (I a.length) (I i) vr (I r.length) (I k) H := by
  intro n
  induction n with
  | zero =>
    intro k x hk h0 h1 he
    rw [List.drop_eq_nil_of_le (by omega), dRow_nil, Int.add_zero] at he
    subst he
    have hq := hq h0 (by omega)
    apply spec_heApart.step6
    unfold spec_heApart.step6_vc
    repeat' (with_reducible first
 | refine rTT ?_
 | refine rRFL ?_
 | refine rLEN (by assumption) ?_
 | (refine rIXk (by assumption) (by assumption) ?_; intro p hp)
 | (refine rIX (by assumption) (by omega) (by omega) ?_; intro p a ha hp)
 | refine rLDi (by assumption) ?_
 | (refine rLD (by assumption) ?_; intro c hc)
 | refine rADD (by omega) ?_
 | refine rSUB (by omega) ?_
 | refine rLSS ?_
 | refine rLEQ ?_
 | refine rGTR ?_
 | refine rGEQ ?_
 | refine rEQL ?_
 | refine rNEQ ?_
 | refine rNOT ?_
 | (refine rBRK ?_ ?_ <;> intro hb)
 | (refine rBRKn ?_ ?_ <;> intro hb)
 | (refine rBRKnb ?_ ?_ <;> intro hb)
 | (refine rBRKb ?_ ?_ <;> intro hb)
 | (refine rSPL ?_ ?_ <;> intro hb)
 | (refine rSPLn ?_ ?_ <;> intro hb)
 | (refine rSPLnb ?_ ?_ <;> intro hb)
 | (refine rSPLb ?_ ?_ <;> intro hb)
 | (exfalso; omega))
    exact hq
  | succ n ih =>
    intro k x hk h0 h1 he
    obtain ⟨y, hy⟩ := ex_get (l := r) (k := k) (by omega)
    obtain ⟨z, hz⟩ := ex_get (l := s) (k := k) (by omega)
    have by1 := hr1 y (List.mem_of_getElem? hy)
    have bz1 := hs1 z (List.mem_of_getElem? hz)
    rw [drop_some hy, drop_some hz, dRow] at he
    have hab : 0 ≤ ab (y - z) ∧ ab (y - z) ≤ 2000 := by unfold ab; omega
    apply spec_heApart.step6
    unfold spec_heApart.step6_vc
    repeat' (with_reducible first
 | refine rTT ?_
 | refine rRFL ?_
 | refine rLEN (by assumption) ?_
 | (refine rIXk (by assumption) (by assumption) ?_; intro p hp)
 | (refine rIX (by assumption) (by omega) (by omega) ?_; intro p a ha hp)
 | refine rLDi (by assumption) ?_
 | (refine rLD (by assumption) ?_; intro c hc)
 | refine rADD (by omega) ?_
 | refine rSUB (by omega) ?_
 | refine rLSS ?_
 | refine rLEQ ?_
 | refine rGTR ?_
 | refine rGEQ ?_
 | refine rEQL ?_
 | refine rNEQ ?_
 | refine rNOT ?_
 | (refine rBRK ?_ ?_ <;> intro hb)
 | (refine rBRKn ?_ ?_ <;> intro hb)
 | (refine rBRKnb ?_ ?_ <;> intro hb)
 | (refine rBRKb ?_ ?_ <;> intro hb)
 | (refine rSPL ?_ ?_ <;> intro hb)
 | (refine rSPLn ?_ ?_ <;> intro hb)
 | (refine rSPLnb ?_ ?_ <;> intro hb)
 | (refine rSPLb ?_ ?_ <;> intro hb)
 | (exfalso; omega))
    refine ACalls.mono (l1Abs_ok (by constructor <;> omega)) ?_
    rintro r' H1 ⟨rfl, rfl⟩
    repeat' (with_reducible first
 | refine rTT ?_
 | refine rRFL ?_
 | refine rLEN (by assumption) ?_
 | (refine rIXk (by assumption) (by assumption) ?_; intro p hp)
 | (refine rIX (by assumption) (by omega) (by omega) ?_; intro p a ha hp)
 | refine rLDi (by assumption) ?_
 | (refine rLD (by assumption) ?_; intro c hc)
 | refine rADD (by omega) ?_
 | refine rSUB (by omega) ?_
 | refine rLSS ?_
 | refine rLEQ ?_
 | refine rGTR ?_
 | refine rGEQ ?_
 | refine rEQL ?_
 | refine rNEQ ?_
 | refine rNOT ?_
 | (refine rBRK ?_ ?_ <;> intro hb)
 | (refine rBRKn ?_ ?_ <;> intro hb)
 | (refine rBRKnb ?_ ?_ <;> intro hb)
 | (refine rBRKb ?_ ?_ <;> intro hb)
 | (refine rSPL ?_ ?_ <;> intro hb)
 | (refine rSPLn ?_ ?_ <;> intro hb)
 | (refine rSPLnb ?_ ?_ <;> intro hb)
 | (refine rSPLb ?_ ?_ <;> intro hb)
 | (exfalso; omega))
    exact ih (k + 1) _ (by omega) (by omega) (by omega) (by omega)
theorem apart_out (hv : IsTab v a) (hu : IsTab u b) (ha : a.length ≤ 100) (hab : a.length = b.length) (hrs : ∀ (i : Nat) (r s : List Int), a[i]? = some r → b[i]? = some s → r.length = s.length ∧ r.length ≤ 100) (ra : ∀ r ∈ a, ∀ x ∈ r, 0 ≤ x ∧ x ≤ 1000) (rb : ∀ r ∈ b, ∀ x ∈ r, 0 ≤ x ∧ x ≤ 1000) : ∀ (n k : Nat) (x : Int), k + n = a.length → 0 ≤ x → x ≤ 2000 * (100 * k) → Q (I ((x + dTab (a.drop k) (b.drop k)).tdiv 2)) H →
    spec_heApart.L3 Q u (I x) v (I a.length) (I k) H := by
  intro n
  induction n with
  | zero =>
    intro k x hk h0 h1 hq
    rw [List.drop_eq_nil_of_le (by omega), dTab_nil, Int.add_zero] at hq
    apply spec_heApart.step3
    unfold spec_heApart.step3_vc
    repeat' (with_reducible first
 | refine rTT ?_
 | refine rRFL ?_
 | refine rLEN (by assumption) ?_
 | (refine rIXk (by assumption) (by assumption) ?_; intro p hp)
 | (refine rIX (by assumption) (by omega) (by omega) ?_; intro p a ha hp)
 | refine rLDi (by assumption) ?_
 | (refine rLD (by assumption) ?_; intro c hc)
 | refine rADD (by omega) ?_
 | refine rSUB (by omega) ?_
 | refine rLSS ?_
 | refine rLEQ ?_
 | refine rGTR ?_
 | refine rGEQ ?_
 | refine rEQL ?_
 | refine rNEQ ?_
 | refine rNOT ?_
 | (refine rBRK ?_ ?_ <;> intro hb)
 | (refine rBRKn ?_ ?_ <;> intro hb)
 | (refine rBRKnb ?_ ?_ <;> intro hb)
 | (refine rBRKb ?_ ?_ <;> intro hb)
 | (refine rSPL ?_ ?_ <;> intro hb)
 | (refine rSPLn ?_ ?_ <;> intro hb)
 | (refine rSPLnb ?_ ?_ <;> intro hb)
 | (refine rSPLb ?_ ?_ <;> intro hb)
 | (exfalso; omega))
    refine rQUO (by decide) (half_in (by constructor <;> omega)) ?_
    exact hq
  | succ n ih =>
    intro k x hk h0 h1 hq
    obtain ⟨r, hr⟩ := ex_get (l := a) (k := k) (by omega)
    obtain ⟨s, hs⟩ := ex_get (l := b) (k := k) (by omega)
    rw [drop_some hr, drop_some hs, dTab] at hq
    obtain ⟨e1, e2⟩ := hrs k r s hr hs
    apply spec_heApart.step3
    unfold spec_heApart.step3_vc
    repeat' (with_reducible first
 | refine rTT ?_
 | refine rRFL ?_
 | refine rLEN (by assumption) ?_
 | (refine rIXk (by assumption) (by assumption) ?_; intro p hp)
 | (refine rIX (by assumption) (by omega) (by omega) ?_; intro p a ha hp)
 | refine rLDi (by assumption) ?_
 | (refine rLD (by assumption) ?_; intro c hc)
 | refine rADD (by omega) ?_
 | refine rSUB (by omega) ?_
 | refine rLSS ?_
 | refine rLEQ ?_
 | refine rGTR ?_
 | refine rGEQ ?_
 | refine rEQL ?_
 | refine rNEQ ?_
 | refine rNOT ?_
 | (refine rBRK ?_ ?_ <;> intro hb)
 | (refine rBRKn ?_ ?_ <;> intro hb)
 | (refine rBRKnb ?_ ?_ <;> intro hb)
 | (refine rBRKb ?_ ?_ <;> intro hb)
 | (refine rSPL ?_ ?_ <;> intro hb)
 | (refine rSPLn ?_ ?_ <;> intro hb)
 | (refine rSPLnb ?_ ?_ <;> intro hb)
 | (refine rSPLb ?_ ?_ <;> intro hb)
 | (exfalso; omega))
    refine apart_in hu (by assumption) hs e1 e2 (by omega) ha (ra r (List.mem_of_getElem? hr)) (rb s (List.mem_of_getElem? hs)) (fun g1 g2 => ?_) r.length 0 x (by omega) h0 (by omega) rfl
    refine ih (k + 1) _ (by omega) g1 (by omega) ?_
    rw [Int.add_assoc]; exact hq
end

theorem ht_rows {n : Nat} {m : List (List Int)} (h : Good n m) : ∀ r ∈ heightsF m, ∀ x ∈ r, 0 ≤ x ∧ x ≤ 1000 := by
  intro r hr x hx
  have hrl := heights_sq hr
  obtain ⟨i, hi, rfl⟩ := List.getElem_of_mem hr
  obtain ⟨j, hj, rfl⟩ := List.getElem_of_mem hx
  rw [heights_len] at hi
  have hl := h.len
  have := ht_bound h (i := i) (j := j) (by omega) (by omega)
  have e : getM (heightsF m) i j = (heightsF m)[i][j] := getM_at (List.getElem?_eq_getElem _) (List.getElem?_eq_getElem _)
  rw [e] at this; omega
theorem ht_pair {a b : List (List Int)} (hab : a.length = b.length) (h : a.length ≤ 50) : ∀ (i : Nat) (r s : List Int), (heightsF a)[i]? = some r → (heightsF b)[i]? = some s → r.length = s.length ∧ r.length ≤ 100 := by
  intro i r s hr hs
  rw [heights_sq (getElem_mem' hr), heights_sq (getElem_mem' hs)]; omega
theorem half_two {n : Nat} {a b : List (List Int)} (ha : Good n a) (hb : Good n b) : (0 + dTab (heightsF a) (heightsF b)).tdiv 2 = distM n a b := by
  rw [Int.zero_add, dTab_heights ha hb]; exact tdiv2 (dist_nonneg n a b)
section
variable {a b : List (List Int)} {v u : AVal} {H : Heap}
theorem distance_ok {n : Nat} (hv : IsTab v a) (hu : IsTab u b) (ha : Good n a) (hb' : Good n b) : ACalls Try.prog 65 [v, u] H fun r H' => r = I (distM n a b) ∧ H' = H := by
  have h6 := ha.n6
  have la := ha.len
  have lb := hb'.len
  apply impl_distance.start
  unfold impl_distance.start_vc
  refine ACalls.mono (heights_ok hv (by omega) (goodB_sq (goodB_of ha))) ?_
  rintro r1 H1 ⟨h1, rfl⟩
  refine ACalls.mono (heights_ok hu (by omega) (goodB_sq (goodB_of hb'))) ?_
  rintro r2 H2 ⟨h2, rfl⟩
  repeat' (with_reducible first
 | refine rTT ?_
 | refine rRFL ?_
 | refine rLEN (by assumption) ?_
 | (refine rIXk (by assumption) (by assumption) ?_; intro p hp)
 | (refine rIX (by assumption) (by omega) (by omega) ?_; intro p a ha hp)
 | refine rLDi (by assumption) ?_
 | (refine rLD (by assumption) ?_; intro c hc)
 | refine rADD (by omega) ?_
 | refine rSUB (by omega) ?_
 | refine rLSS ?_
 | refine rLEQ ?_
 | refine rGTR ?_
 | refine rGEQ ?_
 | refine rEQL ?_
 | refine rNEQ ?_
 | refine rNOT ?_
 | (refine rBRK ?_ ?_ <;> intro hb)
 | (refine rBRKn ?_ ?_ <;> intro hb)
 | (refine rBRKnb ?_ ?_ <;> intro hb)
 | (refine rBRKb ?_ ?_ <;> intro hb)
 | (refine rSPL ?_ ?_ <;> intro hb)
 | (refine rSPLn ?_ ?_ <;> intro hb)
 | (refine rSPLnb ?_ ?_ <;> intro hb)
 | (refine rSPLb ?_ ?_ <;> intro hb)
 | (exfalso; omega))
  refine dist_out h1 h2 (by rw [heights_len]; omega) (by rw [heights_len, heights_len]; omega) (ht_pair (by omega) (by omega)) (ht_rows ha) (ht_rows hb') _ 0 0 (by rw [Nat.zero_add]) (by omega) (by omega) ⟨?_, rfl⟩
  rw [List.drop_zero, List.drop_zero, half_two ha hb']
theorem heApart_ok {n : Nat} (h1 : IsTab v (heightsF a)) (h2 : IsTab u (heightsF b)) (ha : Good n a) (hb' : Good n b) : ACalls Try.prog 99 [v, u] H fun r H' => r = I (distM n a b) ∧ H' = H := by
  have h6 := ha.n6
  have la := ha.len
  have lb := hb'.len
  apply spec_heApart.start
  unfold spec_heApart.start_vc
  repeat' (with_reducible first
 | refine rTT ?_
 | refine rRFL ?_
 | refine rLEN (by assumption) ?_
 | (refine rIXk (by assumption) (by assumption) ?_; intro p hp)
 | (refine rIX (by assumption) (by omega) (by omega) ?_; intro p a ha hp)
 | refine rLDi (by assumption) ?_
 | (refine rLD (by assumption) ?_; intro c hc)
 | refine rADD (by omega) ?_
 | refine rSUB (by omega) ?_
 | refine rLSS ?_
 | refine rLEQ ?_
 | refine rGTR ?_
 | refine rGEQ ?_
 | refine rEQL ?_
 | refine rNEQ ?_
 | refine rNOT ?_
 | (refine rBRK ?_ ?_ <;> intro hb)
 | (refine rBRKn ?_ ?_ <;> intro hb)
 | (refine rBRKnb ?_ ?_ <;> intro hb)
 | (refine rBRKb ?_ ?_ <;> intro hb)
 | (refine rSPL ?_ ?_ <;> intro hb)
 | (refine rSPLn ?_ ?_ <;> intro hb)
 | (refine rSPLnb ?_ ?_ <;> intro hb)
 | (refine rSPLb ?_ ?_ <;> intro hb)
 | (exfalso; omega))
  refine apart_out h1 h2 (by rw [heights_len]; omega) (by rw [heights_len, heights_len]; omega) (ht_pair (by omega) (by omega)) (ht_rows ha) (ht_rows hb') _ 0 0 (by rw [Nat.zero_add]) (by omega) (by omega) ⟨?_, rfl⟩
  rw [List.drop_zero, List.drop_zero, half_two ha hb']
/-- A number and whether it is there. -/
def NumOk (b : Bool) (x : Int) (r : AVal) : Prop := r = .tup [I (bif b then x else 0), .bool b]
theorem rankOf_ok (hv : IsTab v a) (hl : a.length ≤ 100000) : ACalls Try.prog 38 [v] H fun r H' => NumOk (goodB a) (distM a.length a (leastF a.length)) r ∧ H' = H := by
  apply impl_RankOf.start
  unfold impl_RankOf.start_vc
  refine ACalls.mono (isSign_ok hv (by omega)) ?_
  rintro r H1 ⟨rfl, rfl⟩
  refine rNOT (rBRKnb (fun hb => ?_) (fun hb => ?_))
  · rw [hb]; exact ⟨rfl, rfl⟩
  · have G := goodB_iff.1 hb
    refine rLEN hv ?_
    refine ACalls.mono (least_ok hl) ?_
    rintro r2 H2 ⟨h2, rfl⟩
    refine ACalls.mono (distance_ok hv h2 G (least_good G.n1 G.n6)) ?_
    rintro r H1 ⟨rfl, rfl⟩
    rw [hb]; exact ⟨rfl, rfl⟩
theorem flipDistance_ok (hv : IsTab v a) (hu : IsTab u b) (la : a.length ≤ 100000) (lb : b.length ≤ 100000) : ACalls Try.prog 13 [v, u] H fun r H' => NumOk (pairB a b) (distM a.length a b) r ∧ H' = H := by
  apply impl_FlipDistance.start
  unfold impl_FlipDistance.start_vc
  refine ACalls.mono (arePair_ok hv hu la lb) ?_
  rintro r H1 ⟨rfl, rfl⟩
  refine rNOT (rBRKnb (fun hb => ?_) (fun hb => ?_))
  · rw [hb]; exact ⟨rfl, rfl⟩
  · have h := hb
    simp only [pairB, Bool.and_eq_true, decide_eq_true_eq] at h
    have Gb := goodB_iff.1 h.2.1
    rw [← h.2.2] at Gb
    refine ACalls.mono (distance_ok hv hu (goodB_iff.1 h.1) Gb) ?_
    rintro r H2 ⟨rfl, rfl⟩
    rw [hb]; exact ⟨rfl, rfl⟩
theorem specFlipDistance_ok (hv : IsTab v a) (hu : IsTab u b) (la : a.length ≤ 100000) (lb : b.length ≤ 100000) (ra : ∀ r ∈ a, r.length ≤ 1000000) (rb : ∀ r ∈ b, r.length ≤ 1000000) : ACalls Try.prog 44 [v, u] H fun r H' => NumOk (pairB a b) (distM a.length a b) r ∧ H' = H := by
  apply spec_FlipDistance.start
  unfold spec_FlipDistance.start_vc
  refine ACalls.mono (hePair_ok hv hu la lb ra rb) ?_
  rintro r H1 ⟨rfl, rfl⟩
  refine rNOT (rBRKnb (fun hb => ?_) (fun hb => ?_))
  · rw [hb]; exact ⟨rfl, rfl⟩
  · have h := hb
    simp only [pairB, Bool.and_eq_true, decide_eq_true_eq] at h
    have Gb := goodB_iff.1 h.2.1
    rw [← h.2.2] at Gb
    refine ACalls.mono (heOf_okF hv la (goodB_sq h.1)) ?_
    rintro r1 H2 ⟨h1, rfl⟩
    refine ACalls.mono (heOf_okF hu lb (goodB_sq h.2.1)) ?_
    rintro r2 H3 ⟨h2, rfl⟩
    refine ACalls.mono (heApart_ok h1 h2 (goodB_iff.1 h.1) Gb) ?_
    rintro r H2 ⟨rfl, rfl⟩
    rw [hb]; exact ⟨rfl, rfl⟩
end

end Go.Proofs.Ytccioplhchmilaa.AL

set_option linter.unusedVariables false
set_option maxRecDepth 100000
namespace Go.Proofs.Ytccioplhchmilaa.AL
open Go Go.Proofs

/-! impl.FollowFlips (slots: 0 m, 1 path, 2 m, 3 path, 6 h, 7 _, 8 c, 9 by) -/
namespace impl_FollowFlips
def lv : List (Nat × List Nat) := [(5, [6, 22, 23, 24])]
noncomputable def K5 : List KF := [.lp (cB (cB (cR (cL (cR (cR (cR (bodyOf Try.f14)))))))), .bl 0, .sq (cR (cR (cR (cR (bodyOf Try.f14)))))]
def L5 (Q : AVal → Heap → Prop) (v6 v22 v23 v24 : AVal) (H : Heap) : Prop := At Try.prog 14 55 K5 Q (slotsOf [(6, v6), (22, v22), (23, v23), (24, v24)]) H
theorem L5_frz {Q : AVal → Heap → Prop} {v6 v22 v23 v24 w6 w22 w23 w24 : AVal} {H Hf Hk : Heap} {k : Nat} (hs : Split H Hf Hk) (hp : PurL Hf k [(6, v6, w6), (22, v22, w22), (23, v23, w23), (24, v24, w24)]) (h : L5 Q w6 w22 w23 w24 Hk) : L5 Q v6 v22 v23 v24 H := at_frz (ks := K5) hs hp h
def start_vc (Q : AVal → Heap → Prop) (a0 a1 : AVal) (H : Heap) : Prop :=
 ACalls Try.prog 40 [a0] H fun x1 H2 =>
 NOTK x1 fun x3 =>
 SPL x3 (Q (AVal.tup [AVal.nilS, (AVal.bool false)]) H2) (LENK a0 fun x4 =>
 ACalls Try.prog 66 [x4, a1] H2 fun x5 H6 =>
 NOTK x5 fun x7 =>
 BRK x7 (Q (AVal.tup [AVal.nilS, (AVal.bool false)]) H6) (ACalls Try.prog 56 [a0] H6 fun x8 H9 =>
 LENK a1 fun x10 =>
 impl_FollowFlips.L5 Q x8 a1 x10 (AVal.int .i64 0) H9))
theorem start_eq (Q : AVal → Heap → Prop) (a0 a1 : AVal) (H : Heap) : vs Try.prog lv 14 55 Try.f14.results.toList Q true 1000 [.sq (bodyOf Try.f14)] (entry [a0, a1]) H = start_vc Q a0 a1 H := by kernel_rfl
theorem start {Q : AVal → Heap → Prop} {a0 a1 : AVal} {H : Heap} (h : start_vc Q a0 a1 H) : ACalls Try.prog 14 [a0, a1] H Q := acalls_vs (lv := lv) mixed Try.func14 rfl (by kernel_rfl) (by kernel_rfl) (start_eq Q a0 a1 H ▸ h)
def step5_vc (Q : AVal → Heap → Prop) (v6 v22 v23 v24 : AVal) (H : Heap) : Prop :=
 BINK .lss v24 v23 fun x1 =>
 BRK x1 (TT ∧ IXK 1 v22 v24 fun x2 =>
 TT ∧ TT ∧ LDK false 1 H x2 fun x3 =>
 TT ∧ TT ∧ IXK 1 x3 (AVal.int .i64 0) fun x4 =>
 TT ∧ TT ∧ LDK false 1 H x4 fun x5 =>
 TT ∧ IXK 1 x3 (AVal.int .i64 1) fun x6 =>
 TT ∧ TT ∧ LDK false 1 H x6 fun x7 =>
 ACalls Try.prog 60 [v6, x5, x7] H fun x8 H9 =>
 BINK .eql x8 (AVal.int .i64 0) fun x10 =>
 BRK x10 (Q (AVal.tup [AVal.nilS, (AVal.bool false)]) H9) (TT ∧ TT ∧ IXK 1 x3 (AVal.int .i64 0) fun x11 =>
 TT ∧ TT ∧ LDK false 1 H9 x11 fun x12 =>
 TT ∧ IXK 1 v6 x12 fun x13 =>
 TT ∧ TT ∧ LDK false 1 H9 x13 fun x14 =>
 TT ∧ IXK 1 x3 (AVal.int .i64 1) fun x15 =>
 TT ∧ TT ∧ LDK false 1 H9 x15 fun x16 =>
 TT ∧ IXK 1 x14 x16 fun x17 =>
 TT ∧ TT ∧ LDK false 1 H9 x17 fun x18 =>
 BINK .add x18 x8 fun x19 =>
 TT ∧ IXK 1 x14 x16 fun x20 =>
 TT ∧ STK 1 H9 x20 x19 fun H21 =>
 BINK .add v24 (AVal.int .i64 1) fun x22 =>
 impl_FollowFlips.L5 Q v6 v22 v23 x22 H21)) (ACalls Try.prog 67 [v6] H fun x23 H24 =>
 Q (AVal.tup [x23, (AVal.bool true)]) H24)
theorem step5_eq (Q : AVal → Heap → Prop) (v6 v22 v23 v24 : AVal) (H : Heap) : vs Try.prog lv 14 55 Try.f14.results.toList Q true 1000 (.sq (cB (cB (cR (cL (cR (cR (cR (bodyOf Try.f14)))))))) :: K5) (slotsOf [(6, v6), (22, v22), (23, v23), (24, v24)]) H = step5_vc Q v6 v22 v23 v24 H := by kernel_rfl
theorem step5 {Q : AVal → Heap → Prop} {v6 v22 v23 v24 : AVal} {H : Heap} (h : step5_vc Q v6 v22 v23 v24 H) : L5 Q v6 v22 v23 v24 H := at_lp_vs (lv := lv) (ks := K5.tail) mixed Try.func14 (step5_eq Q v6 v22 v23 v24 H ▸ h)
end impl_FollowFlips

/-! impl.FlipAt (slots: 0 m, 1 i, 2 j, 3 m, 4 i, 5 j) -/
namespace impl_FlipAt
def lv : List (Nat × List Nat) := []
def start_vc (Q : AVal → Heap → Prop) (a0 a1 a2 : AVal) (H : Heap) : Prop :=
 TT ∧ TT ∧ TT ∧ BSK 1 [a1, a2] H fun x1 H2 =>
 TT ∧ TT ∧ TT ∧ BSK 1 [x1] H2 fun x3 H4 =>
 ACalls Try.prog 14 [a0, x3] H4 fun x5 H6 =>
 EXTK x5 0 fun x7 =>
 EXTK x5 1 fun x8 =>
 Q (AVal.tup [x7, x8]) H6
theorem start_eq (Q : AVal → Heap → Prop) (a0 a1 a2 : AVal) (H : Heap) : vs Try.prog lv 36 16 Try.f36.results.toList Q true 1000 [.sq (bodyOf Try.f36)] (entry [a0, a1, a2]) H = start_vc Q a0 a1 a2 H := by kernel_rfl
theorem start {Q : AVal → Heap → Prop} {a0 a1 a2 : AVal} {H : Heap} (h : start_vc Q a0 a1 a2 H) : ACalls Try.prog 36 [a0, a1, a2] H Q := acalls_vs (lv := lv) mixed Try.func36 rfl (by kernel_rfl) (by kernel_rfl) (start_eq Q a0 a1 a2 H ▸ h)
end impl_FlipAt

/-! spec.FollowFlips (slots: 0 m, 1 path, 2 m, 3 path, 6 h, 7 _, 8 cell, 9 way) -/
namespace spec_FollowFlips
def lv : List (Nat × List Nat) := [(5, [0, 6, 20, 21, 22])]
noncomputable def K5 : List KF := [.lp (cB (cB (cR (cL (cR (cR (cR (bodyOf Try.f46)))))))), .bl 0, .sq (cR (cR (cR (cR (bodyOf Try.f46)))))]
def L5 (Q : AVal → Heap → Prop) (v0 v6 v20 v21 v22 : AVal) (H : Heap) : Prop := At Try.prog 46 69 K5 Q (slotsOf [(0, v0), (6, v6), (20, v20), (21, v21), (22, v22)]) H
theorem L5_frz {Q : AVal → Heap → Prop} {v0 v6 v20 v21 v22 w0 w6 w20 w21 w22 : AVal} {H Hf Hk : Heap} {k : Nat} (hs : Split H Hf Hk) (hp : PurL Hf k [(0, v0, w0), (6, v6, w6), (20, v20, w20), (21, v21, w21), (22, v22, w22)]) (h : L5 Q w0 w6 w20 w21 w22 Hk) : L5 Q v0 v6 v20 v21 v22 H := at_frz (ks := K5) hs hp h
def start_vc (Q : AVal → Heap → Prop) (a0 a1 : AVal) (H : Heap) : Prop :=
 ACalls Try.prog 53 [a0] H fun x1 H2 =>
 NOTK x1 fun x3 =>
 SPL x3 (Q (AVal.tup [AVal.nilS, (AVal.bool false)]) H2) (LENK a1 fun x4 =>
 BINK .gtr x4 (AVal.int .i64 200) fun x5 =>
 BRK x5 (Q (AVal.tup [AVal.nilS, (AVal.bool false)]) H2) (ACalls Try.prog 61 [a0] H2 fun x6 H7 =>
 LENK a1 fun x8 =>
 spec_FollowFlips.L5 Q a0 x6 a1 x8 (AVal.int .i64 0) H7))
theorem start_eq (Q : AVal → Heap → Prop) (a0 a1 : AVal) (H : Heap) : vs Try.prog lv 46 69 Try.f46.results.toList Q true 1000 [.sq (bodyOf Try.f46)] (entry [a0, a1]) H = start_vc Q a0 a1 H := by kernel_rfl
theorem start {Q : AVal → Heap → Prop} {a0 a1 : AVal} {H : Heap} (h : start_vc Q a0 a1 H) : ACalls Try.prog 46 [a0, a1] H Q := acalls_vs (lv := lv) mixed Try.func46 rfl (by kernel_rfl) (by kernel_rfl) (start_eq Q a0 a1 H ▸ h)
def step5_vc (Q : AVal → Heap → Prop) (v0 v6 v20 v21 v22 : AVal) (H : Heap) : Prop :=
 BINK .lss v22 v21 fun x1 =>
 BRK x1 (TT ∧ IXK 1 v20 v22 fun x2 =>
 TT ∧ TT ∧ LDK false 1 H x2 fun x3 =>
 TT ∧ LENK x3 fun x4 =>
 BINK .neq x4 (AVal.int .i64 2) fun x5 =>
 SPL x5 (Q (AVal.tup [AVal.nilS, (AVal.bool false)]) H) (LENK v0 fun x6 =>
 TT ∧ IXK 1 x3 (AVal.int .i64 0) fun x7 =>
 TT ∧ TT ∧ LDK false 1 H x7 fun x8 =>
 TT ∧ IXK 1 x3 (AVal.int .i64 1) fun x9 =>
 TT ∧ TT ∧ LDK false 1 H x9 fun x10 =>
 ACalls Try.prog 72 [x6, x8, x10] H fun x11 H12 =>
 NOTK x11 fun x13 =>
 BRK x13 (Q (AVal.tup [AVal.nilS, (AVal.bool false)]) H12) (TT ∧ TT ∧ IXK 1 x3 (AVal.int .i64 0) fun x14 =>
 TT ∧ TT ∧ LDK false 1 H12 x14 fun x15 =>
 TT ∧ IXK 1 x3 (AVal.int .i64 1) fun x16 =>
 TT ∧ TT ∧ LDK false 1 H12 x16 fun x17 =>
 ACalls Try.prog 62 [v6, x15, x17] H12 fun x18 H19 =>
 BINK .eql x18 (AVal.int .i64 0) fun x20 =>
 BRK x20 (Q (AVal.tup [AVal.nilS, (AVal.bool false)]) H19) (TT ∧ TT ∧ IXK 1 x3 (AVal.int .i64 0) fun x21 =>
 TT ∧ TT ∧ LDK false 1 H19 x21 fun x22 =>
 TT ∧ IXK 1 v6 x22 fun x23 =>
 TT ∧ TT ∧ LDK false 1 H19 x23 fun x24 =>
 TT ∧ IXK 1 x3 (AVal.int .i64 1) fun x25 =>
 TT ∧ TT ∧ LDK false 1 H19 x25 fun x26 =>
 TT ∧ IXK 1 x24 x26 fun x27 =>
 TT ∧ TT ∧ LDK false 1 H19 x27 fun x28 =>
 BINK .mul (AVal.int .i64 2) x18 fun x29 =>
 BINK .add x28 x29 fun x30 =>
 TT ∧ IXK 1 x24 x26 fun x31 =>
 TT ∧ STK 1 H19 x31 x30 fun H32 =>
 BINK .add v22 (AVal.int .i64 1) fun x33 =>
 spec_FollowFlips.L5 Q v0 v6 v20 v21 x33 H32)))) (ACalls Try.prog 74 [v6] H fun x34 H35 =>
 Q (AVal.tup [x34, (AVal.bool true)]) H35)
theorem step5_eq (Q : AVal → Heap → Prop) (v0 v6 v20 v21 v22 : AVal) (H : Heap) : vs Try.prog lv 46 69 Try.f46.results.toList Q true 1000 (.sq (cB (cB (cR (cL (cR (cR (cR (bodyOf Try.f46)))))))) :: K5) (slotsOf [(0, v0), (6, v6), (20, v20), (21, v21), (22, v22)]) H = step5_vc Q v0 v6 v20 v21 v22 H := by kernel_rfl
theorem step5 {Q : AVal → Heap → Prop} {v0 v6 v20 v21 v22 : AVal} {H : Heap} (h : step5_vc Q v0 v6 v20 v21 v22 H) : L5 Q v0 v6 v20 v21 v22 H := at_lp_vs (lv := lv) (ks := K5.tail) mixed Try.func46 (step5_eq Q v0 v6 v20 v21 v22 H ▸ h)
end spec_FollowFlips


/-- All that was there is there; there is more. -/
structure Grow (H H1 : Heap) : Prop where
  len : H.length ≤ H1.length
  old : ∀ i, i < H.length → hget H1 i = hget H i
theorem Grow.refl (H : Heap) : Grow H H := ⟨Nat.le_refl _, fun _ _ => rfl⟩
theorem Grow.sub {H H1 : Heap} (h : Grow H H1) : HSub H H1 := fun i g cs hi => by rw [h.old i (hlt_of_get hi)]; exact hi
theorem Grow.trans {H H1 H2 : Heap} (h : Grow H H1) (k : Grow H1 H2) : Grow H H2 := ⟨Nat.le_trans h.len k.len, fun i hi => (k.old i (Nat.lt_of_lt_of_le hi h.len)).trans (h.old i hi)⟩
theorem Grow.set {H H1 : Heap} (h : Grow H H1) {i : Nat} (hi : H.length ≤ i) (g : Nat) (cs : List AVal) : Grow H (hset H1 i g cs) :=
  ⟨by rw [hlen_set]; exact h.len, fun j hj => by rw [hget_set_ne _ _ (by omega)]; exact h.old j hj⟩
theorem Grow.new (H : Heap) (g : Nat) (cs : List AVal) : Grow H (hnew H g cs) := ⟨by rw [hlen_new]; omega, fun i hi => hget_old _ _ hi⟩
theorem Fresh.grow {H H1 : Heap} (h : Fresh H H1) : Grow H H1 := ⟨h.len, h.old⟩

theorem heightsO_ok {t : List (List Int)} {v : AVal} (hv : IsTab v t) (hl : t.length ≤ 100000) (hs : isSquareB t = true) {H : Heap} : ACalls Try.prog 56 [v] H fun r H' => IsOTab H.length H' r (heightsF t) ∧ Grow H H' := by
  apply impl_heights.start
  unfold impl_heights.start_vc
  refine rBOX hv.one fun g => ?_
  repeat' (first
 | (refine rLDp (hget_new _ _ _) ?_)
 | with_reducible first
 | refine rTT ?_
 | refine rRFL ?_
 | refine rLEN (by assumption) ?_
 | (refine rIXk (by assumption) (by assumption) ?_; intro p hp)
 | (refine rIX (by assumption) (by omega) (by omega) ?_; intro p a ha hp)
 | refine rLDi (by assumption) ?_
 | (refine rLD (by assumption) ?_; intro c hc)
 | refine rADD (by omega) ?_
 | refine rSUB (by omega) ?_
 | refine rLSS ?_
 | refine rLEQ ?_
 | refine rGTR ?_
 | refine rGEQ ?_
 | refine rEQL ?_
 | refine rNEQ ?_
 | refine rNOT ?_
 | (refine rBRK ?_ ?_ <;> intro hb)
 | (refine rBRKn ?_ ?_ <;> intro hb)
 | (refine rBRKnb ?_ ?_ <;> intro hb)
 | (refine rBRKb ?_ ?_ <;> intro hb)
 | (refine rSPL ?_ ?_ <;> intro hb)
 | (refine rSPLn ?_ ?_ <;> intro hb)
 | (refine rSPLnb ?_ ?_ <;> intro hb)
 | (refine rSPLb ?_ ?_ <;> intro hb)
 | (exfalso; omega))
  have e : ((t.length : Int) + 1) = ((t.length + 1 : Nat) : Int) := by omega
  rw [e]
  refine ACalls.mono (table_ok (F := heightAt t) (by omega) (by omega) ?_) ?_
  · intro i j hi hj H1 hF
    refine rCALL ?_
    show ACalls Try.prog 108 [I i, I j, .ptr H.length g 0] _ _
    apply impl_heights_1.start
    unfold impl_heights_1.start_vc
    refine rADDw ?_
    repeat' (with_reducible first
 | refine rTT ?_
 | refine rRFL ?_
 | refine rLEN (by assumption) ?_
 | (refine rIXk (by assumption) (by assumption) ?_; intro p hp)
 | (refine rIX (by assumption) (by omega) (by omega) ?_; intro p a ha hp)
 | refine rLDi (by assumption) ?_
 | (refine rLD (by assumption) ?_; intro c hc)
 | refine rADD (by omega) ?_
 | refine rSUB (by omega) ?_
 | refine rLSS ?_
 | refine rLEQ ?_
 | refine rGTR ?_
 | refine rGEQ ?_
 | refine rEQL ?_
 | refine rNEQ ?_
 | refine rNOT ?_
 | (refine rBRK ?_ ?_ <;> intro hb)
 | (refine rBRKn ?_ ?_ <;> intro hb)
 | (refine rBRKnb ?_ ?_ <;> intro hb)
 | (refine rBRKb ?_ ?_ <;> intro hb)
 | (refine rSPL ?_ ?_ <;> intro hb)
 | (refine rSPLn ?_ ?_ <;> intro hb)
 | (refine rSPLnb ?_ ?_ <;> intro hb)
 | (refine rSPLb ?_ ?_ <;> intro hb)
 | (exfalso; omega))
    refine rLDp (by rw [hF.old _ (by rw [hlen_new]; omega), hget_new]) ?_
    refine ACalls.mono (cornerSum_ok hv (by omega) (by omega) (fun r hr => by rw [sq_len hs hr]; omega)) ?_
    rintro r H2 ⟨rfl, rfl⟩
    refine rMULw ?_
    refine rSUBw ?_
    exact ⟨rfl, rfl⟩
  · rintro r H1 ⟨h1, h2⟩
    exact ⟨h1.lo (by rw [hlen_new]; omega), (Grow.new H g [v]).trans h2.grow⟩

/-- A table that there may be. -/
def OptTab (o : Option (List (List Int))) (r : AVal) : Prop := TabOk o.isSome (o.getD []) r
theorem optNo : OptTab none (.tup [.nilS, .bool false]) := tabOk_no
theorem isCell_iff {n : Nat} {c : List Int} (h : isCellB n c = true) : ∃ i j : Nat, c = [(i : Int), (j : Int)] ∧ 1 ≤ i ∧ i < n ∧ 1 ≤ j ∧ j < n := by
  unfold isCellB at h
  simp only [Bool.and_eq_true, decide_eq_true_eq] at h
  obtain ⟨h1, h2, h3⟩ := h
  match c, h1, h2, h3 with
  | [x, y], _, h2, h3 =>
    simp only [List.getD_cons_zero, List.getD_cons_succ] at h2 h3
    exact ⟨x.toNat, y.toNat, by rw [Int.toNat_of_nonneg (by omega), Int.toNat_of_nonneg (by omega)], by omega, by omega, by omega, by omega⟩
theorem up_set {n : Nat} {m : List (List Int)} (G : Good n m) {i j : Nat} {row : List Int} {x : Int} (hi : i ≤ n) (hj : j ≤ n) (hr : (heightsF m)[i]? = some row) (hx : row[j]? = some x) : (heightsF m).set i (row.set j (x + 2 * heWayF (heightsF m) i j)) = heUp (heightsF m) i j := by
  unfold heUp setM
  rw [getM_at hr hx, w64_in]
  · simp [List.getD, hr]
  · have := ht_bound G hi hj
    rw [getM_at hr hx] at this
    have := way_cases (heightsF m) i j
    constructor <;> omega

section
variable {n : Nat} {L : List (List Int)} {vp : AVal} {H0 : Heap} {o : Option (List (List Int))}
def QFol (H0 : Heap) (o : Option (List (List Int))) : AVal → Heap → Prop := fun r H' => ∃ H1, HSub H1 H' ∧ (OptTab o r ∧ H1 = H0)
theorem fol_end {k g : Nat} {rows : List AVal} {ks : List Nat} {m : List (List Int)} {H : Heap} (G : Good n m) (ho : OTab H0.length H k g rows ks (heightsF m)) (hG : Grow H0 H) :
    ACalls Try.prog 67 [.own k g 1 0 (heightsF m).length] H fun r H' => IsTab r m ∧ H' = H0 := by
  obtain ⟨v', q1, q2⟩ := (ho.is rfl).pur (Hf := nw H0 H) fun i hi => nw_above H0 H hi
  refine ACalls.frz (nw_split hG.sub) (k := 2) (args' := [v']) ⟨v', [], rfl, q1, rfl⟩ ?_
  have h6 := G.n6
  have hl := G.len
  have := fromHeights_ok q2 (by rw [heights_len]; omega) (by rw [heights_len]; omega) (by simp only [isSquareB, List.all_eq_true, decide_eq_true_eq, heights_len]; exact fun r hr => heights_sq hr) (H := H0)
  rw [fromHeights_good G] at this
  exact this
theorem fol_endS {k g : Nat} {rows : List AVal} {ks : List Nat} {m : List (List Int)} {H : Heap} (G : Good n m) (ho : OTab H0.length H k g rows ks (heightsF m)) (hG : Grow H0 H) :
    ACalls Try.prog 74 [.own k g 1 0 (heightsF m).length] H fun r H' => IsTab r m ∧ H' = H0 := by
  obtain ⟨v', q1, q2⟩ := (ho.is rfl).pur (Hf := nw H0 H) fun i hi => nw_above H0 H hi
  refine ACalls.frz (nw_split hG.sub) (k := 2) (args' := [v']) ⟨v', [], rfl, q1, rfl⟩ ?_
  have h6 := G.n6
  have h1 := G.n1
  have hl := G.len
  have := heFrom_ok (n := n) q2 (by rw [heights_len]; omega) (by simp only [isSquareB, List.all_eq_true, decide_eq_true_eq, heights_len]; exact fun r hr => heights_sq hr) (by rw [heights_len]; omega) h1 (H := H0)
  have e : fromT (tabT n n (heCorn (heightsF m))) = m := by
    have := heFrom_good G
    unfold heFromF at this
    rw [heights_len, hl, Nat.add_sub_cancel] at this; exact this
  rw [e] at this
  exact this
theorem follow_loop (hp : IsTab vp L) (hL : L.length ≤ 1000000) (hcs : ∀ c ∈ L, isCellB n c = true) {k g : Nat} {rows : List AVal} {ks : List Nat} : ∀ (cnt x : Nat) (m : List (List Int)) (H : Heap), x + cnt = L.length → Good n m → OTab H0.length H k g rows ks (heightsF m) → Grow H0 H → followM n m (L.drop x) = o →
    impl_FollowFlips.L5 (QFol H0 o) (.own k g 1 0 (n + 1)) vp (I L.length) (I x) H := by
  intro cnt
  induction cnt with
  | zero =>
    intro x m H hx G ho hG he
    have hl : (heightsF m).length = n + 1 := by rw [heights_len, G.len]
    rw [List.drop_eq_nil_of_le (by omega), followM] at he
    apply impl_FollowFlips.step5
    unfold impl_FollowFlips.step5_vc
    repeat' (with_reducible first
 | refine rTT ?_
 | refine rRFL ?_
 | refine rLEN (by assumption) ?_
 | (refine rIXk (by assumption) (by assumption) ?_; intro p hp)
 | (refine rIX (by assumption) (by omega) (by omega) ?_; intro p a ha hp)
 | refine rLDi (by assumption) ?_
 | (refine rLD (by assumption) ?_; intro c hc)
 | refine rADD (by omega) ?_
 | refine rSUB (by omega) ?_
 | refine rLSS ?_
 | refine rLEQ ?_
 | refine rGTR ?_
 | refine rGEQ ?_
 | refine rEQL ?_
 | refine rNEQ ?_
 | refine rNOT ?_
 | (refine rBRK ?_ ?_ <;> intro hb)
 | (refine rBRKn ?_ ?_ <;> intro hb)
 | (refine rBRKnb ?_ ?_ <;> intro hb)
 | (refine rBRKb ?_ ?_ <;> intro hb)
 | (refine rSPL ?_ ?_ <;> intro hb)
 | (refine rSPLn ?_ ?_ <;> intro hb)
 | (refine rSPLnb ?_ ?_ <;> intro hb)
 | (refine rSPLb ?_ ?_ <;> intro hb)
 | (exfalso; omega))
    rw [← hl]
    refine ACalls.mono (fol_end G ho hG) ?_
    rintro r H1 ⟨h1, rfl⟩
    exact ⟨_, HSub.refl _, by rw [← he]; exact ⟨_, rfl, h1⟩, rfl⟩
  | succ cnt ih =>
    intro x m H hx G ho hG he
    have hl : (heightsF m).length = n + 1 := by rw [heights_len, G.len]
    have h6 := G.n6
    obtain ⟨cl, hcx⟩ := ex_get (l := L) (k := x) (by omega)
    rw [drop_some hcx] at he
    obtain ⟨i, j, rfl, i1, i2, j1, j2⟩ := isCell_iff (hcs cl (getElem_mem' hcx))
    have q0 : [(i : Int), (j : Int)][0]? = some (i : Int) := rfl
    have q1 : [(i : Int), (j : Int)][1]? = some (j : Int) := rfl
    rw [followM] at he
    have e1 : ([(i : Int), (j : Int)].getD 0 0).toNat = i := rfl
    have e2 : ([(i : Int), (j : Int)].getD 1 0).toNat = j := rfl
    rw [e1, e2] at he
    apply impl_FollowFlips.step5
    unfold impl_FollowFlips.step5_vc
    repeat' (first
 | ((refine rIXk (i := 0) (by assumption) q0 ?_; intro p hp))
 | ((refine rIXk (i := 1) (by assumption) q1 ?_; intro p hp))
 | with_reducible first
 | refine rTT ?_
 | refine rRFL ?_
 | refine rLEN (by assumption) ?_
 | (refine rIXk (by assumption) (by assumption) ?_; intro p hp)
 | (refine rIX (by assumption) (by omega) (by omega) ?_; intro p a ha hp)
 | refine rLDi (by assumption) ?_
 | (refine rLD (by assumption) ?_; intro c hc)
 | refine rADD (by omega) ?_
 | refine rSUB (by omega) ?_
 | refine rLSS ?_
 | refine rLEQ ?_
 | refine rGTR ?_
 | refine rGEQ ?_
 | refine rEQL ?_
 | refine rNEQ ?_
 | refine rNOT ?_
 | (refine rBRK ?_ ?_ <;> intro hb)
 | (refine rBRKn ?_ ?_ <;> intro hb)
 | (refine rBRKnb ?_ ?_ <;> intro hb)
 | (refine rBRKb ?_ ?_ <;> intro hb)
 | (refine rSPL ?_ ?_ <;> intro hb)
 | (refine rSPLn ?_ ?_ <;> intro hb)
 | (refine rSPLnb ?_ ?_ <;> intro hb)
 | (refine rSPLb ?_ ?_ <;> intro hb)
 | (exfalso; omega))
    have hO : IsOTab H0.length H (.own k g 1 0 (n + 1)) (heightsF m) := by rw [← hl]; exact ho.is rfl
    refine ACalls.mono (way_own hO hl (fun r hr => by rw [heights_sq hr, G.len]) i1 (by omega) j1 (by omega) (by omega)) ?_
    rintro r H1 ⟨rfl, rfl⟩
    rw [way_eq G i1 i2 j1 j2]
    refine rEQL (rBRK (fun hb => ?_) (fun hb => ?_))
    · rw [if_neg (by omega)] at he
      exact ⟨H0, hG.sub, by rw [← he]; exact optNo, rfl⟩
    · have hw : heWayF (heightsF m) i j ≠ 0 := by omega
      rw [if_pos ⟨hcs _ (getElem_mem' hcx), hw⟩] at he
      obtain ⟨row, hrow⟩ := ex_get (l := heightsF m) (k := i) (by omega)
      have hrl : row.length = n + 1 := by rw [heights_sq (getElem_mem' hrow), G.len]
      obtain ⟨y, hy⟩ := ex_get (l := row) (k := j) (by omega)
      obtain ⟨kj, gj, g1, g2, g3, g4, g5⟩ := ho.get hrow
      have hy' : (row.map I)[j]? = some (I y) := by rw [List.getElem?_map, hy]; rfl
      have ht := ho.top
      have hb2 := ht_bound G (i := i) (j := j) (by omega) (by omega)
      rw [getM_at hrow hy] at hb2
      have hwc := way_cases (heightsF m) i j
      repeat' (first
 | ((refine rIXk (i := 0) (by assumption) q0 ?_; intro p hp))
 | ((refine rIXk (i := 1) (by assumption) q1 ?_; intro p hp))
 | with_reducible first
 | refine rTT ?_
 | refine rRFL ?_
 | refine rLEN (by assumption) ?_
 | refine rLENo ?_
 | refine rEXT0 ?_
 | refine rEXT1 ?_
 | refine rNEB ?_
 | refine rEQB ?_
 | refine rLDp (by assumption) ?_
 | refine rLDf (by assumption) (by assumption) ?_
 | refine rIXo (by omega) ?_
 | (refine rIXqi (by assumption) (by assumption) ?_; intro cs o hc)
 | (refine rIXq (by assumption) (by assumption) ?_; intro cs o c hc hr)
 | refine rLDq (by assumption) ?_
 | refine ⟨rTT (rTT (rLDq (by assumption) rfl)), ?_⟩
 | refine ⟨rTT (rTT (rLDp (by assumption) rfl)), ?_⟩
 | refine ⟨rTT (rTT (rLDf (by assumption) (by assumption) rfl)), ?_⟩
 | (refine rIXk (by assumption) (by assumption) ?_; intro p hp)
 | (refine rIX (by assumption) (by omega) (by omega) ?_; intro p a ha hp)
 | refine rLDi (by assumption) ?_
 | (refine rLD (by assumption) ?_; intro c hc)
 | refine rADD (by omega) ?_
 | refine rSUB (by omega) ?_
 | refine rLSS ?_
 | refine rLEQ ?_
 | refine rGTR ?_
 | refine rGEQ ?_
 | refine rEQL ?_
 | refine rNEQ ?_
 | refine rNOT ?_
 | (refine rBRK ?_ ?_ <;> intro hb)
 | (refine rBRKn ?_ ?_ <;> intro hb)
 | (refine rBRKnb ?_ ?_ <;> intro hb)
 | (refine rBRKb ?_ ?_ <;> intro hb)
 | (refine rSPL ?_ ?_ <;> intro hb)
 | (refine rSPLn ?_ ?_ <;> intro hb)
 | (refine rSPLnb ?_ ?_ <;> intro hb)
 | (refine rSPLb ?_ ?_ <;> intro hb)
 | (exfalso; omega))
      refine rSTp g3 (by simp; omega) rfl ?_
      repeat' (with_reducible first
 | refine rTT ?_
 | refine rRFL ?_
 | refine rLEN (by assumption) ?_
 | (refine rIXk (by assumption) (by assumption) ?_; intro p hp)
 | (refine rIX (by assumption) (by omega) (by omega) ?_; intro p a ha hp)
 | refine rLDi (by assumption) ?_
 | (refine rLD (by assumption) ?_; intro c hc)
 | refine rADD (by omega) ?_
 | refine rSUB (by omega) ?_
 | refine rLSS ?_
 | refine rLEQ ?_
 | refine rGTR ?_
 | refine rGEQ ?_
 | refine rEQL ?_
 | refine rNEQ ?_
 | refine rNOT ?_
 | (refine rBRK ?_ ?_ <;> intro hb)
 | (refine rBRKn ?_ ?_ <;> intro hb)
 | (refine rBRKnb ?_ ?_ <;> intro hb)
 | (refine rBRKb ?_ ?_ <;> intro hb)
 | (refine rSPL ?_ ?_ <;> intro hb)
 | (refine rSPLn ?_ ?_ <;> intro hb)
 | (refine rSPLnb ?_ ?_ <;> intro hb)
 | (refine rSPLb ?_ ?_ <;> intro hb)
 | (exfalso; omega))
      have hset1 : ∀ w, (row.map I).set j (I w) = (row.set j w).map I := fun w => by rw [List.map_set]
      rw [hset1]
      have ho2 := ho.put hrow g1 g3 (r' := row.set j (y + 2 * heWayF (heightsF m) i j)) (by simp)
      rw [up_set G (by omega) (by omega) hrow hy, flip_ht G i1 i2 j1 j2 hw] at ho2
      exact ih (x + 1) _ _ (by omega) (flip_good G i1 i2 j1 j2 hw) ho2 (hG.set g4 _ _) he
theorem followS_loop {v0 : AVal} {m0 : List (List Int)} (hm0 : IsTab v0 m0) (hm0l : m0.length = n) (hp : IsTab vp L) (hL : L.length ≤ 1000000) (hr : ∀ c ∈ L, c.length ≤ 1000000) {k g : Nat} {rows : List AVal} {ks : List Nat} : ∀ (cnt x : Nat) (m : List (List Int)) (H : Heap), x + cnt = L.length → Good n m → OTab H0.length H k g rows ks (heightsF m) → Grow H0 H → followM n m (L.drop x) = o →
    spec_FollowFlips.L5 (QFol H0 o) v0 (.own k g 1 0 (n + 1)) vp (I L.length) (I x) H := by
  intro cnt
  induction cnt with
  | zero =>
    intro x m H hx G ho hG he
    have hl : (heightsF m).length = n + 1 := by rw [heights_len, G.len]
    rw [List.drop_eq_nil_of_le (by omega), followM] at he
    apply spec_FollowFlips.step5
    unfold spec_FollowFlips.step5_vc
    repeat' (with_reducible first
 | refine rTT ?_
 | refine rRFL ?_
 | refine rLEN (by assumption) ?_
 | (refine rIXk (by assumption) (by assumption) ?_; intro p hp)
 | (refine rIX (by assumption) (by omega) (by omega) ?_; intro p a ha hp)
 | refine rLDi (by assumption) ?_
 | (refine rLD (by assumption) ?_; intro c hc)
 | refine rADD (by omega) ?_
 | refine rSUB (by omega) ?_
 | refine rLSS ?_
 | refine rLEQ ?_
 | refine rGTR ?_
 | refine rGEQ ?_
 | refine rEQL ?_
 | refine rNEQ ?_
 | refine rNOT ?_
 | (refine rBRK ?_ ?_ <;> intro hb)
 | (refine rBRKn ?_ ?_ <;> intro hb)
 | (refine rBRKnb ?_ ?_ <;> intro hb)
 | (refine rBRKb ?_ ?_ <;> intro hb)
 | (refine rSPL ?_ ?_ <;> intro hb)
 | (refine rSPLn ?_ ?_ <;> intro hb)
 | (refine rSPLnb ?_ ?_ <;> intro hb)
 | (refine rSPLb ?_ ?_ <;> intro hb)
 | (exfalso; omega))
    rw [← hl]
    refine ACalls.mono (fol_endS G ho hG) ?_
    rintro r H1 ⟨h1, rfl⟩
    exact ⟨_, HSub.refl _, by rw [← he]; exact ⟨_, rfl, h1⟩, rfl⟩
  | succ cnt ih =>
    intro x m H hx G ho hG he
    have hl : (heightsF m).length = n + 1 := by rw [heights_len, G.len]
    have h6 := G.n6
    obtain ⟨cl, hcx⟩ := ex_get (l := L) (k := x) (by omega)
    have hcl := hr cl (getElem_mem' hcx)
    rw [drop_some hcx] at he
    have hno : isCellB n cl = false → OptTab o (.tup [.nilS, .bool false]) := by
      intro h
      rw [followM, if_neg (by rw [h]; simp)] at he
      rw [← he]; exact optNo
    by_cases h2 : cl.length = 2
    · obtain ⟨xi, xj, rfl⟩ : ∃ x y, cl = [x, y] := by
        match cl, h2 with
        | [x, y], _ => exact ⟨x, y, rfl⟩
      have q0 : [xi, xj][0]? = some xi := rfl
      have q1 : [xi, xj][1]? = some xj := rfl
      have hl2 : [xi, xj].length = 2 := rfl
      apply spec_FollowFlips.step5
      unfold spec_FollowFlips.step5_vc
      repeat' (first
 | ((refine rIXk (i := 0) (by assumption) q0 ?_; intro p hp))
 | ((refine rIXk (i := 1) (by assumption) q1 ?_; intro p hp))
 | with_reducible first
 | refine rTT ?_
 | refine rRFL ?_
 | refine rLEN (by assumption) ?_
 | (refine rIXk (by assumption) (by assumption) ?_; intro p hp)
 | (refine rIX (by assumption) (by omega) (by omega) ?_; intro p a ha hp)
 | refine rLDi (by assumption) ?_
 | (refine rLD (by assumption) ?_; intro c hc)
 | refine rADD (by omega) ?_
 | refine rSUB (by omega) ?_
 | refine rLSS ?_
 | refine rLEQ ?_
 | refine rGTR ?_
 | refine rGEQ ?_
 | refine rEQL ?_
 | refine rNEQ ?_
 | refine rNOT ?_
 | (refine rBRK ?_ ?_ <;> intro hb)
 | (refine rBRKn ?_ ?_ <;> intro hb)
 | (refine rBRKnb ?_ ?_ <;> intro hb)
 | (refine rBRKb ?_ ?_ <;> intro hb)
 | (refine rSPL ?_ ?_ <;> intro hb)
 | (refine rSPLn ?_ ?_ <;> intro hb)
 | (refine rSPLnb ?_ ?_ <;> intro hb)
 | (refine rSPLb ?_ ?_ <;> intro hb)
 | (exfalso; omega))
      refine ACalls.mono (heCell_ok (by constructor <;> omega)) ?_
      rintro r H1 ⟨rfl, rfl⟩
      rw [hm0l]
      refine rNOT (rBRKn (fun hb => ?_) (fun hb => ?_))
      · refine ⟨H0, hG.sub, hno ?_, rfl⟩
        show (decide (2 = 2) && (decide (1 ≤ xi ∧ xi ≤ (n : Int) - 1) && decide (1 ≤ xj ∧ xj ≤ (n : Int) - 1))) = false
        rw [← Bool.decide_and, decide_eq_false hb]; rfl
      · have hcell : isCellB n [xi, xj] = true := by
          show (decide (2 = 2) && (decide (1 ≤ xi ∧ xi ≤ (n : Int) - 1) && decide (1 ≤ xj ∧ xj ≤ (n : Int) - 1))) = true
          rw [← Bool.decide_and, decide_eq_true hb]; rfl
        obtain ⟨i, j, hij, i1, i2, j1, j2⟩ := isCell_iff hcell
        simp only [List.cons.injEq, and_true] at hij
        obtain ⟨rfl, rfl⟩ := hij
        rw [followM] at he
        have e1 : ([(i : Int), (j : Int)].getD 0 0).toNat = i := rfl
        have e2 : ([(i : Int), (j : Int)].getD 1 0).toNat = j := rfl
        rw [e1, e2] at he
        repeat' (first
 | ((refine rIXk (i := 0) (by assumption) q0 ?_; intro p hp))
 | ((refine rIXk (i := 1) (by assumption) q1 ?_; intro p hp))
 | with_reducible first
 | refine rTT ?_
 | refine rRFL ?_
 | refine rLEN (by assumption) ?_
 | (refine rIXk (by assumption) (by assumption) ?_; intro p hp)
 | (refine rIX (by assumption) (by omega) (by omega) ?_; intro p a ha hp)
 | refine rLDi (by assumption) ?_
 | (refine rLD (by assumption) ?_; intro c hc)
 | refine rADD (by omega) ?_
 | refine rSUB (by omega) ?_
 | refine rLSS ?_
 | refine rLEQ ?_
 | refine rGTR ?_
 | refine rGEQ ?_
 | refine rEQL ?_
 | refine rNEQ ?_
 | refine rNOT ?_
 | (refine rBRK ?_ ?_ <;> intro hb)
 | (refine rBRKn ?_ ?_ <;> intro hb)
 | (refine rBRKnb ?_ ?_ <;> intro hb)
 | (refine rBRKb ?_ ?_ <;> intro hb)
 | (refine rSPL ?_ ?_ <;> intro hb)
 | (refine rSPLn ?_ ?_ <;> intro hb)
 | (refine rSPLnb ?_ ?_ <;> intro hb)
 | (refine rSPLb ?_ ?_ <;> intro hb)
 | (exfalso; omega))
        have hO : IsOTab H0.length H1 (.own k g 1 0 (n + 1)) (heightsF m) := by rw [← hl]; exact ho.is rfl
        refine ACalls.mono (heWay_own hO hl (fun r hr => by rw [heights_sq hr, G.len]) i1 (by omega) j1 (by omega) (by omega)) ?_
        rintro r H2 ⟨rfl, rfl⟩
        refine rEQL (rBRK (fun hb => ?_) (fun hw => ?_))
        · rw [if_neg (by omega)] at he
          exact ⟨H0, hG.sub, by rw [← he]; exact optNo, rfl⟩
        · rw [if_pos ⟨hcell, hw⟩] at he
          obtain ⟨row, hrow⟩ := ex_get (l := heightsF m) (k := i) (by omega)
          have hrl : row.length = n + 1 := by rw [heights_sq (getElem_mem' hrow), G.len]
          obtain ⟨y, hy⟩ := ex_get (l := row) (k := j) (by omega)
          obtain ⟨kj, gj, g1, g2, g3, g4, g5⟩ := ho.get hrow
          have hy' : (row.map I)[j]? = some (I y) := by rw [List.getElem?_map, hy]; rfl
          have ht := ho.top
          have hb2 := ht_bound G (i := i) (j := j) (by omega) (by omega)
          rw [getM_at hrow hy] at hb2
          have hwc := way_cases (heightsF m) i j
          repeat' (first
 | ((refine rIXk (i := 0) (by assumption) q0 ?_; intro p hp))
 | ((refine rIXk (i := 1) (by assumption) q1 ?_; intro p hp))
 | (refine rMUL (by omega) ?_)
 | with_reducible first
 | refine rTT ?_
 | refine rRFL ?_
 | refine rLEN (by assumption) ?_
 | refine rLENo ?_
 | refine rEXT0 ?_
 | refine rEXT1 ?_
 | refine rNEB ?_
 | refine rEQB ?_
 | refine rLDp (by assumption) ?_
 | refine rLDf (by assumption) (by assumption) ?_
 | refine rIXo (by omega) ?_
 | (refine rIXqi (by assumption) (by assumption) ?_; intro cs o hc)
 | (refine rIXq (by assumption) (by assumption) ?_; intro cs o c hc hr)
 | refine rLDq (by assumption) ?_
 | refine ⟨rTT (rTT (rLDq (by assumption) rfl)), ?_⟩
 | refine ⟨rTT (rTT (rLDp (by assumption) rfl)), ?_⟩
 | refine ⟨rTT (rTT (rLDf (by assumption) (by assumption) rfl)), ?_⟩
 | (refine rIXk (by assumption) (by assumption) ?_; intro p hp)
 | (refine rIX (by assumption) (by omega) (by omega) ?_; intro p a ha hp)
 | refine rLDi (by assumption) ?_
 | (refine rLD (by assumption) ?_; intro c hc)
 | refine rADD (by omega) ?_
 | refine rSUB (by omega) ?_
 | refine rLSS ?_
 | refine rLEQ ?_
 | refine rGTR ?_
 | refine rGEQ ?_
 | refine rEQL ?_
 | refine rNEQ ?_
 | refine rNOT ?_
 | (refine rBRK ?_ ?_ <;> intro hb)
 | (refine rBRKn ?_ ?_ <;> intro hb)
 | (refine rBRKnb ?_ ?_ <;> intro hb)
 | (refine rBRKb ?_ ?_ <;> intro hb)
 | (refine rSPL ?_ ?_ <;> intro hb)
 | (refine rSPLn ?_ ?_ <;> intro hb)
 | (refine rSPLnb ?_ ?_ <;> intro hb)
 | (refine rSPLb ?_ ?_ <;> intro hb)
 | (exfalso; omega))
          refine rSTp g3 (by simp; omega) rfl ?_
          repeat' (with_reducible first
 | refine rTT ?_
 | refine rRFL ?_
 | refine rLEN (by assumption) ?_
 | (refine rIXk (by assumption) (by assumption) ?_; intro p hp)
 | (refine rIX (by assumption) (by omega) (by omega) ?_; intro p a ha hp)
 | refine rLDi (by assumption) ?_
 | (refine rLD (by assumption) ?_; intro c hc)
 | refine rADD (by omega) ?_
 | refine rSUB (by omega) ?_
 | refine rLSS ?_
 | refine rLEQ ?_
 | refine rGTR ?_
 | refine rGEQ ?_
 | refine rEQL ?_
 | refine rNEQ ?_
 | refine rNOT ?_
 | (refine rBRK ?_ ?_ <;> intro hb)
 | (refine rBRKn ?_ ?_ <;> intro hb)
 | (refine rBRKnb ?_ ?_ <;> intro hb)
 | (refine rBRKb ?_ ?_ <;> intro hb)
 | (refine rSPL ?_ ?_ <;> intro hb)
 | (refine rSPLn ?_ ?_ <;> intro hb)
 | (refine rSPLnb ?_ ?_ <;> intro hb)
 | (refine rSPLb ?_ ?_ <;> intro hb)
 | (exfalso; omega))
          have hset1 : ∀ w, (row.map I).set j (I w) = (row.set j w).map I := fun w => by rw [List.map_set]
          rw [hset1]
          have ho2 := ho.put hrow g1 g3 (r' := row.set j (y + 2 * heWayF (heightsF m) i j)) (by simp)
          rw [up_set G (by omega) (by omega) hrow hy, flip_ht G i1 i2 j1 j2 hw] at ho2
          exact ih (x + 1) _ _ (by omega) (flip_good G i1 i2 j1 j2 hw) ho2 (hG.set g4 _ _) he
    · apply spec_FollowFlips.step5
      unfold spec_FollowFlips.step5_vc
      repeat' (with_reducible first
 | refine rTT ?_
 | refine rRFL ?_
 | refine rLEN (by assumption) ?_
 | (refine rIXk (by assumption) (by assumption) ?_; intro p hp)
 | (refine rIX (by assumption) (by omega) (by omega) ?_; intro p a ha hp)
 | refine rLDi (by assumption) ?_
 | (refine rLD (by assumption) ?_; intro c hc)
 | refine rADD (by omega) ?_
 | refine rSUB (by omega) ?_
 | refine rLSS ?_
 | refine rLEQ ?_
 | refine rGTR ?_
 | refine rGEQ ?_
 | refine rEQL ?_
 | refine rNEQ ?_
 | refine rNOT ?_
 | (refine rBRK ?_ ?_ <;> intro hb)
 | (refine rBRKn ?_ ?_ <;> intro hb)
 | (refine rBRKnb ?_ ?_ <;> intro hb)
 | (refine rBRKb ?_ ?_ <;> intro hb)
 | (refine rSPL ?_ ?_ <;> intro hb)
 | (refine rSPLn ?_ ?_ <;> intro hb)
 | (refine rSPLnb ?_ ?_ <;> intro hb)
 | (refine rSPLb ?_ ?_ <;> intro hb)
 | (exfalso; omega))
      exact ⟨H0, hG.sub, hno (by unfold isCellB; rw [decide_eq_false h2]; rfl), rfl⟩
end
/-- What following cells leaves. -/
def folM (m L : List (List Int)) : Option (List (List Int)) := if goodB m = true ∧ L.length ≤ 200 then followM m.length m L else none
theorem followM_bad {n : Nat} : ∀ {L : List (List Int)} {m : List (List Int)}, L.all (isCellB n) = false → followM n m L = none
  | [], m, h => by simp at h
  | c :: L, m, h => by
    rw [followM]
    split
    · rename_i hc
      refine followM_bad ?_
      simp only [List.all_cons, hc.1, Bool.true_and] at h; exact h
    · rfl
theorem followFlips_ok {m L : List (List Int)} {v vp : AVal} {H : Heap} (hv : IsTab v m) (hp : IsTab vp L) (hl : m.length ≤ 100000) (hL : L.length ≤ 1000000) (hr : ∀ c ∈ L, c.length ≤ 1000000) : ACalls Try.prog 14 [v, vp] H fun r H' => OptTab (folM m L) r ∧ H' = H := by
  apply ACalls.sub
  apply impl_FollowFlips.start
  unfold impl_FollowFlips.start_vc
  refine ACalls.mono (isSign_ok hv (by omega)) ?_
  rintro r H1 ⟨rfl, rfl⟩
  refine rNOT (rSPLnb (fun hb => ?_) (fun hb => ?_))
  · unfold folM; rw [if_neg (by rw [hb]; simp)]; exact ⟨_, HSub.refl _, optNo, rfl⟩
  · refine rLEN hv ?_
    refine ACalls.mono (areCells_ok hp hL hr (by omega)) ?_
    rintro r H2 ⟨rfl, rfl⟩
    refine rNOT (rBRKnb (fun hc => ?_) (fun hc => ?_))
    · have : folM m L = none := by
        unfold folM
        split
        · rename_i h
          rw [decide_eq_true h.2, Bool.true_and] at hc
          exact followM_bad hc
        · rfl
      rw [this]; exact ⟨_, HSub.refl _, optNo, rfl⟩
    · simp only [Bool.and_eq_true, decide_eq_true_eq] at hc
      have G := goodB_iff.1 hb
      refine ACalls.mono (heightsO_ok hv hl (goodB_sq hb)) ?_
      rintro r3 H3 ⟨h3, hG⟩
      refine rLEN hp ?_
      have hlen := heights_len m
      rcases h3 with ⟨rfl, ht⟩ | ⟨k, g, rows, ks, rfl, ho⟩
      · rw [ht] at hlen; simp at hlen
      · rw [hlen]
        refine follow_loop hp hL (fun c h => List.all_eq_true.1 hc.2 c h) L.length 0 m H3 (by omega) G ho hG ?_
        unfold folM; rw [if_pos ⟨hb, hc.1⟩]; rfl
theorem specFollowFlips_ok {m L : List (List Int)} {v vp : AVal} {H : Heap} (hv : IsTab v m) (hp : IsTab vp L) (hl : m.length ≤ 100000) (hL : L.length ≤ 1000000) (hr : ∀ c ∈ L, c.length ≤ 1000000) (hmr : ∀ r ∈ m, r.length ≤ 1000000) : ACalls Try.prog 46 [v, vp] H fun r H' => OptTab (folM m L) r ∧ H' = H := by
  apply ACalls.sub
  apply spec_FollowFlips.start
  unfold spec_FollowFlips.start_vc
  refine ACalls.mono (sgGood_ok hv (by omega) hmr) ?_
  rintro r H1 ⟨rfl, rfl⟩
  refine rNOT (rSPLnb (fun hb => ?_) (fun hb => ?_))
  · unfold folM; rw [if_neg (by rw [hb]; simp)]; exact ⟨_, HSub.refl _, optNo, rfl⟩
  · refine rLEN hp (rGTR (rBRK (fun hc => ?_) (fun hc => ?_)))
    · unfold folM; rw [if_neg (by omega)]; exact ⟨_, HSub.refl _, optNo, rfl⟩
    · have G := goodB_iff.1 hb
      refine ACalls.mono (heOfo_ok hv hl (goodB_sq hb)) ?_
      rintro r3 H3 ⟨h3, hG⟩
      refine rLEN hp ?_
      have hlen := heights_len m
      rcases h3 with ⟨rfl, ht⟩ | ⟨k, g, rows, ks, rfl, ho⟩
      · rw [ht] at hlen; simp at hlen
      · rw [hlen]
        refine followS_loop hv rfl hp hL hr L.length 0 m H3 (by omega) G ho hG.grow ?_
        unfold folM; rw [if_pos ⟨hb, by omega⟩]; rfl
theorem flipAt_ok {m : List (List Int)} {v : AVal} {H : Heap} (hv : IsTab v m) (hl : m.length ≤ 100000) {i j : Int} : ACalls Try.prog 36 [v, I i, I j] H fun r H' => OptTab (folM m [[i, j]]) r ∧ H' = H := by
  apply impl_FlipAt.start
  unfold impl_FlipAt.start_vc
  refine rTT (rTT (rTT (rLITn (rLITc rfl (rLITc rfl (rLITe ?_))))))
  refine rTT (rTT (rTT (rLITn (rLITc rfl (rLITe ?_)))))
  have hp : IsTab (.sl true 1 [.sl true 2 [I i, I j]]) [[i, j]] := isSl_mk rfl rfl (fun x c a h1 h2 => by
    cases x with
    | zero => cases h1; cases h2; exact isInts_pair i j
    | succ x => simp at h1)
  refine ACalls.mono (followFlips_ok hv hp hl (by simp) (by simp)) ?_
  rintro r H1 ⟨⟨h, rfl, h1⟩, rfl⟩
  exact rEXT0 (rEXT1 ⟨⟨_, rfl, h1⟩, rfl⟩)

end Go.Proofs.Ytccioplhchmilaa.AL

set_option linter.unusedVariables false
set_option maxRecDepth 100000
namespace Go.Proofs.Ytccioplhchmilaa.AL
open Go Go.Proofs

/-! impl.FlipPath (slots: 0 m, 1 k, 2 m, 3 k, 6 h, 7 goal, 8 out, 9 list, 10 i, 11 j) -/
namespace impl_FlipPath
def lv : List (Nat × List Nat) := [(4, [0, 6, 7, 8])]
noncomputable def K4 : List KF := [.lp (cB (cB (cL (cR (cR (cR (bodyOf Try.f42))))))), .bl 0, .sq (cR (cR (cR (cR (bodyOf Try.f42)))))]
def L4 (Q : AVal → Heap → Prop) (v0 v6 v7 v8 : AVal) (H : Heap) : Prop := At Try.prog 42 66 K4 Q (slotsOf [(0, v0), (6, v6), (7, v7), (8, v8)]) H
theorem L4_frz {Q : AVal → Heap → Prop} {v0 v6 v7 v8 w0 w6 w7 w8 : AVal} {H Hf Hk : Heap} {k : Nat} (hs : Split H Hf Hk) (hp : PurL Hf k [(0, v0, w0), (6, v6, w6), (7, v7, w7), (8, v8, w8)]) (h : L4 Q w0 w6 w7 w8 Hk) : L4 Q v0 v6 v7 v8 H := at_frz (ks := K4) hs hp h
def start_vc (Q : AVal → Heap → Prop) (a0 a1 : AVal) (H : Heap) : Prop :=
 ACalls Try.prog 64 [a0, a1] H fun x1 H2 =>
 NOTK x1 fun x3 =>
 BRK x3 (Q (AVal.tup [AVal.nilS, (AVal.bool false)]) H2) (ACalls Try.prog 56 [a0] H2 fun x4 H5 =>
 ACalls Try.prog 56 [a1] H5 fun x6 H7 =>
 TT ∧ TT ∧ TT ∧ BSK 1 [] H7 fun x8 H9 =>
 TT ∧ BOXK AVal.nilS H9 fun x10 H11 =>
 TT ∧ BOXK AVal.nilS H11 fun x12 H13 =>
 TT ∧ STK 1 H13 x10 x4 fun H14 =>
 TT ∧ STK 1 H14 x12 x6 fun H15 =>
 impl_FlipPath.L4 Q a0 x10 x12 x8 H15)
theorem start_eq (Q : AVal → Heap → Prop) (a0 a1 : AVal) (H : Heap) : vs Try.prog lv 42 66 Try.f42.results.toList Q true 1000 [.sq (bodyOf Try.f42)] (entry [a0, a1]) H = start_vc Q a0 a1 H := by kernel_rfl
theorem start {Q : AVal → Heap → Prop} {a0 a1 : AVal} {H : Heap} (h : start_vc Q a0 a1 H) : ACalls Try.prog 42 [a0, a1] H Q := acalls_vs (lv := lv) mixed Try.func42 rfl (by kernel_rfl) (by kernel_rfl) (start_eq Q a0 a1 H ▸ h)
def step4_vc (Q : AVal → Heap → Prop) (v0 v6 v7 v8 : AVal) (H : Heap) : Prop :=
 TT ∧ TT ∧ LDK false 1 H v6 fun x1 =>
 TT ∧ TT ∧ LDK false 1 H v7 fun x2 =>
 ACalls Try.prog 82 [x1, x2] H fun x3 H4 =>
 BINK .neq x3 (AVal.int .i64 0) fun x5 =>
 BRK x5 (LENK v0 fun x6 =>
 ACalls Try.prog 78 [x6, (AVal.fn 95 [] [v6, v7])] H4 fun x7 H8 =>
 LENK x7 fun x9 =>
 BINK .eql x9 (AVal.int .i64 0) fun x10 =>
 BRK x10 (LENK v0 fun x11 =>
 ACalls Try.prog 78 [x11, (AVal.fn 96 [] [v6, v7])] H8 fun x12 H13 =>
 TT ∧ TT ∧ IXK 1 x12 (AVal.int .i64 0) fun x14 =>
 TT ∧ TT ∧ LDK false 1 H13 x14 fun x15 =>
 TT ∧ IXK 1 x15 (AVal.int .i64 0) fun x16 =>
 TT ∧ TT ∧ LDK false 1 H13 x16 fun x17 =>
 TT ∧ IXK 1 x12 (AVal.int .i64 0) fun x18 =>
 TT ∧ TT ∧ LDK false 1 H13 x18 fun x19 =>
 TT ∧ IXK 1 x19 (AVal.int .i64 1) fun x20 =>
 TT ∧ TT ∧ LDK false 1 H13 x20 fun x21 =>
 TT ∧ TT ∧ TT ∧ LDK false 1 H13 v6 fun x22 =>
 TT ∧ IXK 1 x22 x17 fun x23 =>
 TT ∧ TT ∧ LDK false 1 H13 x23 fun x24 =>
 TT ∧ IXK 1 x24 x21 fun x25 =>
 TT ∧ TT ∧ LDK false 1 H13 x25 fun x26 =>
 TT ∧ TT ∧ LDK false 1 H13 v6 fun x27 =>
 ACalls Try.prog 60 [x27, x17, x21] H13 fun x28 H29 =>
 (TT ∧ TT ∧ LDK false 1 H29 x25 fun x30 =>
 x30 = x26) ∧
 (TT ∧ TT ∧ LDK false 1 H29 x23 fun x31 =>
 x31 = x24) ∧
 (TT ∧ TT ∧ LDK false 1 H29 v6 fun x32 =>
 x32 = x22) ∧
 BINK .add x26 x28 fun x33 =>
 TT ∧ IXK 1 x24 x21 fun x34 =>
 TT ∧ STK 1 H29 x34 x33 fun H35 =>
 TT ∧ TT ∧ TT ∧ BSK 1 [x17, x21] H35 fun x36 H37 =>
 TT ∧ TT ∧ TT ∧ BSK 1 [x36] H37 fun x38 H39 =>
 TT ∧ TT ∧ APK 1 H39 v8 x38 fun x40 H41 =>
 impl_FlipPath.L4 Q v0 v6 v7 x40 H41) (TT ∧ TT ∧ IXK 1 x7 (AVal.int .i64 0) fun x42 =>
 TT ∧ TT ∧ LDK false 1 H8 x42 fun x43 =>
 TT ∧ IXK 1 x43 (AVal.int .i64 0) fun x44 =>
 TT ∧ TT ∧ LDK false 1 H8 x44 fun x45 =>
 TT ∧ IXK 1 x7 (AVal.int .i64 0) fun x46 =>
 TT ∧ TT ∧ LDK false 1 H8 x46 fun x47 =>
 TT ∧ IXK 1 x47 (AVal.int .i64 1) fun x48 =>
 TT ∧ TT ∧ LDK false 1 H8 x48 fun x49 =>
 TT ∧ TT ∧ TT ∧ LDK false 1 H8 v6 fun x50 =>
 TT ∧ IXK 1 x50 x45 fun x51 =>
 TT ∧ TT ∧ LDK false 1 H8 x51 fun x52 =>
 TT ∧ IXK 1 x52 x49 fun x53 =>
 TT ∧ TT ∧ LDK false 1 H8 x53 fun x54 =>
 TT ∧ TT ∧ LDK false 1 H8 v6 fun x55 =>
 ACalls Try.prog 60 [x55, x45, x49] H8 fun x56 H57 =>
 (TT ∧ TT ∧ LDK false 1 H57 x53 fun x58 =>
 x58 = x54) ∧
 (TT ∧ TT ∧ LDK false 1 H57 x51 fun x59 =>
 x59 = x52) ∧
 (TT ∧ TT ∧ LDK false 1 H57 v6 fun x60 =>
 x60 = x50) ∧
 BINK .add x54 x56 fun x61 =>
 TT ∧ IXK 1 x52 x49 fun x62 =>
 TT ∧ STK 1 H57 x62 x61 fun H63 =>
 TT ∧ TT ∧ TT ∧ BSK 1 [x45, x49] H63 fun x64 H65 =>
 TT ∧ TT ∧ TT ∧ BSK 1 [x64] H65 fun x66 H67 =>
 TT ∧ TT ∧ APK 1 H67 v8 x66 fun x68 H69 =>
 impl_FlipPath.L4 Q v0 v6 v7 x68 H69)) (Q (AVal.tup [v8, (AVal.bool true)]) H4)
theorem step4_eq (Q : AVal → Heap → Prop) (v0 v6 v7 v8 : AVal) (H : Heap) : vs Try.prog lv 42 66 Try.f42.results.toList Q true 1000 (.sq (cB (cB (cL (cR (cR (cR (bodyOf Try.f42))))))) :: K4) (slotsOf [(0, v0), (6, v6), (7, v7), (8, v8)]) H = step4_vc Q v0 v6 v7 v8 H := by kernel_rfl
theorem step4 {Q : AVal → Heap → Prop} {v0 v6 v7 v8 : AVal} {H : Heap} (h : step4_vc Q v0 v6 v7 v8 H) : L4 Q v0 v6 v7 v8 H := at_lp_vs (lv := lv) (ks := K4.tail) mixed Try.func42 (step4_eq Q v0 v6 v7 v8 H ▸ h)
end impl_FlipPath

/-! impl.FlipPath$1 (slots: 0 i, 1 j, 4 i, 5 j) -/
namespace impl_FlipPath_1
def lv : List (Nat × List Nat) := []
def start_vc (Q : AVal → Heap → Prop) (a0 a1 a2 a3 : AVal) (H : Heap) : Prop :=
 TT ∧ TT ∧ TT ∧ LDK false 1 H a2 fun x1 =>
 TT ∧ IXK 1 x1 a0 fun x2 =>
 TT ∧ TT ∧ LDK false 1 H x2 fun x3 =>
 TT ∧ IXK 1 x3 a1 fun x4 =>
 TT ∧ TT ∧ LDK false 1 H x4 fun x5 =>
 TT ∧ TT ∧ LDK false 1 H a3 fun x6 =>
 TT ∧ IXK 1 x6 a0 fun x7 =>
 TT ∧ TT ∧ LDK false 1 H x7 fun x8 =>
 TT ∧ IXK 1 x8 a1 fun x9 =>
 TT ∧ TT ∧ LDK false 1 H x9 fun x10 =>
 BINK .lss x5 x10 fun x11 =>
 SPL x11 (TT ∧ TT ∧ LDK false 1 H a2 fun x12 =>
 ACalls Try.prog 60 [x12, a0, a1] H fun x13 H14 =>
 (TT ∧ TT ∧ LDK false 1 H14 x9 fun x15 =>
 x15 = x10) ∧
 (TT ∧ TT ∧ LDK false 1 H14 x7 fun x16 =>
 x16 = x8) ∧
 (TT ∧ TT ∧ LDK false 1 H14 a3 fun x17 =>
 x17 = x6) ∧
 (TT ∧ TT ∧ LDK false 1 H14 x4 fun x18 =>
 x18 = x5) ∧
 (TT ∧ TT ∧ LDK false 1 H14 x2 fun x19 =>
 x19 = x3) ∧
 (TT ∧ TT ∧ LDK false 1 H14 a2 fun x20 =>
 x20 = x1) ∧
 BINK .gtr x13 (AVal.int .i64 0) fun x21 =>
 Q x21 H14) ((TT ∧ TT ∧ LDK false 1 H x9 fun x22 =>
 x22 = x10) ∧
 (TT ∧ TT ∧ LDK false 1 H x7 fun x23 =>
 x23 = x8) ∧
 (TT ∧ TT ∧ LDK false 1 H a3 fun x24 =>
 x24 = x6) ∧
 (TT ∧ TT ∧ LDK false 1 H x4 fun x25 =>
 x25 = x5) ∧
 (TT ∧ TT ∧ LDK false 1 H x2 fun x26 =>
 x26 = x3) ∧
 (TT ∧ TT ∧ LDK false 1 H a2 fun x27 =>
 x27 = x1) ∧
 Q (AVal.bool false) H)
theorem start_eq (Q : AVal → Heap → Prop) (a0 a1 a2 a3 : AVal) (H : Heap) : vs Try.prog lv 95 29 Try.f95.results.toList Q true 1000 [.sq (bodyOf Try.f95)] (entry [a0, a1, a2, a3]) H = start_vc Q a0 a1 a2 a3 H := by kernel_rfl
theorem start {Q : AVal → Heap → Prop} {a0 a1 a2 a3 : AVal} {H : Heap} (h : start_vc Q a0 a1 a2 a3 H) : ACalls Try.prog 95 [a0, a1, a2, a3] H Q := acalls_vs (lv := lv) mixed Try.func95 rfl (by kernel_rfl) (by kernel_rfl) (start_eq Q a0 a1 a2 a3 H ▸ h)
end impl_FlipPath_1

/-! impl.FlipPath$2 (slots: 0 i, 1 j, 4 i, 5 j) -/
namespace impl_FlipPath_2
def lv : List (Nat × List Nat) := []
def start_vc (Q : AVal → Heap → Prop) (a0 a1 a2 a3 : AVal) (H : Heap) : Prop :=
 TT ∧ TT ∧ TT ∧ LDK false 1 H a2 fun x1 =>
 TT ∧ IXK 1 x1 a0 fun x2 =>
 TT ∧ TT ∧ LDK false 1 H x2 fun x3 =>
 TT ∧ IXK 1 x3 a1 fun x4 =>
 TT ∧ TT ∧ LDK false 1 H x4 fun x5 =>
 TT ∧ TT ∧ LDK false 1 H a3 fun x6 =>
 TT ∧ IXK 1 x6 a0 fun x7 =>
 TT ∧ TT ∧ LDK false 1 H x7 fun x8 =>
 TT ∧ IXK 1 x8 a1 fun x9 =>
 TT ∧ TT ∧ LDK false 1 H x9 fun x10 =>
 BINK .gtr x5 x10 fun x11 =>
 SPL x11 (TT ∧ TT ∧ LDK false 1 H a2 fun x12 =>
 ACalls Try.prog 60 [x12, a0, a1] H fun x13 H14 =>
 (TT ∧ TT ∧ LDK false 1 H14 x9 fun x15 =>
 x15 = x10) ∧
 (TT ∧ TT ∧ LDK false 1 H14 x7 fun x16 =>
 x16 = x8) ∧
 (TT ∧ TT ∧ LDK false 1 H14 a3 fun x17 =>
 x17 = x6) ∧
 (TT ∧ TT ∧ LDK false 1 H14 x4 fun x18 =>
 x18 = x5) ∧
 (TT ∧ TT ∧ LDK false 1 H14 x2 fun x19 =>
 x19 = x3) ∧
 (TT ∧ TT ∧ LDK false 1 H14 a2 fun x20 =>
 x20 = x1) ∧
 BINK .lss x13 (AVal.int .i64 0) fun x21 =>
 Q x21 H14) ((TT ∧ TT ∧ LDK false 1 H x9 fun x22 =>
 x22 = x10) ∧
 (TT ∧ TT ∧ LDK false 1 H x7 fun x23 =>
 x23 = x8) ∧
 (TT ∧ TT ∧ LDK false 1 H a3 fun x24 =>
 x24 = x6) ∧
 (TT ∧ TT ∧ LDK false 1 H x4 fun x25 =>
 x25 = x5) ∧
 (TT ∧ TT ∧ LDK false 1 H x2 fun x26 =>
 x26 = x3) ∧
 (TT ∧ TT ∧ LDK false 1 H a2 fun x27 =>
 x27 = x1) ∧
 Q (AVal.bool false) H)
theorem start_eq (Q : AVal → Heap → Prop) (a0 a1 a2 a3 : AVal) (H : Heap) : vs Try.prog lv 96 29 Try.f96.results.toList Q true 1000 [.sq (bodyOf Try.f96)] (entry [a0, a1, a2, a3]) H = start_vc Q a0 a1 a2 a3 H := by kernel_rfl
theorem start {Q : AVal → Heap → Prop} {a0 a1 a2 a3 : AVal} {H : Heap} (h : start_vc Q a0 a1 a2 a3 H) : ACalls Try.prog 96 [a0, a1, a2, a3] H Q := acalls_vs (lv := lv) mixed Try.func96 rfl (by kernel_rfl) (by kernel_rfl) (start_eq Q a0 a1 a2 a3 H ▸ h)
end impl_FlipPath_2


theorem OTab.hsub {lo : Nat} {H H' : Heap} {k g : Nat} {rows : List AVal} {ks : List Nat} {t : List (List Int)} (h : OTab lo H k g rows ks t) (hs : HSub H H') : OTab lo H' k g rows ks t :=
  ⟨hs _ _ _ h.top, h.lok, h.len, h.kln, h.nd, fun j s kj h1 h2 => by
    obtain ⟨gj, h3, h4, h5⟩ := h.row j s kj h1 h2
    exact ⟨gj, h3, hs _ _ _ h4, h5⟩⟩
section
variable {n : Nat} {m b : List (List Int)} {H : Heap} {bh gh k g bg gg lo : Nat} {rows : List AVal} {ks : List Nat} {vg : AVal}
theorem flipPath1_ok (G : Good n m) (Gb : Good n b) (hB : hget H bh = some (gh, [.own k g 1 0 (n + 1)])) (gB : hget H bg = some (gg, [vg])) (hvg : IsTab vg (heightsF b)) (ho : OTab lo H k g rows ks (heightsF m)) {i j : Nat} (i1 : 1 ≤ i) (i2 : i < n) (j1 : 1 ≤ j) (j2 : j < n) :
    ACalls Try.prog 95 [I i, I j, .ptr bh gh 0, .ptr bg gg 0] H fun r H' => r = .bool (decide (heWayF (heightsF m) i j = 1) && decide (getM (heightsF m) i j < getM (heightsF b) i j)) ∧ H' = H := by
  have h6 := G.n6
  have hl : (heightsF m).length = n + 1 := by rw [heights_len, G.len]
  have hlb : (heightsF b).length = n + 1 := by rw [heights_len, Gb.len]
  obtain ⟨row, hrow⟩ := ex_get (l := heightsF m) (k := i) (by omega)
  have hrl : row.length = n + 1 := by rw [heights_sq (getElem_mem' hrow), G.len]
  obtain ⟨y, hy⟩ := ex_get (l := row) (k := j) (by omega)
  obtain ⟨kj, gj, g1, g2, g3, g4, g5⟩ := ho.get hrow
  rw [hrl] at g2
  have hy' : (row.map I)[j]? = some (I y) := by rw [List.getElem?_map, hy]; rfl
  have ht := ho.top
  obtain ⟨rowb, hrowb⟩ := ex_get (l := heightsF b) (k := i) (by omega)
  have hrlb : rowb.length = n + 1 := by rw [heights_sq (getElem_mem' hrowb), Gb.len]
  obtain ⟨z, hz⟩ := ex_get (l := rowb) (k := j) (by omega)
  have hO : IsOTab lo H (.own k g 1 0 (n + 1)) (heightsF m) := by rw [← hl]; exact ho.is rfl
  rw [getM_at hrow hy, getM_at hrowb hz]
  apply impl_FlipPath_1.start
  unfold impl_FlipPath_1.start_vc
  repeat' (with_reducible first
 | refine rTT ?_
 | refine rRFL ?_
 | refine rLEN (by assumption) ?_
 | refine rLENo ?_
 | refine rEXT0 ?_
 | refine rEXT1 ?_
 | refine rNEB ?_
 | refine rEQB ?_
 | refine rLDp (by assumption) ?_
 | refine rLDf (by assumption) (by assumption) ?_
 | refine rIXo (by omega) ?_
 | (refine rIXqi (by assumption) (by assumption) ?_; intro cs o hc)
 | (refine rIXq (by assumption) (by assumption) ?_; intro cs o c hc hr)
 | refine rLDq (by assumption) ?_
 | refine ⟨rTT (rTT (rLDq (by assumption) rfl)), ?_⟩
 | refine ⟨rTT (rTT (rLDp (by assumption) rfl)), ?_⟩
 | refine ⟨rTT (rTT (rLDf (by assumption) (by assumption) rfl)), ?_⟩
 | (refine rIXk (by assumption) (by assumption) ?_; intro p hp)
 | (refine rIX (by assumption) (by omega) (by omega) ?_; intro p a ha hp)
 | refine rLDi (by assumption) ?_
 | (refine rLD (by assumption) ?_; intro c hc)
 | refine rADD (by omega) ?_
 | refine rSUB (by omega) ?_
 | refine rLSS ?_
 | refine rLEQ ?_
 | refine rGTR ?_
 | refine rGEQ ?_
 | refine rEQL ?_
 | refine rNEQ ?_
 | refine rNOT ?_
 | (refine rBRK ?_ ?_ <;> intro hb)
 | (refine rBRKn ?_ ?_ <;> intro hb)
 | (refine rBRKnb ?_ ?_ <;> intro hb)
 | (refine rBRKb ?_ ?_ <;> intro hb)
 | (refine rSPL ?_ ?_ <;> intro hb)
 | (refine rSPLn ?_ ?_ <;> intro hb)
 | (refine rSPLnb ?_ ?_ <;> intro hb)
 | (refine rSPLb ?_ ?_ <;> intro hb)
 | (exfalso; omega))
  · refine ACalls.mono (way_own hO hl (fun r hr => by rw [heights_sq hr, G.len]) i1 (by omega) j1 (by omega) (by omega)) ?_
    rintro r H1 ⟨rfl, rfl⟩
    rw [way_eq G i1 i2 j1 j2]
    repeat' (with_reducible first
 | refine rTT ?_
 | refine rRFL ?_
 | refine rLEN (by assumption) ?_
 | refine rLENo ?_
 | refine rEXT0 ?_
 | refine rEXT1 ?_
 | refine rNEB ?_
 | refine rEQB ?_
 | refine rLDp (by assumption) ?_
 | refine rLDf (by assumption) (by assumption) ?_
 | refine rIXo (by omega) ?_
 | (refine rIXqi (by assumption) (by assumption) ?_; intro cs o hc)
 | (refine rIXq (by assumption) (by assumption) ?_; intro cs o c hc hr)
 | refine rLDq (by assumption) ?_
 | refine ⟨rTT (rTT (rLDq (by assumption) rfl)), ?_⟩
 | refine ⟨rTT (rTT (rLDp (by assumption) rfl)), ?_⟩
 | refine ⟨rTT (rTT (rLDf (by assumption) (by assumption) rfl)), ?_⟩
 | (refine rIXk (by assumption) (by assumption) ?_; intro p hp)
 | (refine rIX (by assumption) (by omega) (by omega) ?_; intro p a ha hp)
 | refine rLDi (by assumption) ?_
 | (refine rLD (by assumption) ?_; intro c hc)
 | refine rADD (by omega) ?_
 | refine rSUB (by omega) ?_
 | refine rLSS ?_
 | refine rLEQ ?_
 | refine rGTR ?_
 | refine rGEQ ?_
 | refine rEQL ?_
 | refine rNEQ ?_
 | refine rNOT ?_
 | (refine rBRK ?_ ?_ <;> intro hb)
 | (refine rBRKn ?_ ?_ <;> intro hb)
 | (refine rBRKnb ?_ ?_ <;> intro hb)
 | (refine rBRKb ?_ ?_ <;> intro hb)
 | (refine rSPL ?_ ?_ <;> intro hb)
 | (refine rSPLn ?_ ?_ <;> intro hb)
 | (refine rSPLnb ?_ ?_ <;> intro hb)
 | (refine rSPLb ?_ ?_ <;> intro hb)
 | (exfalso; omega))
    refine ⟨?_, rfl⟩
    rw [decide_eq_true hb, Bool.and_true]
    congr 1
    have := way_cases (heightsF m) i j
    simp only [decide_eq_decide]; omega
  · exact ⟨by rw [decide_eq_false hb, Bool.and_false], rfl⟩
theorem flipPath2_ok (G : Good n m) (Gb : Good n b) (hB : hget H bh = some (gh, [.own k g 1 0 (n + 1)])) (gB : hget H bg = some (gg, [vg])) (hvg : IsTab vg (heightsF b)) (ho : OTab lo H k g rows ks (heightsF m)) {i j : Nat} (i1 : 1 ≤ i) (i2 : i < n) (j1 : 1 ≤ j) (j2 : j < n) :
    ACalls Try.prog 96 [I i, I j, .ptr bh gh 0, .ptr bg gg 0] H fun r H' => r = .bool (decide (heWayF (heightsF m) i j = -1) && decide (getM (heightsF b) i j < getM (heightsF m) i j)) ∧ H' = H := by
  have h6 := G.n6
  have hl : (heightsF m).length = n + 1 := by rw [heights_len, G.len]
  have hlb : (heightsF b).length = n + 1 := by rw [heights_len, Gb.len]
  obtain ⟨row, hrow⟩ := ex_get (l := heightsF m) (k := i) (by omega)
  have hrl : row.length = n + 1 := by rw [heights_sq (getElem_mem' hrow), G.len]
  obtain ⟨y, hy⟩ := ex_get (l := row) (k := j) (by omega)
  obtain ⟨kj, gj, g1, g2, g3, g4, g5⟩ := ho.get hrow
  rw [hrl] at g2
  have hy' : (row.map I)[j]? = some (I y) := by rw [List.getElem?_map, hy]; rfl
  have ht := ho.top
  obtain ⟨rowb, hrowb⟩ := ex_get (l := heightsF b) (k := i) (by omega)
  have hrlb : rowb.length = n + 1 := by rw [heights_sq (getElem_mem' hrowb), Gb.len]
  obtain ⟨z, hz⟩ := ex_get (l := rowb) (k := j) (by omega)
  have hO : IsOTab lo H (.own k g 1 0 (n + 1)) (heightsF m) := by rw [← hl]; exact ho.is rfl
  rw [getM_at hrow hy, getM_at hrowb hz]
  apply impl_FlipPath_2.start
  unfold impl_FlipPath_2.start_vc
  repeat' (with_reducible first
 | refine rTT ?_
 | refine rRFL ?_
 | refine rLEN (by assumption) ?_
 | refine rLENo ?_
 | refine rEXT0 ?_
 | refine rEXT1 ?_
 | refine rNEB ?_
 | refine rEQB ?_
 | refine rLDp (by assumption) ?_
 | refine rLDf (by assumption) (by assumption) ?_
 | refine rIXo (by omega) ?_
 | (refine rIXqi (by assumption) (by assumption) ?_; intro cs o hc)
 | (refine rIXq (by assumption) (by assumption) ?_; intro cs o c hc hr)
 | refine rLDq (by assumption) ?_
 | refine ⟨rTT (rTT (rLDq (by assumption) rfl)), ?_⟩
 | refine ⟨rTT (rTT (rLDp (by assumption) rfl)), ?_⟩
 | refine ⟨rTT (rTT (rLDf (by assumption) (by assumption) rfl)), ?_⟩
 | (refine rIXk (by assumption) (by assumption) ?_; intro p hp)
 | (refine rIX (by assumption) (by omega) (by omega) ?_; intro p a ha hp)
 | refine rLDi (by assumption) ?_
 | (refine rLD (by assumption) ?_; intro c hc)
 | refine rADD (by omega) ?_
 | refine rSUB (by omega) ?_
 | refine rLSS ?_
 | refine rLEQ ?_
 | refine rGTR ?_
 | refine rGEQ ?_
 | refine rEQL ?_
 | refine rNEQ ?_
 | refine rNOT ?_
 | (refine rBRK ?_ ?_ <;> intro hb)
 | (refine rBRKn ?_ ?_ <;> intro hb)
 | (refine rBRKnb ?_ ?_ <;> intro hb)
 | (refine rBRKb ?_ ?_ <;> intro hb)
 | (refine rSPL ?_ ?_ <;> intro hb)
 | (refine rSPLn ?_ ?_ <;> intro hb)
 | (refine rSPLnb ?_ ?_ <;> intro hb)
 | (refine rSPLb ?_ ?_ <;> intro hb)
 | (exfalso; omega))
  · refine ACalls.mono (way_own hO hl (fun r hr => by rw [heights_sq hr, G.len]) i1 (by omega) j1 (by omega) (by omega)) ?_
    rintro r H1 ⟨rfl, rfl⟩
    rw [way_eq G i1 i2 j1 j2]
    repeat' (with_reducible first
 | refine rTT ?_
 | refine rRFL ?_
 | refine rLEN (by assumption) ?_
 | refine rLENo ?_
 | refine rEXT0 ?_
 | refine rEXT1 ?_
 | refine rNEB ?_
 | refine rEQB ?_
 | refine rLDp (by assumption) ?_
 | refine rLDf (by assumption) (by assumption) ?_
 | refine rIXo (by omega) ?_
 | (refine rIXqi (by assumption) (by assumption) ?_; intro cs o hc)
 | (refine rIXq (by assumption) (by assumption) ?_; intro cs o c hc hr)
 | refine rLDq (by assumption) ?_
 | refine ⟨rTT (rTT (rLDq (by assumption) rfl)), ?_⟩
 | refine ⟨rTT (rTT (rLDp (by assumption) rfl)), ?_⟩
 | refine ⟨rTT (rTT (rLDf (by assumption) (by assumption) rfl)), ?_⟩
 | (refine rIXk (by assumption) (by assumption) ?_; intro p hp)
 | (refine rIX (by assumption) (by omega) (by omega) ?_; intro p a ha hp)
 | refine rLDi (by assumption) ?_
 | (refine rLD (by assumption) ?_; intro c hc)
 | refine rADD (by omega) ?_
 | refine rSUB (by omega) ?_
 | refine rLSS ?_
 | refine rLEQ ?_
 | refine rGTR ?_
 | refine rGEQ ?_
 | refine rEQL ?_
 | refine rNEQ ?_
 | refine rNOT ?_
 | (refine rBRK ?_ ?_ <;> intro hb)
 | (refine rBRKn ?_ ?_ <;> intro hb)
 | (refine rBRKnb ?_ ?_ <;> intro hb)
 | (refine rBRKb ?_ ?_ <;> intro hb)
 | (refine rSPL ?_ ?_ <;> intro hb)
 | (refine rSPLn ?_ ?_ <;> intro hb)
 | (refine rSPLnb ?_ ?_ <;> intro hb)
 | (refine rSPLb ?_ ?_ <;> intro hb)
 | (exfalso; omega))
    refine ⟨?_, rfl⟩
    rw [decide_eq_true hb, Bool.and_true]
    congr 1
    have := way_cases (heightsF m) i j
    simp only [decide_eq_decide]; omega
  · exact ⟨by rw [decide_eq_false hb, Bool.and_false], rfl⟩
end

/-! ### A list that is built beside other blocks -/
def OutL (lo : Nat) (av : List Nat) (H : Heap) (v : AVal) (ls : List AVal) : Prop := (ls = [] ∧ (v = .sl true 0 [] ∨ v = .nilS)) ∨ ∃ ko go, v = .own ko go 1 0 ls.length ∧ hget H ko = some (go, ls) ∧ ko ∉ av ∧ lo ≤ ko
theorem OutL.frame {lo : Nat} {av : List Nat} {H H' : Heap} {v : AVal} {ls : List AVal} (h : OutL lo av H v ls) (hh : ∀ i g cs, i ∉ av → hget H i = some (g, cs) → hget H' i = some (g, cs)) : OutL lo av H' v ls := by
  rcases h with h | ⟨ko, go, h1, h2, h3, h4⟩
  · exact .inl h
  · exact .inr ⟨ko, go, h1, hh _ _ _ h3 h2, h3, h4⟩
/-- One more cell; only the list's own block has changed. -/
theorem OutL.snoc {lo : Nat} {av : List Nat} {H : Heap} {v c : AVal} {ls : List AVal} {b : Bool} {K : AVal → Heap → Prop} (h : OutL lo av H v ls) (hl : ls.length < 1000000000) (hlo : lo ≤ H.length) (hav : ∀ i ∈ av, i < H.length)
    (k : ∀ v' H', OutL lo av H' v' (ls ++ [c]) → H.length ≤ H'.length → (∀ i, i ∈ av ∨ i < lo → hget H' i = hget H i) → K v' H') : APK 1 H v (.sl b 1 [c]) K := by
  unfold APK elemsOf
  refine ⟨rfl, ?_⟩
  rcases h with ⟨rfl, rfl | rfl⟩ | ⟨ko, go, rfl, h2, h3, h4⟩
  · exact ⟨rfl, by omega, (fun h => by cases h), fun _ g => k _ _ (.inr ⟨H.length, g, rfl, hget_new _ _ _, fun hm => Nat.lt_irrefl _ (hav _ hm), hlo⟩) (by rw [hlen_new]; omega) (fun i hi => hget_old _ _ (by rcases hi with hi | hi; exact hav i hi; omega))⟩
  · exact ⟨by omega, (fun h => by cases h), fun _ g => k _ _ (.inr ⟨H.length, g, rfl, hget_new _ _ _, fun hm => Nat.lt_irrefl _ (hav _ hm), hlo⟩) (by rw [hlen_new]; omega) (fun i hi => hget_old _ _ (by rcases hi with hi | hi; exact hav i hi; omega))⟩
  · have hlt := hlt_of_get h2
    refine ⟨rfl, rfl, by omega, ls, h2, by omega, fun g' => ?_⟩
    rw [show ls.take (ls.length * 1) = ls by rw [List.take_of_length_le (by omega)]]
    refine k _ _ (.inr ⟨ko, g', by simp, hget_set _ _ hlt, h3, h4⟩) (by rw [hlen_set]; omega) (fun i hi => hget_set_ne _ _ ?_)
    intro e; subst e
    rcases hi with hi | hi
    · exact h3 hi
    · omega
theorem OutL.pur {α : Type} {R : AVal → α → Prop} {lo : Nat} {av : List Nat} {H Hf : Heap} {v : AVal} {ls : List AVal} {xs : List α} (h : OutL lo av H v ls) (hf : ∀ i, lo ≤ i → hget Hf i = hget H i) (hr : Rel2 R ls xs) : ∃ v', Pur Hf 1 v v' ∧ IsSl R v' xs := by
  rcases h with ⟨rfl, rfl | rfl⟩ | ⟨ko, go, rfl, h2, h3, h4⟩
  · exact ⟨.sl true 0 [], Pur.refl _ _ _, isSl_mk (by simpa using hr.1) (by simpa using hr.1) hr.2⟩
  · exact ⟨.nilS, Pur.refl _ _ _, .inl ⟨rfl, (List.eq_nil_of_length_eq_zero (by simpa using hr.1.symm))⟩⟩
  · refine ⟨.sl false ls.length ls, .inr ⟨ls, ls, by rw [hf ko h4]; exact h2, by omega, rfl, ?_⟩, isSl_mk hr.1 hr.1 hr.2⟩
    rw [List.drop_zero, List.take_of_length_le (by omega)]
    exact All2.refl (fun v => rfl) ls

theorem ht_inj {n : Nat} {a b : List (List Int)} (ha : Good n a) (hb : Good n b) (h : heightsF a = heightsF b) : a = b := by
  have := congrArg fromHeightsF h
  rw [fromHeights_good ha, fromHeights_good hb] at this; exact this
theorem pur_pair {H : Heap} {k : Nat} {v v' : AVal} (h : Pur H k v v') (b : Bool) : Pur H (k + 1) (.tup [v, .bool b]) (.tup [v', .bool b]) :=
  .inr ⟨_, rfl, v', _, rfl, h, _, _, rfl, Pur.refl _ _ _, rfl⟩

end Go.Proofs.Ytccioplhchmilaa.AL
