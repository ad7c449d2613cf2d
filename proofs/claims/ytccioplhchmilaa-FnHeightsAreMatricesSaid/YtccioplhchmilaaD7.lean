/-
  Contracts: tables of heights.
-/
import Derived.Test.YtccioplhchmilaaD6
set_option linter.unusedVariables false
set_option maxRecDepth 100000
namespace Go.Proofs.Ytccioplhchmilaa.AL
open Go Go.Proofs

/-! impl.FromHeights (slots: 0 h, 1 h, 4 out) -/
namespace impl_FromHeights
def lv : List (Nat × List Nat) := []
def start_vc (Q : AVal → Heap → Prop) (a0 : AVal) (H : Heap) : Prop :=
LENK a0 fun x1 =>
BINK .sub x1 (AVal.int .i64 1) fun x2 =>
ACalls Try.prog 80 [x2] H fun x3 H4 =>
NOTK x3 fun x5 =>
SPL x5 (Q (AVal.tup [AVal.nilS, (AVal.bool false)]) H4) (ACalls Try.prog 81 [a0] H4 fun x6 H7 =>
NOTK x6 fun x8 =>
BRK x8 (Q (AVal.tup [AVal.nilS, (AVal.bool false)]) H7) (ACalls Try.prog 67 [a0] H7 fun x9 H10 =>
ACalls Try.prog 40 [x9] H10 fun x11 H12 =>
NOTK x11 fun x13 =>
SPL x13 (Q (AVal.tup [AVal.nilS, (AVal.bool false)]) H12) (ACalls Try.prog 56 [x9] H12 fun x14 H15 =>
ACalls Try.prog 82 [x14, a0] H15 fun x16 H17 =>
BINK .neq x16 (AVal.int .i64 0) fun x18 =>
BRK x18 (Q (AVal.tup [AVal.nilS, (AVal.bool false)]) H17) (Q (AVal.tup [x9, (AVal.bool true)]) H17))))
theorem start_eq (Q : AVal → Heap → Prop) (a0 : AVal) (H : Heap) : vs Try.prog lv 24 28 Try.f24.results.toList Q true 1000 [.sq (bodyOf Try.f24)] (entry [a0]) H = start_vc Q a0 H := by kernel_rfl
theorem start {Q : AVal → Heap → Prop} {a0 : AVal} {H : Heap} (h : start_vc Q a0 H) : ACalls Try.prog 24 [a0] H Q := acalls_vs (lv := lv) mixed Try.func24 rfl (by kernel_rfl) (by kernel_rfl) (start_eq Q a0 H ▸ h)
end impl_FromHeights

/-! impl.AreHeights (slots: 0 h, 1 h, 3 _, 4 ok) -/
namespace impl_AreHeights
def lv : List (Nat × List Nat) := []
def start_vc (Q : AVal → Heap → Prop) (a0 : AVal) (H : Heap) : Prop :=
ACalls Try.prog 24 [a0] H fun x1 H2 =>
EXTK x1 0 fun x3 =>
EXTK x1 1 fun x4 =>
Q x4 H2
theorem start_eq (Q : AVal → Heap → Prop) (a0 : AVal) (H : Heap) : vs Try.prog lv 25 11 Try.f25.results.toList Q true 1000 [.sq (bodyOf Try.f25)] (entry [a0]) H = start_vc Q a0 H := by kernel_rfl
theorem start {Q : AVal → Heap → Prop} {a0 : AVal} {H : Heap} (h : start_vc Q a0 H) : ACalls Try.prog 25 [a0] H Q := acalls_vs (lv := lv) mixed Try.func25 rfl (by kernel_rfl) (by kernel_rfl) (start_eq Q a0 H ▸ h)
end impl_AreHeights


def heightsB (t : List (List Int)) : Bool := decide (2 ≤ t.length ∧ t.length ≤ 7) && (isSquareB t && (goodB (fromHeightsF t) && decide (heightsF (fromHeightsF t) = t)))
/-- A table and whether it is there. -/
def TabOk (b : Bool) (t : List (List Int)) (r : AVal) : Prop := ∃ h, r = .tup [h, .bool b] ∧ IsTab h (bif b then t else [])
theorem tabOk_no {t : List (List Int)} : TabOk false t (.tup [.nilS, .bool false]) := ⟨_, rfl, .inl ⟨rfl, rfl⟩⟩
theorem fromHeightsOf_ok {t : List (List Int)} {v : AVal} (hv : IsTab v t) (hl : t.length ≤ 100000) {H : Heap} : ACalls Try.prog 24 [v] H fun r H' => TabOk (heightsB t) (fromHeightsF t) r ∧ H' = H := by
  apply impl_FromHeights.start
  unfold impl_FromHeights.start_vc
  repeat' (first
    | with_reducible refine rTT ?_
    | (with_reducible refine ACalls.mono (isSquare_ok hv (by omega)) ?_; rintro r H' ⟨rfl, rfl⟩)
    | (with_reducible refine ACalls.mono (isSide_ok) ?_; rintro r H' ⟨rfl, rfl⟩)
    | with_reducible refine rRFL ?_
    | with_reducible refine rLEN (by assumption) ?_
    | (with_reducible refine rIXk (by assumption) (by assumption) ?_; intro p hp)
    | (with_reducible refine rIX (by assumption) (by omega) (by omega) ?_; intro p a ha hp)
    | with_reducible refine rLDi (by assumption) ?_
    | (with_reducible refine rLD (by assumption) ?_; intro c hc)
    | with_reducible refine rADD (by omega) ?_
    | with_reducible refine rSUB (by omega) ?_
    | with_reducible refine rLSS ?_
    | with_reducible refine rLEQ ?_
    | with_reducible refine rGTR ?_
    | with_reducible refine rGEQ ?_
    | with_reducible refine rEQL ?_
    | with_reducible refine rNEQ ?_
    | with_reducible refine rNOT ?_
    | (with_reducible refine rBRK ?_ ?_ <;> intro hb)
    | (with_reducible refine rBRKn ?_ ?_ <;> intro hb)
    | (with_reducible refine rBRKnb ?_ ?_ <;> intro hb)
    | (with_reducible refine rBRKb ?_ ?_ <;> intro hb)
    | (with_reducible refine rSPL ?_ ?_ <;> intro hb)
    | (with_reducible refine rSPLn ?_ ?_ <;> intro hb)
    | (with_reducible refine rSPLnb ?_ ?_ <;> intro hb)
    | (with_reducible refine rSPLb ?_ ?_ <;> intro hb)
    | (exfalso; omega))
  · have : heightsB t = false := by unfold heightsB; rw [decide_eq_false (by omega)]; rfl
    rw [this]; exact ⟨tabOk_no, rfl⟩
  · have : heightsB t = false := by simp [heightsB, hb]
    rw [this]; exact ⟨tabOk_no, rfl⟩
  · have hs := hb
    refine ACalls.mono (fromHeights_ok hv hl (by omega) hs) ?_
    rintro x9 H1 ⟨h9, rfl⟩
    have hl9 : (fromHeightsF t).length = t.length - 1 := by simp [fromHeightsF, tabT]
    refine ACalls.mono (isSign_ok h9 (by omega)) ?_
    rintro r H2 ⟨rfl, rfl⟩
    repeat' (first
    | with_reducible refine rTT ?_
    | with_reducible refine rRFL ?_
    | with_reducible refine rLEN (by assumption) ?_
    | (with_reducible refine rIXk (by assumption) (by assumption) ?_; intro p hp)
    | (with_reducible refine rIX (by assumption) (by omega) (by omega) ?_; intro p a ha hp)
    | with_reducible refine rLDi (by assumption) ?_
    | (with_reducible refine rLD (by assumption) ?_; intro c hc)
    | with_reducible refine rADD (by omega) ?_
    | with_reducible refine rSUB (by omega) ?_
    | with_reducible refine rLSS ?_
    | with_reducible refine rLEQ ?_
    | with_reducible refine rGTR ?_
    | with_reducible refine rGEQ ?_
    | with_reducible refine rEQL ?_
    | with_reducible refine rNEQ ?_
    | with_reducible refine rNOT ?_
    | (with_reducible refine rBRK ?_ ?_ <;> intro hb)
    | (with_reducible refine rBRKn ?_ ?_ <;> intro hb)
    | (with_reducible refine rBRKnb ?_ ?_ <;> intro hb)
    | (with_reducible refine rBRKb ?_ ?_ <;> intro hb)
    | (with_reducible refine rSPL ?_ ?_ <;> intro hb)
    | (with_reducible refine rSPLn ?_ ?_ <;> intro hb)
    | (with_reducible refine rSPLnb ?_ ?_ <;> intro hb)
    | (with_reducible refine rSPLb ?_ ?_ <;> intro hb)
    | (exfalso; omega))
    · have : heightsB t = false := by simp [heightsB, hb]
      rw [this]; exact ⟨tabOk_no, rfl⟩
    · have hgood := hb
      have hs9 : isSquareB (fromHeightsF t) = true := by simp only [goodB, Bool.and_eq_true] at hgood; exact hgood.2.1
      refine ACalls.mono (heights_ok h9 (by omega) hs9) ?_
      rintro x14 H3 ⟨h14, rfl⟩
      have hl14 : (heightsF (fromHeightsF t)).length = (fromHeightsF t).length + 1 := by simp [heightsF, tabT]
      refine ACalls.mono (compareTables_ok h14 hv (by omega) ?_) ?_
      · intro x hx
        simp only [heightsF, tabT, List.mem_map] at hx
        obtain ⟨i, _, rfl⟩ := hx
        simp [tabRow]; omega
      · rintro r H4 ⟨rfl, rfl⟩
        repeat' (first
    | with_reducible refine rTT ?_
    | with_reducible refine rRFL ?_
    | with_reducible refine rLEN (by assumption) ?_
    | (with_reducible refine rIXk (by assumption) (by assumption) ?_; intro p hp)
    | (with_reducible refine rIX (by assumption) (by omega) (by omega) ?_; intro p a ha hp)
    | with_reducible refine rLDi (by assumption) ?_
    | (with_reducible refine rLD (by assumption) ?_; intro c hc)
    | with_reducible refine rADD (by omega) ?_
    | with_reducible refine rSUB (by omega) ?_
    | with_reducible refine rLSS ?_
    | with_reducible refine rLEQ ?_
    | with_reducible refine rGTR ?_
    | with_reducible refine rGEQ ?_
    | with_reducible refine rEQL ?_
    | with_reducible refine rNEQ ?_
    | with_reducible refine rNOT ?_
    | (with_reducible refine rBRK ?_ ?_ <;> intro hb)
    | (with_reducible refine rBRKn ?_ ?_ <;> intro hb)
    | (with_reducible refine rBRKnb ?_ ?_ <;> intro hb)
    | (with_reducible refine rBRKb ?_ ?_ <;> intro hb)
    | (with_reducible refine rSPL ?_ ?_ <;> intro hb)
    | (with_reducible refine rSPLn ?_ ?_ <;> intro hb)
    | (with_reducible refine rSPLnb ?_ ?_ <;> intro hb)
    | (with_reducible refine rSPLb ?_ ?_ <;> intro hb)
    | (exfalso; omega))
        · have : heightsB t = false := by
            have hne : ¬ heightsF (fromHeightsF t) = t := fun e => hb (cmpT_eq.2 e)
            simp [heightsB, hne]
          rw [this]; exact ⟨tabOk_no, rfl⟩
        · have : heightsB t = true := by
            have he := cmpT_eq.1 (Decidable.not_not.1 hb)
            simp only [heightsB, hs, hgood, he, Bool.and_eq_true, decide_eq_true_eq, and_true]
            omega
          rw [this]; exact ⟨⟨_, rfl, h9⟩, rfl⟩
theorem areHeights_ok {t : List (List Int)} {v : AVal} (hv : IsTab v t) (hl : t.length ≤ 100000) {H : Heap} : ACalls Try.prog 25 [v] H fun r H' => r = .bool (heightsB t) ∧ H' = H := by
  apply impl_AreHeights.start
  unfold impl_AreHeights.start_vc
  refine ACalls.mono (fromHeightsOf_ok hv hl) ?_
  rintro r H1 ⟨⟨h, rfl, _⟩, rfl⟩
  exact ⟨_, rfl, _, rfl, rfl, rfl⟩

end Go.Proofs.Ytccioplhchmilaa.AL
