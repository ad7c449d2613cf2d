/-
  Contracts: the reference's test of heights.
-/
import Derived.Test.YtccioplhchmilaaD9
set_option linter.unusedVariables false
set_option maxRecDepth 100000
namespace Go.Proofs.Ytccioplhchmilaa.AL
open Go Go.Proofs

theorem rowB_sq {t : List (List Int)} (h : t.all (heRowB t.length) = true) : isSquareB t = true := by
  simp only [isSquareB, List.all_eq_true, decide_eq_true_eq, heRowB, Bool.and_eq_true] at h ⊢
  exact fun r hr => (h r hr).1
theorem heGood_loop {t : List (List Int)} {v : AVal} (hv : IsTab v t) (h2 : 2 ≤ t.length) (h7 : t.length ≤ 7) (hr : ∀ r ∈ t, r.length ≤ 1000000) {H : Heap} {Q : AVal → Heap → Prop} (hq : Q (.bool (t.all (heRowB t.length) && heRest t)) H) : ∀ (n k : Nat), k + n = t.length → t.all (heRowB t.length) = (t.drop k).all (heRowB t.length) →
    spec_heGood.L4 Q v v (I t.length) (I k) H := by
  intro n
  induction n with
  | zero =>
    intro k hk he
    apply spec_heGood.step4
    unfold spec_heGood.step4_vc
    repeat' (first
    | with_reducible refine rTT ?_
    | with_reducible refine rRFL ?_
    | with_reducible refine rLEN (by assumption) ?_
    | (with_reducible refine rIXk (by assumption) (by assumption) ?_; intro p hp)
    | (with_reducible refine rIX (by assumption) (by omega) (by omega) ?_; intro p a ha hp)
    | with_reducible refine rLDi (by assumption) ?_
    | (with_reducible refine rLD (by assumption) ?_; intro c hc)
    | with_reducible refine rADD (by omega) ?_
    | with_reducible refine rSUB (by omega) ?_
    | with_reducible refine rLSS ?_
    | with_reducible refine rLEQ ?_
    | with_reducible refine rGTR ?_
    | with_reducible refine rGEQ ?_
    | with_reducible refine rEQL ?_
    | with_reducible refine rNEQ ?_
    | with_reducible refine rNOT ?_
    | (with_reducible refine rBRK ?_ ?_ <;> intro hb)
    | (with_reducible refine rBRKn ?_ ?_ <;> intro hb)
    | (with_reducible refine rBRKnb ?_ ?_ <;> intro hb)
    | (with_reducible refine rBRKb ?_ ?_ <;> intro hb)
    | (with_reducible refine rSPL ?_ ?_ <;> intro hb)
    | (with_reducible refine rSPLn ?_ ?_ <;> intro hb)
    | (with_reducible refine rSPLnb ?_ ?_ <;> intro hb)
    | (with_reducible refine rSPLb ?_ ?_ <;> intro hb)
    | (exfalso; omega))
    rw [List.drop_eq_nil_of_le (by omega)] at he
    have he' : t.all (heRowB t.length) = true := he
    rw [he', Bool.true_and] at hq
    exact heRest_ok hv h2 h7 (rowB_sq he') hq
  | succ n ih =>
    intro k hk he
    obtain ⟨a, ha⟩ := ex_get (l := t) (k := k) (by omega)
    rw [drop_some ha, List.all_cons] at he
    apply spec_heGood.step4
    unfold spec_heGood.step4_vc
    repeat' (first
    | with_reducible refine rTT ?_
    | with_reducible refine rRFL ?_
    | with_reducible refine rLEN (by assumption) ?_
    | (with_reducible refine rIXk (by assumption) (by assumption) ?_; intro p hp)
    | (with_reducible refine rIX (by assumption) (by omega) (by omega) ?_; intro p a ha hp)
    | with_reducible refine rLDi (by assumption) ?_
    | (with_reducible refine rLD (by assumption) ?_; intro c hc)
    | with_reducible refine rADD (by omega) ?_
    | with_reducible refine rSUB (by omega) ?_
    | with_reducible refine rLSS ?_
    | with_reducible refine rLEQ ?_
    | with_reducible refine rGTR ?_
    | with_reducible refine rGEQ ?_
    | with_reducible refine rEQL ?_
    | with_reducible refine rNEQ ?_
    | with_reducible refine rNOT ?_
    | (with_reducible refine rBRK ?_ ?_ <;> intro hb)
    | (with_reducible refine rBRKn ?_ ?_ <;> intro hb)
    | (with_reducible refine rBRKnb ?_ ?_ <;> intro hb)
    | (with_reducible refine rBRKb ?_ ?_ <;> intro hb)
    | (with_reducible refine rSPL ?_ ?_ <;> intro hb)
    | (with_reducible refine rSPLn ?_ ?_ <;> intro hb)
    | (with_reducible refine rSPLnb ?_ ?_ <;> intro hb)
    | (with_reducible refine rSPLb ?_ ?_ <;> intro hb)
    | (exfalso; omega))
    · have : heRowB t.length a = false := by unfold heRowB; rw [decide_eq_false (by omega)]; rfl
      rw [he, this] at hq; exact hq
    · refine ACalls.mono (l1All_ok (by assumption) (hr a (List.mem_of_getElem? ha))) ?_
      rintro r H1 ⟨rfl, rfl⟩
      have hlen : decide (a.length = t.length) = true := decide_eq_true (by omega)
      repeat' (first
    | with_reducible refine rTT ?_
    | with_reducible refine rRFL ?_
    | with_reducible refine rLEN (by assumption) ?_
    | (with_reducible refine rIXk (by assumption) (by assumption) ?_; intro p hp)
    | (with_reducible refine rIX (by assumption) (by omega) (by omega) ?_; intro p a ha hp)
    | with_reducible refine rLDi (by assumption) ?_
    | (with_reducible refine rLD (by assumption) ?_; intro c hc)
    | with_reducible refine rADD (by omega) ?_
    | with_reducible refine rSUB (by omega) ?_
    | with_reducible refine rLSS ?_
    | with_reducible refine rLEQ ?_
    | with_reducible refine rGTR ?_
    | with_reducible refine rGEQ ?_
    | with_reducible refine rEQL ?_
    | with_reducible refine rNEQ ?_
    | with_reducible refine rNOT ?_
    | (with_reducible refine rBRK ?_ ?_ <;> intro hb)
    | (with_reducible refine rBRKn ?_ ?_ <;> intro hb)
    | (with_reducible refine rBRKnb ?_ ?_ <;> intro hb)
    | (with_reducible refine rBRKb ?_ ?_ <;> intro hb)
    | (with_reducible refine rSPL ?_ ?_ <;> intro hb)
    | (with_reducible refine rSPLn ?_ ?_ <;> intro hb)
    | (with_reducible refine rSPLnb ?_ ?_ <;> intro hb)
    | (with_reducible refine rSPLb ?_ ?_ <;> intro hb)
    | (exfalso; omega))
      · have : heRowB t.length a = false := by unfold heRowB; rw [hlen, hb]; rfl
        rw [he, this] at hq; exact hq
      · have : heRowB t.length a = true := by unfold heRowB; rw [hlen, hb]; rfl
        rw [this, Bool.true_and] at he
        exact ih (k + 1) (by omega) he
theorem heGood_ok {t : List (List Int)} {v : AVal} (hv : IsTab v t) (hl : t.length ≤ 100000) (hr : ∀ r ∈ t, r.length ≤ 1000000) {H : Heap} : ACalls Try.prog 84 [v] H fun r H' => r = .bool (heGoodB t) ∧ H' = H := by
  apply spec_heGood.start
  unfold spec_heGood.start_vc
  repeat' (first
    | with_reducible refine rTT ?_
    | (with_reducible refine ACalls.mono (l1In_ok) ?_; rintro r H' ⟨rfl, rfl⟩)
    | with_reducible refine rRFL ?_
    | with_reducible refine rLEN (by assumption) ?_
    | (with_reducible refine rIXk (by assumption) (by assumption) ?_; intro p hp)
    | (with_reducible refine rIX (by assumption) (by omega) (by omega) ?_; intro p a ha hp)
    | with_reducible refine rLDi (by assumption) ?_
    | (with_reducible refine rLD (by assumption) ?_; intro c hc)
    | with_reducible refine rADD (by omega) ?_
    | with_reducible refine rSUB (by omega) ?_
    | with_reducible refine rLSS ?_
    | with_reducible refine rLEQ ?_
    | with_reducible refine rGTR ?_
    | with_reducible refine rGEQ ?_
    | with_reducible refine rEQL ?_
    | with_reducible refine rNEQ ?_
    | with_reducible refine rNOT ?_
    | (with_reducible refine rBRK ?_ ?_ <;> intro hb)
    | (with_reducible refine rBRKn ?_ ?_ <;> intro hb)
    | (with_reducible refine rBRKnb ?_ ?_ <;> intro hb)
    | (with_reducible refine rBRKb ?_ ?_ <;> intro hb)
    | (with_reducible refine rSPL ?_ ?_ <;> intro hb)
    | (with_reducible refine rSPLn ?_ ?_ <;> intro hb)
    | (with_reducible refine rSPLnb ?_ ?_ <;> intro hb)
    | (with_reducible refine rSPLb ?_ ?_ <;> intro hb)
    | (exfalso; omega))
  · exact ⟨by unfold heGoodB; rw [decide_eq_false (by omega)]; rfl, rfl⟩
  · exact heGood_loop hv (by omega) (by omega) hr ⟨by unfold heGoodB; rw [decide_eq_true (by omega)]; rfl, rfl⟩ t.length 0 (by omega) rfl
theorem specAreHeights_ok {t : List (List Int)} {v : AVal} (hv : IsTab v t) (hl : t.length ≤ 100000) (hr : ∀ r ∈ t, r.length ≤ 1000000) {H : Heap} : ACalls Try.prog 28 [v] H fun r H' => r = .bool (heGoodB t) ∧ H' = H := by
  apply spec_AreHeights.start
  unfold spec_AreHeights.start_vc
  exact heGood_ok hv hl hr
theorem specFromHeights_ok {t : List (List Int)} {v : AVal} (hv : IsTab v t) (hl : t.length ≤ 100000) (hr : ∀ r ∈ t, r.length ≤ 1000000) {H : Heap} : ACalls Try.prog 27 [v] H fun r H' => TabOk (heGoodB t) (heFromF t) r ∧ H' = H := by
  apply spec_FromHeights.start
  unfold spec_FromHeights.start_vc
  refine ACalls.mono (heGood_ok hv hl hr) ?_
  rintro r H1 ⟨rfl, rfl⟩
  repeat' (first
    | with_reducible refine rTT ?_
    | with_reducible refine rRFL ?_
    | with_reducible refine rLEN (by assumption) ?_
    | (with_reducible refine rIXk (by assumption) (by assumption) ?_; intro p hp)
    | (with_reducible refine rIX (by assumption) (by omega) (by omega) ?_; intro p a ha hp)
    | with_reducible refine rLDi (by assumption) ?_
    | (with_reducible refine rLD (by assumption) ?_; intro c hc)
    | with_reducible refine rADD (by omega) ?_
    | with_reducible refine rSUB (by omega) ?_
    | with_reducible refine rLSS ?_
    | with_reducible refine rLEQ ?_
    | with_reducible refine rGTR ?_
    | with_reducible refine rGEQ ?_
    | with_reducible refine rEQL ?_
    | with_reducible refine rNEQ ?_
    | with_reducible refine rNOT ?_
    | (with_reducible refine rBRK ?_ ?_ <;> intro hb)
    | (with_reducible refine rBRKn ?_ ?_ <;> intro hb)
    | (with_reducible refine rBRKnb ?_ ?_ <;> intro hb)
    | (with_reducible refine rBRKb ?_ ?_ <;> intro hb)
    | (with_reducible refine rSPL ?_ ?_ <;> intro hb)
    | (with_reducible refine rSPLn ?_ ?_ <;> intro hb)
    | (with_reducible refine rSPLnb ?_ ?_ <;> intro hb)
    | (with_reducible refine rSPLb ?_ ?_ <;> intro hb)
    | (exfalso; omega))
  · rw [hb]; exact ⟨tabOk_no, rfl⟩
  · have h := hb
    simp only [heGoodB, Bool.and_eq_true, decide_eq_true_eq] at h
    refine ACalls.mono (heFrom_ok (n := t.length - 1) hv hl (rowB_sq h.2.1) (by omega) (by omega)) ?_
    rintro r H2 ⟨h1, rfl⟩
    rw [hb]
    exact ⟨⟨_, rfl, h1⟩, rfl⟩

end Go.Proofs.Ytccioplhchmilaa.AL
