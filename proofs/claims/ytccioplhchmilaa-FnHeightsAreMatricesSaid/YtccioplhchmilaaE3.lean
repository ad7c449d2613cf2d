/-
  Contracts: being below.
-/
import Derived.Test.YtccioplhchmilaaE2
set_option linter.unusedVariables false
set_option maxRecDepth 100000
namespace Go.Proofs.Ytccioplhchmilaa.AL
open Go Go.Proofs

def pairB (a b : List (List Int)) : Bool := goodB a && (goodB b && decide (a.length = b.length))
def isBelowB (a b : List (List Int)) : Bool := belowB (heightsF a) (heightsF b)
section
variable {a b : List (List Int)} {v u : AVal} {H : Heap}
theorem arePair_ok (hv : IsTab v a) (hu : IsTab u b) (ha : a.length ≤ 100000) (hb' : b.length ≤ 100000) : ACalls Try.prog 64 [v, u] H fun r H' => r = .bool (pairB a b) ∧ H' = H := by
  apply impl_arePair.start
  unfold impl_arePair.start_vc
  refine ACalls.mono (isSign_ok hv (by omega)) ?_
  rintro r H1 ⟨rfl, rfl⟩
  refine rSPLb (fun h1 => ?_) (fun h1 => ⟨by rw [pairB, h1]; rfl, rfl⟩)
  refine ACalls.mono (isSign_ok hu (by omega)) ?_
  rintro r H2 ⟨rfl, rfl⟩
  refine rSPLb (fun h2 => ?_) (fun h2 => ⟨by rw [pairB, h1, h2]; rfl, rfl⟩)
  repeat' (first
    | with_reducible refine rTT ?_
    | with_reducible refine rRFL ?_
    | with_reducible refine rLEN (by assumption) ?_
    | (with_reducible refine rIXk (by assumption) (by assumption) ?_; intro p hp)
    | (with_reducible refine rIX (by assumption) (by omega) (by omega) ?_; intro p a ha hp)
    | with_reducible refine rLDi (by assumption) ?_
    | (with_reducible refine rLD (by assumption) ?_; intro c hc)
    | with_reducible refine rADD (by omega) ?_
    | with_reducible refine rSUB (by omega) ?_
    | with_reducible refine rLSS ?_
    | with_reducible refine rLEQ ?_
    | with_reducible refine rGTR ?_
    | with_reducible refine rGEQ ?_
    | with_reducible refine rEQL ?_
    | with_reducible refine rNEQ ?_
    | with_reducible refine rNOT ?_
    | (with_reducible refine rBRK ?_ ?_ <;> intro hb)
    | (with_reducible refine rBRKn ?_ ?_ <;> intro hb)
    | (with_reducible refine rBRKnb ?_ ?_ <;> intro hb)
    | (with_reducible refine rBRKb ?_ ?_ <;> intro hb)
    | (with_reducible refine rSPL ?_ ?_ <;> intro hb)
    | (with_reducible refine rSPLn ?_ ?_ <;> intro hb)
    | (with_reducible refine rSPLnb ?_ ?_ <;> intro hb)
    | (with_reducible refine rSPLb ?_ ?_ <;> intro hb)
    | (exfalso; omega))
  refine ⟨?_, rfl⟩
  rw [pairB, h1, h2]
  congr 1
  simp only [Bool.true_and, decide_eq_decide]
  omega
theorem hePair_ok (hv : IsTab v a) (hu : IsTab u b) (ha : a.length ≤ 100000) (hb' : b.length ≤ 100000) (hra : ∀ r ∈ a, r.length ≤ 1000000) (hrb : ∀ r ∈ b, r.length ≤ 1000000) : ACalls Try.prog 87 [v, u] H fun r H' => r = .bool (pairB a b) ∧ H' = H := by
  apply spec_hePair.start
  unfold spec_hePair.start_vc
  refine ACalls.mono (sgGood_ok hv (by omega) hra) ?_
  rintro r H1 ⟨rfl, rfl⟩
  refine rSPLb (fun h1 => ?_) (fun h1 => ⟨by rw [pairB, h1]; rfl, rfl⟩)
  refine ACalls.mono (sgGood_ok hu (by omega) hrb) ?_
  rintro r H2 ⟨rfl, rfl⟩
  refine rSPLb (fun h2 => ?_) (fun h2 => ⟨by rw [pairB, h1, h2]; rfl, rfl⟩)
  repeat' (first
    | with_reducible refine rTT ?_
    | with_reducible refine rRFL ?_
    | with_reducible refine rLEN (by assumption) ?_
    | (with_reducible refine rIXk (by assumption) (by assumption) ?_; intro p hp)
    | (with_reducible refine rIX (by assumption) (by omega) (by omega) ?_; intro p a ha hp)
    | with_reducible refine rLDi (by assumption) ?_
    | (with_reducible refine rLD (by assumption) ?_; intro c hc)
    | with_reducible refine rADD (by omega) ?_
    | with_reducible refine rSUB (by omega) ?_
    | with_reducible refine rLSS ?_
    | with_reducible refine rLEQ ?_
    | with_reducible refine rGTR ?_
    | with_reducible refine rGEQ ?_
    | with_reducible refine rEQL ?_
    | with_reducible refine rNEQ ?_
    | with_reducible refine rNOT ?_
    | (with_reducible refine rBRK ?_ ?_ <;> intro hb)
    | (with_reducible refine rBRKn ?_ ?_ <;> intro hb)
    | (with_reducible refine rBRKnb ?_ ?_ <;> intro hb)
    | (with_reducible refine rBRKb ?_ ?_ <;> intro hb)
    | (with_reducible refine rSPL ?_ ?_ <;> intro hb)
    | (with_reducible refine rSPLn ?_ ?_ <;> intro hb)
    | (with_reducible refine rSPLnb ?_ ?_ <;> intro hb)
    | (with_reducible refine rSPLb ?_ ?_ <;> intro hb)
    | (exfalso; omega))
  refine ⟨?_, rfl⟩
  rw [pairB, h1, h2]
  congr 1
  simp only [Bool.true_and, decide_eq_decide]
  omega
end

end Go.Proofs.Ytccioplhchmilaa.AL
