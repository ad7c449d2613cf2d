/-
  Contracts: cells that can be flipped, and a flip, as the reference tells them.
-/
import Derived.Test.YtccioplhchmilaaE6
set_option linter.unusedVariables false
set_option maxRecDepth 100000
namespace Go.Proofs.Ytccioplhchmilaa.AL
open Go Go.Proofs

/-- Cells that stand for things, one by one. -/
def Rel2 {α : Type} (R : AVal → α → Prop) (ls : List AVal) (xs : List α) : Prop := ls.length = xs.length ∧ ∀ (i : Nat) (c : AVal) (a : α), ls[i]? = some c → xs[i]? = some a → R c a
theorem Rel2.nil {α : Type} {R : AVal → α → Prop} : Rel2 R [] ([] : List α) := ⟨rfl, fun i c a h => by simp at h⟩
theorem Rel2.snoc {α : Type} {R : AVal → α → Prop} {ls : List AVal} {xs : List α} (h : Rel2 R ls xs) {c : AVal} {a : α} (hc : R c a) : Rel2 R (ls ++ [c]) (xs ++ [a]) := by
  refine ⟨by simp [h.1], fun i d b h1 h2 => ?_⟩
  rw [List.getElem?_append] at h1 h2
  by_cases hi : i < ls.length
  · rw [if_pos hi] at h1; rw [if_pos (by rw [← h.1]; exact hi)] at h2; exact h.2 i d b h1 h2
  · rw [if_neg hi] at h1; rw [if_neg (by rw [← h.1]; exact hi)] at h2
    have e : i - ls.length = 0 := by
      have := (List.getElem?_eq_some_iff.1 h1).1
      simp at this; omega
    rw [e] at h1; rw [← h.1, e] at h2
    cases h1; cases h2; exact hc
theorem Bld.rel {α : Type} {R : AVal → α → Prop} {H0 H : Heap} {v : AVal} {ls : List AVal} {xs : List α} {Q : AVal → Heap → Prop} (h : Bld H0 v H ls) (hr : Rel2 R ls xs) (hq : ∀ r, IsSl R r xs → Q r H0) : HSub H0 H ∧ ∃ k r', Pur (nw H0 H) k v r' ∧ Q r' H0 :=
  h.done hr.1 hr.2 hq
theorem Bld.relP {α : Type} {R : AVal → α → Prop} {H0 H : Heap} {v : AVal} {ls : List AVal} {xs : List α} (h : Bld H0 v H ls) (hr : Rel2 R ls xs) : HSub H0 H ∧ ∃ k r', Pur (nw H0 H) k v r' ∧ (IsSl R r' xs ∧ H0 = H0) :=
  h.rel (Q := fun r H => IsSl R r xs ∧ H = H0) hr fun r hr => ⟨hr, rfl⟩
theorem rLITe {K : List AVal → Prop} (h : K []) : allCells 1 [] K := h
/-- A literal that is never written. -/
theorem rLITn {vs : List AVal} {H : Heap} {K : AVal → Heap → Prop} (h : allCells 1 vs fun cs => K (.sl true vs.length cs) H) : BSK 1 vs H K := by
  have mono : ∀ {vs : List AVal} {K K' : List AVal → Prop}, (∀ cs, K cs → K' cs) → allCells 1 vs K → allCells 1 vs K' := by
    intro vs
    induction vs with
    | nil => intro K K' h k; exact h _ k
    | cons v vs ih =>
      intro K K' h k
      have c : ∀ {v : AVal} {K K' : List AVal → Prop}, (∀ cs, K cs → K' cs) → cellsOfV v K → cellsOfV v K' := by
        intro v K K' h k
        cases v <;> first | exact h _ k | exact ⟨k.1, h _ k.2⟩
      exact c (fun cs k => ⟨k.1, ih (fun ds k => h _ k) k.2⟩) k
  exact mono (fun cs k => .inr k) h

/-! ### Cells -/
def cellsRow (p : Nat → Bool) (i : Nat) : Nat → Nat → List (List Int)
  | _, 0 => []
  | j, m + 1 => (if p j = true then [[(i : Int), (j : Int)]] else []) ++ cellsRow p i (j + 1) m
def cellsFrom (p : Nat → Nat → Bool) (n : Nat) : Nat → Nat → List (List Int)
  | _, 0 => []
  | i, m + 1 => cellsRow (p i) i 1 n ++ cellsFrom p n (i + 1) m
/-- The cells of n + 1 rows of numbers of which p holds. -/
def cellsF (p : Nat → Nat → Bool) (n : Nat) : List (List Int) := cellsFrom p n 1 n
theorem cellsRow_len (p : Nat → Bool) (i : Nat) : ∀ (m j : Nat), (cellsRow p i j m).length ≤ m
  | 0, j => by simp [cellsRow]
  | m + 1, j => by
    have := cellsRow_len p i m (j + 1)
    simp only [cellsRow, List.length_append]
    split <;> simp <;> omega
theorem isInts_pair (a b : Int) : IsInts (.sl true 2 [I a, I b]) [a, b] := isI_list [a, b] true

section
variable {h : List (List Int)} {v : AVal} {n : Nat} {w : Int} {H0 : Heap} {Q : AVal → Heap → Prop}
theorem heFlips_in (hv : IsTab v h) (hl : h.length = n) (hsq : ∀ r ∈ h, r.length = n) (hn : n ≤ 1000) {i : Nat} (hi : 1 ≤ i) (hi2 : i + 1 < n) {L : List (List Int)}
    (hq : ∀ v5 H ls, Bld H0 v5 H ls → Rel2 IsInts ls (L ++ cellsRow (fun j => decide (heWayF h i j = w)) i 1 (n - 2)) → spec_heFlips.L3 Q v (I w) v5 (I (i + 1 : Nat)) H) :
    ∀ (m j : Nat) (v5 : AVal) (H : Heap) (ls : List AVal) (L1 : List (List Int)), 1 ≤ j → j + m + 1 = n → Bld H0 v5 H ls → Rel2 IsInts ls L1 → ls.length ≤ 1000 * i + j → L1 ++ cellsRow (fun j => decide (heWayF h i j = w)) i j m = L ++ cellsRow (fun j => decide (heWayF h i j = w)) i 1 (n - 2) →
    spec_heFlips.L6 Q v (I w) v5 (I i) (I j) H := by
  intro m
  induction m with
  | zero =>
    intro j v5 H ls L1 hj hjm hb0 hr hls he
    apply spec_heFlips.step6
    unfold spec_heFlips.step6_vc
    repeat' (first
    | with_reducible refine rTT ?_
    | with_reducible refine rRFL ?_
    | with_reducible refine rLEN (by assumption) ?_
    | (with_reducible refine rIXk (by assumption) (by assumption) ?_; intro p hp)
    | (with_reducible refine rIX (by assumption) (by omega) (by omega) ?_; intro p a ha hp)
    | with_reducible refine rLDi (by assumption) ?_
    | (with_reducible refine rLD (by assumption) ?_; intro c hc)
    | with_reducible refine rADD (by omega) ?_
    | with_reducible refine rSUB (by omega) ?_
    | with_reducible refine rLSS ?_
    | with_reducible refine rLEQ ?_
    | with_reducible refine rGTR ?_
    | with_reducible refine rGEQ ?_
    | with_reducible refine rEQL ?_
    | with_reducible refine rNEQ ?_
    | with_reducible refine rNOT ?_
    | (with_reducible refine rBRK ?_ ?_ <;> intro hb)
    | (with_reducible refine rBRKn ?_ ?_ <;> intro hb)
    | (with_reducible refine rBRKnb ?_ ?_ <;> intro hb)
    | (with_reducible refine rBRKb ?_ ?_ <;> intro hb)
    | (with_reducible refine rSPL ?_ ?_ <;> intro hb)
    | (with_reducible refine rSPLn ?_ ?_ <;> intro hb)
    | (with_reducible refine rSPLnb ?_ ?_ <;> intro hb)
    | (with_reducible refine rSPLb ?_ ?_ <;> intro hb)
    | (exfalso; omega))
    rw [cellsRow, List.append_nil] at he
    exact hq _ _ ls hb0 (he ▸ hr)
  | succ m ih =>
    intro j v5 H ls L1 hj hjm hb0 hr hls he
    apply spec_heFlips.step6
    unfold spec_heFlips.step6_vc
    repeat' (first
    | with_reducible refine rTT ?_
    | with_reducible refine rRFL ?_
    | with_reducible refine rLEN (by assumption) ?_
    | (with_reducible refine rIXk (by assumption) (by assumption) ?_; intro p hp)
    | (with_reducible refine rIX (by assumption) (by omega) (by omega) ?_; intro p a ha hp)
    | with_reducible refine rLDi (by assumption) ?_
    | (with_reducible refine rLD (by assumption) ?_; intro c hc)
    | with_reducible refine rADD (by omega) ?_
    | with_reducible refine rSUB (by omega) ?_
    | with_reducible refine rLSS ?_
    | with_reducible refine rLEQ ?_
    | with_reducible refine rGTR ?_
    | with_reducible refine rGEQ ?_
    | with_reducible refine rEQL ?_
    | with_reducible refine rNEQ ?_
    | with_reducible refine rNOT ?_
    | (with_reducible refine rBRK ?_ ?_ <;> intro hb)
    | (with_reducible refine rBRKn ?_ ?_ <;> intro hb)
    | (with_reducible refine rBRKnb ?_ ?_ <;> intro hb)
    | (with_reducible refine rBRKb ?_ ?_ <;> intro hb)
    | (with_reducible refine rSPL ?_ ?_ <;> intro hb)
    | (with_reducible refine rSPLn ?_ ?_ <;> intro hb)
    | (with_reducible refine rSPLnb ?_ ?_ <;> intro hb)
    | (with_reducible refine rSPLb ?_ ?_ <;> intro hb)
    | (exfalso; omega))
    refine ACalls.mono (heWay_ok hv hl hsq hi hi2 hj (by omega) (by omega)) ?_
    rintro r H1 ⟨rfl, rfl⟩
    repeat' (first
    | with_reducible refine rTT ?_
    | with_reducible refine rRFL ?_
    | with_reducible refine rLEN (by assumption) ?_
    | (with_reducible refine rIXk (by assumption) (by assumption) ?_; intro p hp)
    | (with_reducible refine rIX (by assumption) (by omega) (by omega) ?_; intro p a ha hp)
    | with_reducible refine rLDi (by assumption) ?_
    | (with_reducible refine rLD (by assumption) ?_; intro c hc)
    | with_reducible refine rADD (by omega) ?_
    | with_reducible refine rSUB (by omega) ?_
    | with_reducible refine rLSS ?_
    | with_reducible refine rLEQ ?_
    | with_reducible refine rGTR ?_
    | with_reducible refine rGEQ ?_
    | with_reducible refine rEQL ?_
    | with_reducible refine rNEQ ?_
    | with_reducible refine rNOT ?_
    | (with_reducible refine rBRK ?_ ?_ <;> intro hb)
    | (with_reducible refine rBRKn ?_ ?_ <;> intro hb)
    | (with_reducible refine rBRKnb ?_ ?_ <;> intro hb)
    | (with_reducible refine rBRKb ?_ ?_ <;> intro hb)
    | (with_reducible refine rSPL ?_ ?_ <;> intro hb)
    | (with_reducible refine rSPLn ?_ ?_ <;> intro hb)
    | (with_reducible refine rSPLnb ?_ ?_ <;> intro hb)
    | (with_reducible refine rSPLb ?_ ?_ <;> intro hb)
    | (exfalso; omega))
    · refine rLITn (rLITc rfl (rLITc rfl (rLITe ?_)))
      repeat' (first
    | with_reducible refine rTT ?_
    | with_reducible refine rRFL ?_
    | with_reducible refine rLEN (by assumption) ?_
    | (with_reducible refine rIXk (by assumption) (by assumption) ?_; intro p hp)
    | (with_reducible refine rIX (by assumption) (by omega) (by omega) ?_; intro p a ha hp)
    | with_reducible refine rLDi (by assumption) ?_
    | (with_reducible refine rLD (by assumption) ?_; intro c hc)
    | with_reducible refine rADD (by omega) ?_
    | with_reducible refine rSUB (by omega) ?_
    | with_reducible refine rLSS ?_
    | with_reducible refine rLEQ ?_
    | with_reducible refine rGTR ?_
    | with_reducible refine rGEQ ?_
    | with_reducible refine rEQL ?_
    | with_reducible refine rNEQ ?_
    | with_reducible refine rNOT ?_
    | (with_reducible refine rBRK ?_ ?_ <;> intro hb)
    | (with_reducible refine rBRKn ?_ ?_ <;> intro hb)
    | (with_reducible refine rBRKnb ?_ ?_ <;> intro hb)
    | (with_reducible refine rBRKb ?_ ?_ <;> intro hb)
    | (with_reducible refine rSPL ?_ ?_ <;> intro hb)
    | (with_reducible refine rSPLn ?_ ?_ <;> intro hb)
    | (with_reducible refine rSPLnb ?_ ?_ <;> intro hb)
    | (with_reducible refine rSPLb ?_ ?_ <;> intro hb)
    | (exfalso; omega))
      refine rLIT1 rfl ?_
      repeat' (first
    | with_reducible refine rTT ?_
    | with_reducible refine rRFL ?_
    | with_reducible refine rLEN (by assumption) ?_
    | (with_reducible refine rIXk (by assumption) (by assumption) ?_; intro p hp)
    | (with_reducible refine rIX (by assumption) (by omega) (by omega) ?_; intro p a ha hp)
    | with_reducible refine rLDi (by assumption) ?_
    | (with_reducible refine rLD (by assumption) ?_; intro c hc)
    | with_reducible refine rADD (by omega) ?_
    | with_reducible refine rSUB (by omega) ?_
    | with_reducible refine rLSS ?_
    | with_reducible refine rLEQ ?_
    | with_reducible refine rGTR ?_
    | with_reducible refine rGEQ ?_
    | with_reducible refine rEQL ?_
    | with_reducible refine rNEQ ?_
    | with_reducible refine rNOT ?_
    | (with_reducible refine rBRK ?_ ?_ <;> intro hb)
    | (with_reducible refine rBRKn ?_ ?_ <;> intro hb)
    | (with_reducible refine rBRKnb ?_ ?_ <;> intro hb)
    | (with_reducible refine rBRKb ?_ ?_ <;> intro hb)
    | (with_reducible refine rSPL ?_ ?_ <;> intro hb)
    | (with_reducible refine rSPLn ?_ ?_ <;> intro hb)
    | (with_reducible refine rSPLnb ?_ ?_ <;> intro hb)
    | (with_reducible refine rSPLb ?_ ?_ <;> intro hb)
    | (exfalso; omega))
      refine rAPK1 hb0 (by omega) fun v' H' hb1 => ?_
      repeat' (first
    | with_reducible refine rTT ?_
    | with_reducible refine rRFL ?_
    | with_reducible refine rLEN (by assumption) ?_
    | (with_reducible refine rIXk (by assumption) (by assumption) ?_; intro p hp)
    | (with_reducible refine rIX (by assumption) (by omega) (by omega) ?_; intro p a ha hp)
    | with_reducible refine rLDi (by assumption) ?_
    | (with_reducible refine rLD (by assumption) ?_; intro c hc)
    | with_reducible refine rADD (by omega) ?_
    | with_reducible refine rSUB (by omega) ?_
    | with_reducible refine rLSS ?_
    | with_reducible refine rLEQ ?_
    | with_reducible refine rGTR ?_
    | with_reducible refine rGEQ ?_
    | with_reducible refine rEQL ?_
    | with_reducible refine rNEQ ?_
    | with_reducible refine rNOT ?_
    | (with_reducible refine rBRK ?_ ?_ <;> intro hb)
    | (with_reducible refine rBRKn ?_ ?_ <;> intro hb)
    | (with_reducible refine rBRKnb ?_ ?_ <;> intro hb)
    | (with_reducible refine rBRKb ?_ ?_ <;> intro hb)
    | (with_reducible refine rSPL ?_ ?_ <;> intro hb)
    | (with_reducible refine rSPLn ?_ ?_ <;> intro hb)
    | (with_reducible refine rSPLnb ?_ ?_ <;> intro hb)
    | (with_reducible refine rSPLb ?_ ?_ <;> intro hb)
    | (exfalso; omega))
      refine ih (j + 1) v' H' _ (L1 ++ [[(i : Int), (j : Int)]]) (by omega) (by omega) hb1 (hr.snoc (isInts_pair _ _)) (by simp; omega) ?_
      rw [cellsRow, if_pos (decide_eq_true hb), ← List.append_assoc] at he
      exact he
    · refine ih (j + 1) v5 _ ls L1 (by omega) (by omega) hb0 hr (by omega) ?_
      rw [cellsRow, if_neg (by rw [decide_eq_false hb]; decide), List.nil_append] at he
      exact he
theorem heFlips_out (hv : IsTab v h) (hl : h.length = n) (hsq : ∀ r ∈ h, r.length = n) (hn : n ≤ 1000) {L : List (List Int)}
    (hq : ∀ v5 H ls, Bld H0 v5 H ls → Rel2 IsInts ls L → Q v5 H) :
    ∀ (m i : Nat) (v5 : AVal) (H : Heap) (ls : List AVal) (L1 : List (List Int)), 1 ≤ i → (m = 0 ∧ n ≤ i + 1 ∨ i + m + 1 = n) → Bld H0 v5 H ls → Rel2 IsInts ls L1 → ls.length ≤ 1000 * i → L1 ++ cellsFrom (fun i j => decide (heWayF h i j = w)) (n - 2) i m = L →
    spec_heFlips.L3 Q v (I w) v5 (I i) H := by
  intro m
  induction m with
  | zero =>
    intro i v5 H ls L1 hi him hb0 hr hls he
    apply spec_heFlips.step3
    unfold spec_heFlips.step3_vc
    repeat' (first
    | with_reducible refine rTT ?_
    | with_reducible refine rRFL ?_
    | with_reducible refine rLEN (by assumption) ?_
    | (with_reducible refine rIXk (by assumption) (by assumption) ?_; intro p hp)
    | (with_reducible refine rIX (by assumption) (by omega) (by omega) ?_; intro p a ha hp)
    | with_reducible refine rLDi (by assumption) ?_
    | (with_reducible refine rLD (by assumption) ?_; intro c hc)
    | with_reducible refine rADD (by omega) ?_
    | with_reducible refine rSUB (by omega) ?_
    | with_reducible refine rLSS ?_
    | with_reducible refine rLEQ ?_
    | with_reducible refine rGTR ?_
    | with_reducible refine rGEQ ?_
    | with_reducible refine rEQL ?_
    | with_reducible refine rNEQ ?_
    | with_reducible refine rNOT ?_
    | (with_reducible refine rBRK ?_ ?_ <;> intro hb)
    | (with_reducible refine rBRKn ?_ ?_ <;> intro hb)
    | (with_reducible refine rBRKnb ?_ ?_ <;> intro hb)
    | (with_reducible refine rBRKb ?_ ?_ <;> intro hb)
    | (with_reducible refine rSPL ?_ ?_ <;> intro hb)
    | (with_reducible refine rSPLn ?_ ?_ <;> intro hb)
    | (with_reducible refine rSPLnb ?_ ?_ <;> intro hb)
    | (with_reducible refine rSPLb ?_ ?_ <;> intro hb)
    | (exfalso; omega))
    rw [cellsFrom, List.append_nil] at he
    exact hq _ _ ls hb0 (he ▸ hr)
  | succ m ih =>
    intro i v5 H ls L1 hi him hb0 hr hls he
    apply spec_heFlips.step3
    unfold spec_heFlips.step3_vc
    repeat' (first
    | with_reducible refine rTT ?_
    | with_reducible refine rRFL ?_
    | with_reducible refine rLEN (by assumption) ?_
    | (with_reducible refine rIXk (by assumption) (by assumption) ?_; intro p hp)
    | (with_reducible refine rIX (by assumption) (by omega) (by omega) ?_; intro p a ha hp)
    | with_reducible refine rLDi (by assumption) ?_
    | (with_reducible refine rLD (by assumption) ?_; intro c hc)
    | with_reducible refine rADD (by omega) ?_
    | with_reducible refine rSUB (by omega) ?_
    | with_reducible refine rLSS ?_
    | with_reducible refine rLEQ ?_
    | with_reducible refine rGTR ?_
    | with_reducible refine rGEQ ?_
    | with_reducible refine rEQL ?_
    | with_reducible refine rNEQ ?_
    | with_reducible refine rNOT ?_
    | (with_reducible refine rBRK ?_ ?_ <;> intro hb)
    | (with_reducible refine rBRKn ?_ ?_ <;> intro hb)
    | (with_reducible refine rBRKnb ?_ ?_ <;> intro hb)
    | (with_reducible refine rBRKb ?_ ?_ <;> intro hb)
    | (with_reducible refine rSPL ?_ ?_ <;> intro hb)
    | (with_reducible refine rSPLn ?_ ?_ <;> intro hb)
    | (with_reducible refine rSPLnb ?_ ?_ <;> intro hb)
    | (with_reducible refine rSPLb ?_ ?_ <;> intro hb)
    | (exfalso; omega))
    show spec_heFlips.L6 Q v (I w) v5 (I i) (I (1 : Nat)) H
    refine heFlips_in hv hl hsq hn hi (by omega) (fun v5 H ls' hb1 hr1 => ?_) (n - 2) 1 v5 H ls L1 (by omega) (by omega) hb0 hr (by omega) rfl
    refine ih (i + 1) v5 H ls' _ (by omega) (by omega) hb1 hr1 ?_ ?_
    · rw [hr1.1, List.length_append, ← hr.1]
      have := cellsRow_len (fun j => decide (heWayF h i j = w)) i (n - 2) 1
      omega
    · rw [cellsFrom] at he
      rw [List.append_assoc]; exact he
def heFlipsF (h : List (List Int)) (w : Int) : List (List Int) := cellsF (fun i j => decide (heWayF h i j = w)) (h.length - 2)
theorem heFlips_ok {H : Heap} (hv : IsTab v h) (hl : h.length = n) (hsq : ∀ r ∈ h, r.length = n) (hn : n ≤ 1000) (h1 : 1 ≤ n) : ACalls Try.prog 100 [v, I w] H fun r H' => IsTab r (heFlipsF h w) ∧ H' = H := by
  apply ACalls.pure
  apply spec_heFlips.start
  unfold spec_heFlips.start_vc
  unfold heFlipsF cellsF
  rw [hl]
  show spec_heFlips.L3 _ v (I w) .nilS (I (1 : Nat)) H
  refine heFlips_out hv hl hsq hn (fun v5 H1 ls hb1 hr1 => hb1.relP hr1) (n - 2) 1 _ _ [] [] (by omega) (by omega) (bld_nil H) Rel2.nil (by simp) (by simp)
end

theorem heCell_ok {n i j : Int} {H : Heap} (hn : R64 (n - 1)) : ACalls Try.prog 72 [I n, I i, I j] H fun r H' => r = .bool (decide ((1 ≤ i ∧ i ≤ n - 1) ∧ (1 ≤ j ∧ j ≤ n - 1))) ∧ H' = H := by
  apply spec_heCell.start
  unfold spec_heCell.start_vc
  repeat' (first
    | with_reducible refine rTT ?_
    | (with_reducible refine ACalls.mono (l1In_ok) ?_; rintro r H' ⟨rfl, rfl⟩)
    | with_reducible refine rRFL ?_
    | with_reducible refine rLEN (by assumption) ?_
    | (with_reducible refine rIXk (by assumption) (by assumption) ?_; intro p hp)
    | (with_reducible refine rIX (by assumption) (by omega) (by omega) ?_; intro p a ha hp)
    | with_reducible refine rLDi (by assumption) ?_
    | (with_reducible refine rLD (by assumption) ?_; intro c hc)
    | with_reducible refine rADD (by omega) ?_
    | with_reducible refine rSUB (by omega) ?_
    | with_reducible refine rLSS ?_
    | with_reducible refine rLEQ ?_
    | with_reducible refine rGTR ?_
    | with_reducible refine rGEQ ?_
    | with_reducible refine rEQL ?_
    | with_reducible refine rNEQ ?_
    | with_reducible refine rNOT ?_
    | (with_reducible refine rBRK ?_ ?_ <;> intro hb)
    | (with_reducible refine rBRKn ?_ ?_ <;> intro hb)
    | (with_reducible refine rBRKnb ?_ ?_ <;> intro hb)
    | (with_reducible refine rBRKb ?_ ?_ <;> intro hb)
    | (with_reducible refine rSPL ?_ ?_ <;> intro hb)
    | (with_reducible refine rSPLn ?_ ?_ <;> intro hb)
    | (with_reducible refine rSPLnb ?_ ?_ <;> intro hb)
    | (with_reducible refine rSPLb ?_ ?_ <;> intro hb)
    | (exfalso; omega))
  · refine ⟨?_, rfl⟩
    congr 1
    simp only [decide_eq_decide]
    omega
  · refine ⟨?_, rfl⟩
    congr 1
    symm
    rw [decide_eq_false_iff_not]; omega

end Go.Proofs.Ytccioplhchmilaa.AL
