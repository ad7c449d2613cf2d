/-
  Contracts: being below; drawn tables as values.
-/
import Derived.Test.YtccioplhchmilaaP1
set_option linter.unusedVariables false
set_option maxRecDepth 100000
namespace Go.Proofs.Ytccioplhchmilaa.AL
open Go Go.Proofs

theorem goodB_sq {t : List (List Int)} (h : goodB t = true) : isSquareB t = true := by simp only [goodB, Bool.and_eq_true] at h; exact h.2.1
theorem goodB_len {t : List (List Int)} (h : goodB t = true) : 1 ≤ t.length ∧ t.length ≤ 6 := by simp only [goodB, Bool.and_eq_true, decide_eq_true_eq] at h; exact h.1
theorem heights_len (t : List (List Int)) : (heightsF t).length = t.length + 1 := tabT_len _ _ _
theorem heights_sq {t : List (List Int)} {r : List Int} (h : r ∈ heightsF t) : r.length = t.length + 1 := tabT_sq r h
theorem getElem_mem' {α : Type} {l : List α} {i : Nat} {a : α} (h : l[i]? = some a) : a ∈ l := List.mem_of_getElem? h
section
variable {a b : List (List Int)} {v u : AVal} {H : Heap}
theorem isBelow_ok (hv : IsTab v a) (hu : IsTab u b) (ha : goodB a = true) (hb' : goodB b = true) (hab : a.length = b.length) : ACalls Try.prog 86 [v, u] H fun r H' => r = .bool (isBelowB a b) ∧ H' = H := by
  have la := goodB_len ha
  have lb := goodB_len hb'
  apply impl_isBelow.start
  unfold impl_isBelow.start_vc
  refine ACalls.mono (heights_ok hv (by omega) (goodB_sq ha)) ?_
  rintro r1 H1 ⟨h1, rfl⟩
  refine ACalls.mono (heights_ok hu (by omega) (goodB_sq hb')) ?_
  rintro r2 H2 ⟨h2, rfl⟩
  repeat' (first
    | with_reducible refine rTT ?_
    | with_reducible refine rRFL ?_
    | with_reducible refine rLEN (by assumption) ?_
    | (with_reducible refine rIXk (by assumption) (by assumption) ?_; intro p hp)
    | (with_reducible refine rIX (by assumption) (by omega) (by omega) ?_; intro p a ha hp)
    | with_reducible refine rLDi (by assumption) ?_
    | (with_reducible refine rLD (by assumption) ?_; intro c hc)
    | with_reducible refine rADD (by omega) ?_
    | with_reducible refine rSUB (by omega) ?_
    | with_reducible refine rLSS ?_
    | with_reducible refine rLEQ ?_
    | with_reducible refine rGTR ?_
    | with_reducible refine rGEQ ?_
    | with_reducible refine rEQL ?_
    | with_reducible refine rNEQ ?_
    | with_reducible refine rNOT ?_
    | (with_reducible refine rBRK ?_ ?_ <;> intro hb)
    | (with_reducible refine rBRKn ?_ ?_ <;> intro hb)
    | (with_reducible refine rBRKnb ?_ ?_ <;> intro hb)
    | (with_reducible refine rBRKb ?_ ?_ <;> intro hb)
    | (with_reducible refine rSPL ?_ ?_ <;> intro hb)
    | (with_reducible refine rSPLn ?_ ?_ <;> intro hb)
    | (with_reducible refine rSPLnb ?_ ?_ <;> intro hb)
    | (with_reducible refine rSPLb ?_ ?_ <;> intro hb)
    | (exfalso; omega))
  refine isBelow_out h1 h2 (by rw [heights_len]; omega) (by rw [heights_len, heights_len, hab]) ?_ _ 0 (by rw [Nat.zero_add]) ⟨rfl, rfl⟩
  intro i r s hr hs
  rw [heights_sq (getElem_mem' hr), heights_sq (getElem_mem' hs)]
  omega
theorem impl_IsBelow_ok (hv : IsTab v a) (hu : IsTab u b) (ha : a.length ≤ 100000) (hb' : b.length ≤ 100000) : ACalls Try.prog 30 [v, u] H fun r H' => r = .tup [.bool (bif pairB a b then isBelowB a b else false), .bool (pairB a b)] ∧ H' = H := by
  apply impl_IsBelow.start
  unfold impl_IsBelow.start_vc
  refine ACalls.mono (arePair_ok hv hu ha hb') ?_
  rintro r H1 ⟨rfl, rfl⟩
  repeat' (first
    | with_reducible refine rTT ?_
    | with_reducible refine rRFL ?_
    | with_reducible refine rLEN (by assumption) ?_
    | (with_reducible refine rIXk (by assumption) (by assumption) ?_; intro p hp)
    | (with_reducible refine rIX (by assumption) (by omega) (by omega) ?_; intro p a ha hp)
    | with_reducible refine rLDi (by assumption) ?_
    | (with_reducible refine rLD (by assumption) ?_; intro c hc)
    | with_reducible refine rADD (by omega) ?_
    | with_reducible refine rSUB (by omega) ?_
    | with_reducible refine rLSS ?_
    | with_reducible refine rLEQ ?_
    | with_reducible refine rGTR ?_
    | with_reducible refine rGEQ ?_
    | with_reducible refine rEQL ?_
    | with_reducible refine rNEQ ?_
    | with_reducible refine rNOT ?_
    | (with_reducible refine rBRK ?_ ?_ <;> intro hb)
    | (with_reducible refine rBRKn ?_ ?_ <;> intro hb)
    | (with_reducible refine rBRKnb ?_ ?_ <;> intro hb)
    | (with_reducible refine rBRKb ?_ ?_ <;> intro hb)
    | (with_reducible refine rSPL ?_ ?_ <;> intro hb)
    | (with_reducible refine rSPLn ?_ ?_ <;> intro hb)
    | (with_reducible refine rSPLnb ?_ ?_ <;> intro hb)
    | (with_reducible refine rSPLb ?_ ?_ <;> intro hb)
    | (exfalso; omega))
  · exact ⟨by rw [hb]; rfl, rfl⟩
  · have h := hb
    simp only [pairB, Bool.and_eq_true, decide_eq_true_eq] at h
    refine ACalls.mono (isBelow_ok hv hu h.1 h.2.1 h.2.2) ?_
    rintro r H2 ⟨rfl, rfl⟩
    exact ⟨by rw [hb]; rfl, rfl⟩
theorem heBelow_ok (hv : IsTab v (heightsF a)) (hu : IsTab u (heightsF b)) (ha : goodB a = true) (hb' : goodB b = true) (hab : a.length = b.length) : ACalls Try.prog 88 [v, u] H fun r H' => r = .bool (isBelowB a b) ∧ H' = H := by
  have la := goodB_len ha
  have lb := goodB_len hb'
  apply spec_heBelow.start
  unfold spec_heBelow.start_vc
  repeat' (first
    | with_reducible refine rTT ?_
    | with_reducible refine rRFL ?_
    | with_reducible refine rLEN (by assumption) ?_
    | (with_reducible refine rIXk (by assumption) (by assumption) ?_; intro p hp)
    | (with_reducible refine rIX (by assumption) (by omega) (by omega) ?_; intro p a ha hp)
    | with_reducible refine rLDi (by assumption) ?_
    | (with_reducible refine rLD (by assumption) ?_; intro c hc)
    | with_reducible refine rADD (by omega) ?_
    | with_reducible refine rSUB (by omega) ?_
    | with_reducible refine rLSS ?_
    | with_reducible refine rLEQ ?_
    | with_reducible refine rGTR ?_
    | with_reducible refine rGEQ ?_
    | with_reducible refine rEQL ?_
    | with_reducible refine rNEQ ?_
    | with_reducible refine rNOT ?_
    | (with_reducible refine rBRK ?_ ?_ <;> intro hb)
    | (with_reducible refine rBRKn ?_ ?_ <;> intro hb)
    | (with_reducible refine rBRKnb ?_ ?_ <;> intro hb)
    | (with_reducible refine rBRKb ?_ ?_ <;> intro hb)
    | (with_reducible refine rSPL ?_ ?_ <;> intro hb)
    | (with_reducible refine rSPLn ?_ ?_ <;> intro hb)
    | (with_reducible refine rSPLnb ?_ ?_ <;> intro hb)
    | (with_reducible refine rSPLb ?_ ?_ <;> intro hb)
    | (exfalso; omega))
  refine heBelow_out hv hu (by rw [heights_len]; omega) (by rw [heights_len, heights_len, hab]) ?_ _ 0 (by rw [Nat.zero_add]) ⟨rfl, rfl⟩
  intro i r s hr hs
  rw [heights_sq (getElem_mem' hr), heights_sq (getElem_mem' hs)]
  omega
theorem heOf_okF {H : Heap} (hv : IsTab v a) (hl : a.length ≤ 100000) (hs : isSquareB a = true) : ACalls Try.prog 61 [v] H fun r H' => IsTab r (heightsF a) ∧ H' = H := by
  have := heOf_ok (H := H) hv hl hs
  rw [heights_eq hl] at this; exact this
theorem spec_IsBelow_ok (hv : IsTab v a) (hu : IsTab u b) (ha : a.length ≤ 100000) (hb' : b.length ≤ 100000) (hra : ∀ r ∈ a, r.length ≤ 1000000) (hrb : ∀ r ∈ b, r.length ≤ 1000000) : ACalls Try.prog 31 [v, u] H fun r H' => r = .tup [.bool (bif pairB a b then isBelowB a b else false), .bool (pairB a b)] ∧ H' = H := by
  apply spec_IsBelow.start
  unfold spec_IsBelow.start_vc
  refine ACalls.mono (hePair_ok hv hu ha hb' hra hrb) ?_
  rintro r H1 ⟨rfl, rfl⟩
  repeat' (first
    | with_reducible refine rTT ?_
    | with_reducible refine rRFL ?_
    | with_reducible refine rLEN (by assumption) ?_
    | (with_reducible refine rIXk (by assumption) (by assumption) ?_; intro p hp)
    | (with_reducible refine rIX (by assumption) (by omega) (by omega) ?_; intro p a ha hp)
    | with_reducible refine rLDi (by assumption) ?_
    | (with_reducible refine rLD (by assumption) ?_; intro c hc)
    | with_reducible refine rADD (by omega) ?_
    | with_reducible refine rSUB (by omega) ?_
    | with_reducible refine rLSS ?_
    | with_reducible refine rLEQ ?_
    | with_reducible refine rGTR ?_
    | with_reducible refine rGEQ ?_
    | with_reducible refine rEQL ?_
    | with_reducible refine rNEQ ?_
    | with_reducible refine rNOT ?_
    | (with_reducible refine rBRK ?_ ?_ <;> intro hb)
    | (with_reducible refine rBRKn ?_ ?_ <;> intro hb)
    | (with_reducible refine rBRKnb ?_ ?_ <;> intro hb)
    | (with_reducible refine rBRKb ?_ ?_ <;> intro hb)
    | (with_reducible refine rSPL ?_ ?_ <;> intro hb)
    | (with_reducible refine rSPLn ?_ ?_ <;> intro hb)
    | (with_reducible refine rSPLnb ?_ ?_ <;> intro hb)
    | (with_reducible refine rSPLb ?_ ?_ <;> intro hb)
    | (exfalso; omega))
  · exact ⟨by rw [hb]; rfl, rfl⟩
  · have h := hb
    simp only [pairB, Bool.and_eq_true, decide_eq_true_eq] at h
    refine ACalls.mono (heOf_okF hv ha (goodB_sq h.1)) ?_
    rintro r1 H2 ⟨h1, rfl⟩
    refine ACalls.mono (heOf_okF hu hb' (goodB_sq h.2.1)) ?_
    rintro r2 H3 ⟨h2, rfl⟩
    refine ACalls.mono (heBelow_ok h1 h2 h.1 h.2.1 h.2.2) ?_
    rintro r H2 ⟨rfl, rfl⟩
    exact ⟨by rw [hb]; rfl, rfl⟩
end

/-! ### Drawn tables as values -/
theorem After.split {A : Int} {i g : Nat} {H H1 : Heap} (h : After A i g H H1) : ∃ cs, Split H1 (nw H H1) (hset H i g cs) ∧ Cur A (hset H i g cs) i g := by
  obtain ⟨cv, code, a, s, h1, h2⟩ := h.cur
  have hlt := h.lt
  refine ⟨_, ?_, ⟨cv, code, a, s, hget_set _ _ hlt, h2⟩⟩
  have hs : HSub (hset H i g [cv, I a, .int .u64 s]) H1 := by
    intro j g' cs hj
    by_cases hij : j = i
    · subst hij; rw [hget_set _ _ hlt] at hj; cases hj; exact h1
    · rw [hget_set_ne _ _ (fun e => hij e.symm)] at hj
      rw [h.old j (hlt_of_get hj) hij]; exact hj
  have := nw_split hs
  have e : nw (hset H i g [cv, I a, .int .u64 s]) H1 = nw H H1 := by unfold nw; rw [hlen_set]
  rw [e] at this; exact this
/-- A drawn table, as a value; of what was there only the cursor has changed. -/
def TabV (A : Int) (i g : Nat) (H0 : Heap) (r : AVal) (H : Heap) : Prop := ∃ t cs, IsTab r t ∧ t.length ≤ 7 ∧ (∀ r ∈ t, r.length ≤ 7) ∧ H = hset H0 i g cs ∧ Cur A H i g
theorem Table.val {A : Int} {i g : Nat} {H0 : Heap} {f : FuncId} {args : List AVal} (h : ACalls Try.prog f args H0 (Table A i g H0)) : ACalls Try.prog f args H0 (TabV A i g H0) := by
  refine ACalls.freeze (h.mono ?_)
  rintro r H1 ⟨t, h1, h2, h3, h4⟩
  obtain ⟨cs, q1, q2⟩ := h4.split
  obtain ⟨v', p1, p2⟩ := h1.pur (Hf := nw H0 H1) fun j hj => nw_above H0 H1 hj
  exact ⟨nw H0 H1, _, 2, v', q1, p1, t, cs, p2, h2, h3, rfl, q2⟩
theorem signsV_ok {A most : Int} {H : Heap} {i g : Nat} (h : Cur A H i g) (hA : A ≤ 1000000) (h1 : 1 ≤ most) (hm : most ≤ 6) : ACalls Try.prog 49 [.ptr i g 0, I most] H (TabV (A + 3000) i g H) := Table.val (signs_ok h hA h1 hm)
def SureV (A : Int) (n : Nat) (i g : Nat) (H0 : Heap) (r : AVal) (H : Heap) : Prop := ∃ t cs, IsTab r t ∧ t.length = n ∧ isSquareB t = true ∧ H = hset H0 i g cs ∧ Cur A H i g
theorem sureV_ok {A : Int} {H : Heap} {i g n : Nat} (h : Cur A H i g) (hA : A ≤ 10000000) (h1 : 1 ≤ n) (hn : n ≤ 6) : ACalls Try.prog 101 [.ptr i g 0, I n] H (SureV (A + 1000) n i g H) := by
  refine ACalls.freeze ((sure_ok h hA h1 hn).mono ?_)
  rintro r H1 ⟨t, h1, h2, h3, h4⟩
  obtain ⟨cs, q1, q2⟩ := h4.split
  obtain ⟨v', p1, p2⟩ := h1.pur (Hf := nw H H1) fun j hj => nw_above H H1 hj
  exact ⟨nw H H1, _, 2, v', q1, p1, t, cs, p2, h2, h3, rfl, q2⟩

end Go.Proofs.Ytccioplhchmilaa.AL
