/-
  Contracts: heights, as the reference tells them.
-/
import Derived.Test.YtccioplhchmilaaD3
set_option linter.unusedVariables false
set_option maxRecDepth 100000
namespace Go.Proofs.Ytccioplhchmilaa.AL
open Go Go.Proofs

/-! spec.DrawHeightsOf (slots: 0 code, 1 code) -/
namespace spec_DrawHeightsOf
def lv : List (Nat × List Nat) := []
def start_vc (Q : AVal → Heap → Prop) (a0 : AVal) (H : Heap) : Prop :=
ACalls Try.prog 75 [a0] H fun x1 H2 =>
Q x1 H2
theorem start_eq (Q : AVal → Heap → Prop) (a0 : AVal) (H : Heap) : vs Try.prog lv 21 5 Try.f21.results.toList Q true 1000 [.sq (bodyOf Try.f21)] (entry [a0]) H = start_vc Q a0 H := by kernel_rfl
theorem start {Q : AVal → Heap → Prop} {a0 : AVal} {H : Heap} (h : start_vc Q a0 H) : ACalls Try.prog 21 [a0] H Q := acalls_vs (lv := lv) mixed Try.func21 rfl (by kernel_rfl) (by kernel_rfl) (start_eq Q a0 H ▸ h)
end spec_DrawHeightsOf


def heAt (c : List (List Int)) (i j : Nat) : Int := w64 ((i + j : Nat) - w64 (2 * atT c ((i : Int) - 1) ((j : Int) - 1)))
section
variable {t c : List (List Int)} {v vc : AVal} {H0 : Heap} {Q : AVal → Heap → Prop}
theorem heOf_in (hv : IsTab v t) (hc : IsTab vc c) (hl : t.length ≤ 100000) (hcl : c.length = t.length) (hs : isSquareB c = true) {i : Nat} (hi : i ≤ t.length) {vo : AVal}
    (hq : ∀ v6, IsInts v6 (tabRow (t.length + 1) (heAt c) i) → spec_heOf.L8 Q v vc vo (I i) v6 (I ((t.length + 1 : Nat) : Int)) H0) : ∀ (n j : Nat) (v6 : AVal) (H : Heap), j + n = t.length + 1 → Bld H0 v6 H (((tabRow (t.length + 1) (heAt c) i).take j).map I) →
    spec_heOf.L8 Q v vc vo (I i) v6 (I j) H := by
  have hrl : (tabRow (t.length + 1) (heAt c) i).length = t.length + 1 := by simp [tabRow]
  intro n
  induction n with
  | zero =>
    intro j v6 H hj hb0
    rw [List.take_of_length_le (by omega)] at hb0
    obtain ⟨v', h1, h2⟩ := hb0.pur (R := IsI) (xs := tabRow (t.length + 1) (heAt c) i) (by simp) (fun i c a hc ha => by rw [List.getElem?_map, ha] at hc; cases hc; rfl)
    have hj' : j = t.length + 1 := by omega
    subst hj'
    exact spec_heOf.L8_frz (nw_split hb0.sub) (k := 1) ⟨Pur.refl _ _ _, Pur.refl _ _ _, Pur.refl _ _ _, Pur.refl _ _ _, h1, Pur.refl _ _ _, trivial⟩ (hq v' h2)
  | succ n ih =>
    intro j v6 H hj hb0
    have hsq : ∀ r ∈ c, r.length = t.length := fun r hr => by rw [sq_len hs hr, hcl]
    apply spec_heOf.step8
    unfold spec_heOf.step8_vc
    repeat' (first
    | with_reducible refine rTT ?_
    | with_reducible refine rRFL ?_
    | with_reducible refine rLEN (by assumption) ?_
    | (with_reducible refine rIXk (by assumption) (by assumption) ?_; intro p hp)
    | (with_reducible refine rIX (by assumption) (by omega) (by omega) ?_; intro p a ha hp)
    | with_reducible refine rLDi (by assumption) ?_
    | (with_reducible refine rLD (by assumption) ?_; intro c hc)
    | with_reducible refine rADD (by omega) ?_
    | with_reducible refine rSUB (by omega) ?_
    | with_reducible refine rLSS ?_
    | with_reducible refine rLEQ ?_
    | with_reducible refine rGTR ?_
    | with_reducible refine rGEQ ?_
    | with_reducible refine rEQL ?_
    | with_reducible refine rNEQ ?_
    | with_reducible refine rNOT ?_
    | (with_reducible refine rBRK ?_ ?_ <;> intro hb)
    | (with_reducible refine rBRKn ?_ ?_ <;> intro hb)
    | (with_reducible refine rBRKnb ?_ ?_ <;> intro hb)
    | (with_reducible refine rBRKb ?_ ?_ <;> intro hb)
    | (with_reducible refine rSPL ?_ ?_ <;> intro hb)
    | (with_reducible refine rSPLn ?_ ?_ <;> intro hb)
    | (with_reducible refine rSPLnb ?_ ?_ <;> intro hb)
    | (with_reducible refine rSPLb ?_ ?_ <;> intro hb)
    | (exfalso; omega))
    refine ACalls.mono (sgAt_ok hc (by omega) (fun r hr => by rw [hsq r hr]; omega)) ?_
    rintro r H1 ⟨rfl, rfl⟩
    refine rMULw ?_
    refine rSUBw ?_
    refine rTT (rTT (rTT (rLIT1 rfl (rTT (rTT ?_)))))
    refine rAPK1 hb0 (by simp; omega) fun v' H' hb1 => ?_
    repeat' (first
    | with_reducible refine rTT ?_
    | with_reducible refine rRFL ?_
    | with_reducible refine rLEN (by assumption) ?_
    | (with_reducible refine rIXk (by assumption) (by assumption) ?_; intro p hp)
    | (with_reducible refine rIX (by assumption) (by omega) (by omega) ?_; intro p a ha hp)
    | with_reducible refine rLDi (by assumption) ?_
    | (with_reducible refine rLD (by assumption) ?_; intro c hc)
    | with_reducible refine rADD (by omega) ?_
    | with_reducible refine rSUB (by omega) ?_
    | with_reducible refine rLSS ?_
    | with_reducible refine rLEQ ?_
    | with_reducible refine rGTR ?_
    | with_reducible refine rGEQ ?_
    | with_reducible refine rEQL ?_
    | with_reducible refine rNEQ ?_
    | with_reducible refine rNOT ?_
    | (with_reducible refine rBRK ?_ ?_ <;> intro hb)
    | (with_reducible refine rBRKn ?_ ?_ <;> intro hb)
    | (with_reducible refine rBRKnb ?_ ?_ <;> intro hb)
    | (with_reducible refine rBRKb ?_ ?_ <;> intro hb)
    | (with_reducible refine rSPL ?_ ?_ <;> intro hb)
    | (with_reducible refine rSPLn ?_ ?_ <;> intro hb)
    | (with_reducible refine rSPLnb ?_ ?_ <;> intro hb)
    | (with_reducible refine rSPLb ?_ ?_ <;> intro hb)
    | (exfalso; omega))
    refine ih (j + 1) v' H' (by omega) ?_
    have e2 : (tabRow (t.length + 1) (heAt c) i)[j]? = some (heAt c i j) := by simp [tabRow, List.getElem?_range (show j < t.length + 1 by omega)]
    rw [take_some e2]
    simpa [heAt] using hb1
theorem heOf_out (hv : IsTab v t) (hc : IsTab vc c) (hl : t.length ≤ 100000) (hcl : c.length = t.length) (hs : isSquareB c = true)
    (hq : ∀ v' H' ls, Bld H0 v' H' ls → ls.length = t.length + 1 → (∀ (i : Nat) (x : AVal), ls[i]? = some x → IsInts x (tabRow (t.length + 1) (heAt c) i)) → Q v' H') : ∀ (n i : Nat) (vo : AVal) (H : Heap) (ls : List AVal), i + n = t.length + 1 → Bld H0 vo H ls → ls.length = i →
    (∀ (i : Nat) (x : AVal), ls[i]? = some x → IsInts x (tabRow (t.length + 1) (heAt c) i)) → spec_heOf.L4 Q v vc vo (I i) H := by
  intro n
  induction n with
  | zero =>
    intro i vo H ls hi hb0 hlen hls
    apply spec_heOf.step4
    unfold spec_heOf.step4_vc
    repeat' (first
    | with_reducible refine rTT ?_
    | with_reducible refine rRFL ?_
    | with_reducible refine rLEN (by assumption) ?_
    | (with_reducible refine rIXk (by assumption) (by assumption) ?_; intro p hp)
    | (with_reducible refine rIX (by assumption) (by omega) (by omega) ?_; intro p a ha hp)
    | with_reducible refine rLDi (by assumption) ?_
    | (with_reducible refine rLD (by assumption) ?_; intro c hc)
    | with_reducible refine rADD (by omega) ?_
    | with_reducible refine rSUB (by omega) ?_
    | with_reducible refine rLSS ?_
    | with_reducible refine rLEQ ?_
    | with_reducible refine rGTR ?_
    | with_reducible refine rGEQ ?_
    | with_reducible refine rEQL ?_
    | with_reducible refine rNEQ ?_
    | with_reducible refine rNOT ?_
    | (with_reducible refine rBRK ?_ ?_ <;> intro hb)
    | (with_reducible refine rBRKn ?_ ?_ <;> intro hb)
    | (with_reducible refine rBRKnb ?_ ?_ <;> intro hb)
    | (with_reducible refine rBRKb ?_ ?_ <;> intro hb)
    | (with_reducible refine rSPL ?_ ?_ <;> intro hb)
    | (with_reducible refine rSPLn ?_ ?_ <;> intro hb)
    | (with_reducible refine rSPLnb ?_ ?_ <;> intro hb)
    | (with_reducible refine rSPLb ?_ ?_ <;> intro hb)
    | (exfalso; omega))
    exact hq _ _ ls hb0 (by omega) hls
  | succ n ih =>
    intro i vo H ls hi hb0 hlen hls
    apply spec_heOf.step4
    unfold spec_heOf.step4_vc
    repeat' (first
    | with_reducible refine rTT ?_
    | with_reducible refine rRFL ?_
    | with_reducible refine rLEN (by assumption) ?_
    | (with_reducible refine rIXk (by assumption) (by assumption) ?_; intro p hp)
    | (with_reducible refine rIX (by assumption) (by omega) (by omega) ?_; intro p a ha hp)
    | with_reducible refine rLDi (by assumption) ?_
    | (with_reducible refine rLD (by assumption) ?_; intro c hc)
    | with_reducible refine rADD (by omega) ?_
    | with_reducible refine rSUB (by omega) ?_
    | with_reducible refine rLSS ?_
    | with_reducible refine rLEQ ?_
    | with_reducible refine rGTR ?_
    | with_reducible refine rGEQ ?_
    | with_reducible refine rEQL ?_
    | with_reducible refine rNEQ ?_
    | with_reducible refine rNOT ?_
    | (with_reducible refine rBRK ?_ ?_ <;> intro hb)
    | (with_reducible refine rBRKn ?_ ?_ <;> intro hb)
    | (with_reducible refine rBRKnb ?_ ?_ <;> intro hb)
    | (with_reducible refine rBRKb ?_ ?_ <;> intro hb)
    | (with_reducible refine rSPL ?_ ?_ <;> intro hb)
    | (with_reducible refine rSPLn ?_ ?_ <;> intro hb)
    | (with_reducible refine rSPLnb ?_ ?_ <;> intro hb)
    | (with_reducible refine rSPLb ?_ ?_ <;> intro hb)
    | (exfalso; omega))
    refine heOf_in hv hc hl hcl hs (i := i) (by omega) (fun v6 h6 => ?_) (t.length + 1) 0 _ _ (by omega) (bld_nil H)
    apply spec_heOf.step8
    unfold spec_heOf.step8_vc
    repeat' (first
    | with_reducible refine rTT ?_
    | with_reducible refine rRFL ?_
    | with_reducible refine rLEN (by assumption) ?_
    | (with_reducible refine rIXk (by assumption) (by assumption) ?_; intro p hp)
    | (with_reducible refine rIX (by assumption) (by omega) (by omega) ?_; intro p a ha hp)
    | with_reducible refine rLDi (by assumption) ?_
    | (with_reducible refine rLD (by assumption) ?_; intro c hc)
    | with_reducible refine rADD (by omega) ?_
    | with_reducible refine rSUB (by omega) ?_
    | with_reducible refine rLSS ?_
    | with_reducible refine rLEQ ?_
    | with_reducible refine rGTR ?_
    | with_reducible refine rGEQ ?_
    | with_reducible refine rEQL ?_
    | with_reducible refine rNEQ ?_
    | with_reducible refine rNOT ?_
    | (with_reducible refine rBRK ?_ ?_ <;> intro hb)
    | (with_reducible refine rBRKn ?_ ?_ <;> intro hb)
    | (with_reducible refine rBRKnb ?_ ?_ <;> intro hb)
    | (with_reducible refine rBRKb ?_ ?_ <;> intro hb)
    | (with_reducible refine rSPL ?_ ?_ <;> intro hb)
    | (with_reducible refine rSPLn ?_ ?_ <;> intro hb)
    | (with_reducible refine rSPLnb ?_ ?_ <;> intro hb)
    | (with_reducible refine rSPLb ?_ ?_ <;> intro hb)
    | (exfalso; omega))
    refine rLIT1 h6.one ?_
    repeat' (first
    | with_reducible refine rTT ?_
    | with_reducible refine rRFL ?_
    | with_reducible refine rLEN (by assumption) ?_
    | (with_reducible refine rIXk (by assumption) (by assumption) ?_; intro p hp)
    | (with_reducible refine rIX (by assumption) (by omega) (by omega) ?_; intro p a ha hp)
    | with_reducible refine rLDi (by assumption) ?_
    | (with_reducible refine rLD (by assumption) ?_; intro c hc)
    | with_reducible refine rADD (by omega) ?_
    | with_reducible refine rSUB (by omega) ?_
    | with_reducible refine rLSS ?_
    | with_reducible refine rLEQ ?_
    | with_reducible refine rGTR ?_
    | with_reducible refine rGEQ ?_
    | with_reducible refine rEQL ?_
    | with_reducible refine rNEQ ?_
    | with_reducible refine rNOT ?_
    | (with_reducible refine rBRK ?_ ?_ <;> intro hb)
    | (with_reducible refine rBRKn ?_ ?_ <;> intro hb)
    | (with_reducible refine rBRKnb ?_ ?_ <;> intro hb)
    | (with_reducible refine rBRKb ?_ ?_ <;> intro hb)
    | (with_reducible refine rSPL ?_ ?_ <;> intro hb)
    | (with_reducible refine rSPLn ?_ ?_ <;> intro hb)
    | (with_reducible refine rSPLnb ?_ ?_ <;> intro hb)
    | (with_reducible refine rSPLb ?_ ?_ <;> intro hb)
    | (exfalso; omega))
    refine rAPK1 hb0 (by omega) fun v' H' hb1 => ?_
    repeat' (first
    | with_reducible refine rTT ?_
    | with_reducible refine rRFL ?_
    | with_reducible refine rLEN (by assumption) ?_
    | (with_reducible refine rIXk (by assumption) (by assumption) ?_; intro p hp)
    | (with_reducible refine rIX (by assumption) (by omega) (by omega) ?_; intro p a ha hp)
    | with_reducible refine rLDi (by assumption) ?_
    | (with_reducible refine rLD (by assumption) ?_; intro c hc)
    | with_reducible refine rADD (by omega) ?_
    | with_reducible refine rSUB (by omega) ?_
    | with_reducible refine rLSS ?_
    | with_reducible refine rLEQ ?_
    | with_reducible refine rGTR ?_
    | with_reducible refine rGEQ ?_
    | with_reducible refine rEQL ?_
    | with_reducible refine rNEQ ?_
    | with_reducible refine rNOT ?_
    | (with_reducible refine rBRK ?_ ?_ <;> intro hb)
    | (with_reducible refine rBRKn ?_ ?_ <;> intro hb)
    | (with_reducible refine rBRKnb ?_ ?_ <;> intro hb)
    | (with_reducible refine rBRKb ?_ ?_ <;> intro hb)
    | (with_reducible refine rSPL ?_ ?_ <;> intro hb)
    | (with_reducible refine rSPLn ?_ ?_ <;> intro hb)
    | (with_reducible refine rSPLnb ?_ ?_ <;> intro hb)
    | (with_reducible refine rSPLb ?_ ?_ <;> intro hb)
    | (exfalso; omega))
    refine ih (i + 1) v' H' (ls ++ [v6]) (by omega) hb1 (by simp [hlen]) ?_
    intro i' x hx
    rw [List.getElem?_append] at hx
    split at hx
    · exact hls i' x hx
    · have h0 : i' - ls.length = 0 := by
        have := (List.getElem?_eq_some_iff.1 hx).1
        simp at this; omega
      have hi' : i' = i := by omega
      subst hi'
      rw [h0] at hx
      cases hx; exact h6
theorem heOf_ok {H : Heap} (hv : IsTab v t) (hl : t.length ≤ 100000) (hs : isSquareB t = true) : ACalls Try.prog 61 [v] H fun r H' => IsTab r (tabT (t.length + 1) (t.length + 1) (heAt (tabT t.length t.length (cornAt t)))) ∧ H' = H := by
  apply ACalls.pure
  apply spec_heOf.start
  unfold spec_heOf.start_vc
  refine ACalls.mono (corners_ok hv hl hs) ?_
  rintro vc H1 ⟨h1, rfl⟩
  have hcl : (tabT t.length t.length (cornAt t)).length = t.length := by simp [tabT]
  have hcs : isSquareB (tabT t.length t.length (cornAt t)) = true := by
    simp only [isSquareB, List.all_eq_true, decide_eq_true_eq, hcl]
    intro r hr
    simp only [tabT, List.mem_map] at hr
    obtain ⟨i, _, rfl⟩ := hr
    simp [tabRow]
  refine heOf_out hv h1 hl hcl hcs (fun v' H' ls hb hlen hls => ?_) (t.length + 1) 0 _ _ [] (by omega) (bld_nil H1) rfl (by simp)
  refine hb.done (R := IsInts) (xs := tabT (t.length + 1) (t.length + 1) (heAt (tabT t.length t.length (cornAt t)))) (Q := fun r H' => IsTab r _ ∧ H' = H1) (by simp [tabT, hlen]) (fun i x a hx ha => ?_) (fun r hr => ⟨hr, rfl⟩)
  have hi := (List.getElem?_eq_some_iff.1 hx).1
  have : a = tabRow (t.length + 1) (heAt (tabT t.length t.length (cornAt t))) i := by
    simp only [tabT, List.getElem?_map] at ha
    rw [List.getElem?_range (by omega)] at ha
    cases ha; rfl
  rw [this]; exact hls i x hx
end

/-! ### Both tell the same heights -/
theorem w64_w64 (n : Int) : w64 (w64 n) = w64 n := w64_in (w64_range n)
theorem sumW_w64 (l : List Int) : w64 (sumW l) = sumW l := by
  rcases List.eq_nil_or_concat l with rfl | ⟨l, x, rfl⟩
  · rfl
  · rw [List.concat_eq_append, sumW_snoc, w64_w64]
theorem cornerF_succ {t : List (List Int)} {i j : Nat} (hi : i < t.length) : cornerF t (i + 1) j = w64 (cornerF t i j + sumW ((t.getD i []).take j)) := by
  obtain ⟨r, hr⟩ := ex_get hi
  have hg : t.getD i [] = r := by simp [List.getD, hr]
  rw [cornerF, cornerG, take_some hr, List.foldl_append, hg]; rfl
theorem cornerF_at {t : List (List Int)} {j : Nat} : ∀ {i : Nat}, i < t.length → cornerF t (i + 1) (j + 1) = cornAt t i j
  | 0, hi => by
    rw [cornerF_succ hi, cornAt]
    show w64 (0 + _) = _
    rw [Int.zero_add, sumW_w64]
  | i + 1, hi => by
    rw [cornerF_succ hi, cornerF_at (by omega), cornAt, Int.add_comm]
theorem cornerF_left {t : List (List Int)} : ∀ {i : Nat}, i ≤ t.length → cornerF t i 0 = 0
  | 0, _ => rfl
  | i + 1, hi => by
    rw [cornerF_succ (by omega), cornerF_left (by omega)]; rfl
theorem heights_eq {t : List (List Int)} (hl : t.length ≤ 100000) : tabT (t.length + 1) (t.length + 1) (heAt (tabT t.length t.length (cornAt t))) = heightsF t := by
  unfold heightsF tabT
  refine List.map_congr_left fun i hi => ?_
  unfold tabRow
  refine List.map_congr_left fun j hj => ?_
  rw [List.mem_range] at hi hj
  unfold heAt heightAt
  have e : cornerF t i j = atT (tabT t.length t.length (cornAt t)) ((i : Int) - 1) ((j : Int) - 1) := by
    unfold atT
    cases i with
    | zero => rw [if_pos (by omega)]; rfl
    | succ i =>
      cases j with
      | zero => rw [if_pos (by omega), cornerF_left (by omega)]
      | succ j =>
        rw [if_neg (by omega), cornerF_at (by omega)]
        have e1 : (((i + 1 : Nat) : Int) - 1).toNat = i := by omega
        have e2 : (((j + 1 : Nat) : Int) - 1).toNat = j := by omega
        rw [e1, e2]
        simp [List.getD, tabT, tabRow, List.getElem?_range (show i < t.length by omega), List.getElem?_range (show j < t.length by omega)]
  rw [e, w64_in (n := (i : Int) + j) (by omega)]
  congr 1

theorem specHeightsOf_ok {t : List (List Int)} {v : AVal} (hv : IsTab v t) (hl : t.length ≤ 100000) (hr : ∀ r ∈ t, r.length ≤ 1000000) {H : Heap} : ACalls Try.prog 23 [v] H fun r H' => (∃ h, r = .tup [h, .bool (goodB t)] ∧ IsTab h (bif goodB t then heightsF t else [])) ∧ H' = H := by
  apply spec_HeightsOf.start
  unfold spec_HeightsOf.start_vc
  refine ACalls.mono (sgGood_ok hv (by omega) hr) ?_
  rintro r H1 ⟨rfl, rfl⟩
  repeat' (first
    | with_reducible refine rTT ?_
    | with_reducible refine rRFL ?_
    | with_reducible refine rLEN (by assumption) ?_
    | (with_reducible refine rIXk (by assumption) (by assumption) ?_; intro p hp)
    | (with_reducible refine rIX (by assumption) (by omega) (by omega) ?_; intro p a ha hp)
    | with_reducible refine rLDi (by assumption) ?_
    | (with_reducible refine rLD (by assumption) ?_; intro c hc)
    | with_reducible refine rADD (by omega) ?_
    | with_reducible refine rSUB (by omega) ?_
    | with_reducible refine rLSS ?_
    | with_reducible refine rLEQ ?_
    | with_reducible refine rGTR ?_
    | with_reducible refine rGEQ ?_
    | with_reducible refine rEQL ?_
    | with_reducible refine rNEQ ?_
    | with_reducible refine rNOT ?_
    | (with_reducible refine rBRK ?_ ?_ <;> intro hb)
    | (with_reducible refine rBRKn ?_ ?_ <;> intro hb)
    | (with_reducible refine rBRKnb ?_ ?_ <;> intro hb)
    | (with_reducible refine rBRKb ?_ ?_ <;> intro hb)
    | (with_reducible refine rSPL ?_ ?_ <;> intro hb)
    | (with_reducible refine rSPLn ?_ ?_ <;> intro hb)
    | (with_reducible refine rSPLnb ?_ ?_ <;> intro hb)
    | (with_reducible refine rSPLb ?_ ?_ <;> intro hb)
    | (exfalso; omega))
  · exact ⟨⟨_, by rw [hb], by rw [hb]; exact .inl ⟨rfl, rfl⟩⟩, rfl⟩
  · have hs : isSquareB t = true := by simp only [goodB, Bool.and_eq_true] at hb; exact hb.2.1
    refine ACalls.mono (heOf_ok hv hl hs) ?_
    rintro r H2 ⟨h1, rfl⟩
    rw [heights_eq hl] at h1
    exact ⟨⟨_, by rw [hb], by rw [hb]; exact h1⟩, rfl⟩

theorem cells_one {v : AVal} {K : List AVal → Prop} (hv : v.one = true) (k : K [v]) : cellsOfV v K := by
  unfold cellsOfV
  cases v <;> first | exact ⟨hv, k⟩ | cases hv
/-- A drawn table, as a value. -/
def TabR (r : AVal) : Prop := ∃ t, IsTab r t ∧ t.length ≤ 7 ∧ ∀ r ∈ t, r.length ≤ 7
theorem drawSign_ok {code : List Int} {v : AVal} (hv : IsSl IsB v code) (hl : code.length ≤ 1099511627776) {H : Heap} : ACalls Try.prog 75 [v] H fun r H' => TabR r ∧ H' = H := by
  apply ACalls.pure
  apply spec_DrawIsSignMatrix.start
  unfold spec_DrawIsSignMatrix.start_vc
  refine rTT ?_
  refine cells_one hv.one ⟨rfl, by decide, ?_⟩
  simp only [BLDK, List.take_zero, List.nil_append, List.drop_succ_cons, List.drop_zero, List.singleton_append, Nat.zero_add, BOXK, cellsOfV]
  intro g
  have hc : Cur 0 (hnew H g [v, I 0, .int .u64 0]) H.length g := ⟨v, code, 0, 0, hget_new _ _ _, hv, hl, by omega, by omega⟩
  refine ACalls.mono (signs_ok hc (by omega) (by omega) (by omega)) ?_
  rintro r H' ⟨t, h1, h2, h3, h4⟩
  have hsub : HSub H H' := by
    intro i g' cs hi
    have hlt := hlt_of_get hi
    rw [h4.old i (by rw [hlen_new]; omega) (by omega), hget_old _ _ hlt]; exact hi
  obtain ⟨v', q1, q2⟩ := h1.pur (Hf := nw H H') fun i hi => nw_above H H' (by rw [hlen_new] at hi; omega)
  exact ⟨hsub, 2, v', q1, ⟨t, q2, h2, h3⟩, trivial⟩
theorem drawHeights_ok {code : List Int} {v : AVal} (hv : IsSl IsB v code) (hl : code.length ≤ 1099511627776) {H : Heap} : ACalls Try.prog 21 [v] H fun r H' => TabR r ∧ H' = H := by
  apply spec_DrawHeightsOf.start
  unfold spec_DrawHeightsOf.start_vc
  exact drawSign_ok hv hl

end Go.Proofs.Ytccioplhchmilaa.AL
