/-
  Contracts: a flip, as the reference tells it; drawn pairs.
-/
import Derived.Test.YtccioplhchmilaaE7
set_option linter.unusedVariables false
set_option maxRecDepth 100000
namespace Go.Proofs.Ytccioplhchmilaa.AL
open Go Go.Proofs

/-- What is not written any more is frozen ahead of a call. -/
theorem ACalls.frz {P : Program} {f : FuncId} {args args' : List AVal} {H Hf Hk : Heap} {Q : AVal → Heap → Prop} (hs : Split H Hf Hk) {k : Nat} (hp : All2 (Pur Hf k) args args') (h : ACalls P f args' Hk Q) : ACalls P f args H Q := by
  refine ⟨h.1, fun w I B vs K hH hv post => ?_⟩
  refine h.2 w (fzI I Hf) B vs K (hH.freeze hs) (All2.vrels (pur_val (hH.sub hs.fz) k) (VRels.mono (ext_fz I Hf w B) hv) hp) ?_
  intro r H' w' I' v q hH' hv' he
  exact post r H' w' I' v q hH' hv' ((ext_fz I Hf w B).trans he)

/-- A number of a table is set. -/
def setM (t : List (List Int)) (i j : Nat) (x : Int) : List (List Int) := t.set i ((t.getD i []).set j x)
theorem setM_len (t : List (List Int)) (i j : Nat) (x : Int) : (setM t i j x).length = t.length := by simp [setM]
theorem setM_sq {t : List (List Int)} {c : Nat} (hs : ∀ r ∈ t, r.length = c) {i j : Nat} (hi : i < t.length) {x : Int} : ∀ r ∈ setM t i j x, r.length = c := by
  intro r hr
  rcases List.mem_or_eq_of_mem_set hr with h | rfl
  · exact hs r h
  · rw [List.length_set]; exact hs _ (getD_mem hi _)

theorem heWay_own {h : List (List Int)} {v : AVal} {i j n lo : Nat} {H : Heap} (hv : IsOTab lo H v h) (hl : h.length = n) (hsq : ∀ r ∈ h, r.length = n) (hi : 1 ≤ i) (hi2 : i + 1 < n) (hj : 1 ≤ j) (hj2 : j + 1 < n) (hn : n ≤ 1000000) :
    ACalls Try.prog 62 [v, I i, I j] H fun r H' => r = I (heWayF h i j) ∧ H' = H := by
  obtain ⟨v', h1, h2⟩ := hv.pur (Hf := H) fun _ _ => rfl
  exact lend_flat (k := 2) (args' := [v', I i, I j]) (Q0 := fun r => r = I (heWayF h i j)) ⟨v', _, rfl, h1, _, _, rfl, Pur.refl _ _ _, _, _, rfl, Pur.refl _ _ _, rfl⟩ (by rintro r rfl; rfl) fun H => heWay_ok h2 hl hsq hi hi2 hj hj2 hn
theorem heWayF_cases (h : List (List Int)) (i j : Nat) : heWayF h i j = 1 ∨ heWayF h i j = -1 ∨ heWayF h i j = 0 := by
  unfold heWayF; split
  · exact .inl rfl
  · split
    · exact .inr (.inl rfl)
    · exact .inr (.inr rfl)

/-- A flip, by the reference. -/
def flipOk (m : List (List Int)) (i j : Int) : Bool := goodB m && (decide ((1 ≤ i ∧ i ≤ m.length - 1) ∧ (1 ≤ j ∧ j ≤ m.length - 1)) && decide (heWayF (heightsF m) i.toNat j.toNat ≠ 0))
def heUp (h : List (List Int)) (i j : Nat) : List (List Int) := setM h i j (w64 (getM h i j + 2 * heWayF h i j))
def heFlipF (m : List (List Int)) (i j : Int) : List (List Int) := heFromF (heUp (heightsF m) i.toNat j.toNat)
theorem hflip_sq {m : List (List Int)} {i j : Nat} (hi : i < m.length + 1) : ∀ r ∈ heUp (heightsF m) i j, r.length = m.length + 1 := setM_sq (fun r hr => heights_sq hr) (by rw [heights_len]; exact hi)
theorem specFlipAt_ok {m : List (List Int)} {v : AVal} (hv : IsTab v m) (hl : m.length ≤ 100000) (hr : ∀ r ∈ m, r.length ≤ 1000000) {i j : Int} {H : Heap} :
    ACalls Try.prog 37 [v, I i, I j] H fun r H' => TabOk (flipOk m i j) (heFlipF m i j) r ∧ H' = H := by
  apply ACalls.sub
  apply spec_FlipAt.start
  unfold spec_FlipAt.start_vc
  refine ACalls.mono (sgGood_ok hv (by omega) hr) ?_
  rintro r H1 ⟨rfl, rfl⟩
  refine rNOT ?_
  refine rSPLnb (fun hb => ⟨_, HSub.refl _, by unfold flipOk; rw [hb]; exact tabOk_no, rfl⟩) (fun hg => ?_)
  have gl := goodB_len hg
  refine rLEN hv ?_
  refine ACalls.mono (heCell_ok (by constructor <;> omega)) ?_
  rintro r H2 ⟨rfl, rfl⟩
  refine rNOT ?_
  refine rBRKn (fun hb => ⟨_, HSub.refl _, by unfold flipOk; rw [hg, decide_eq_false hb]; exact tabOk_no, rfl⟩) (fun hc => ?_)
  refine ACalls.mono (heOfo_ok hv hl (goodB_sq hg)) ?_
  rintro r8 H3 ⟨h8, hF⟩
  obtain ⟨a, rfl⟩ : ∃ a : Nat, i = a := ⟨i.toNat, by omega⟩
  obtain ⟨b, rfl⟩ : ∃ b : Nat, j = b := ⟨j.toNat, by omega⟩
  refine ACalls.mono (heWay_own h8 (heights_len m) (fun r hr => heights_sq hr) (by omega) (by omega) (by omega) (by omega) (by omega)) ?_
  rintro r H4 ⟨rfl, rfl⟩
  repeat' (first
    | with_reducible refine rTT ?_
    | with_reducible refine rRFL ?_
    | with_reducible refine rLEN (by assumption) ?_
    | (with_reducible refine rIXk (by assumption) (by assumption) ?_; intro p hp)
    | (with_reducible refine rIX (by assumption) (by omega) (by omega) ?_; intro p a ha hp)
    | with_reducible refine rLDi (by assumption) ?_
    | (with_reducible refine rLD (by assumption) ?_; intro c hc)
    | with_reducible refine rADD (by omega) ?_
    | with_reducible refine rSUB (by omega) ?_
    | with_reducible refine rLSS ?_
    | with_reducible refine rLEQ ?_
    | with_reducible refine rGTR ?_
    | with_reducible refine rGEQ ?_
    | with_reducible refine rEQL ?_
    | with_reducible refine rNEQ ?_
    | with_reducible refine rNOT ?_
    | (with_reducible refine rBRK ?_ ?_ <;> intro hb)
    | (with_reducible refine rBRKn ?_ ?_ <;> intro hb)
    | (with_reducible refine rBRKnb ?_ ?_ <;> intro hb)
    | (with_reducible refine rBRKb ?_ ?_ <;> intro hb)
    | (with_reducible refine rSPL ?_ ?_ <;> intro hb)
    | (with_reducible refine rSPLn ?_ ?_ <;> intro hb)
    | (with_reducible refine rSPLnb ?_ ?_ <;> intro hb)
    | (with_reducible refine rSPLb ?_ ?_ <;> intro hb)
    | (exfalso; omega))
  · exact ⟨H2, hF.sub, by unfold flipOk; rw [hg, decide_eq_true hc, Int.toNat_natCast, Int.toNat_natCast, hb]; exact tabOk_no, rfl⟩
  · rcases h8 with ⟨rfl, ht⟩ | ⟨k, g, rows, ks, rfl, ho⟩
    · have := heights_len m; rw [ht] at this; simp at this
    · rw [heights_len]
      obtain ⟨row, hrow⟩ := ex_get (l := heightsF m) (k := a) (by rw [heights_len]; omega)
      have hrl := heights_sq (getElem_mem' hrow)
      obtain ⟨x, hx⟩ := ex_get (l := row) (k := b) (by omega)
      obtain ⟨kj, gj, g1, g2, g3, g4, g5⟩ := ho.get hrow
      refine rIXo (by omega) ?_
      repeat' (first
    | with_reducible refine rTT ?_
    | with_reducible refine rRFL ?_
    | with_reducible refine rLEN (by assumption) ?_
    | (with_reducible refine rIXk (by assumption) (by assumption) ?_; intro p hp)
    | (with_reducible refine rIX (by assumption) (by omega) (by omega) ?_; intro p a ha hp)
    | with_reducible refine rLDi (by assumption) ?_
    | (with_reducible refine rLD (by assumption) ?_; intro c hc)
    | with_reducible refine rADD (by omega) ?_
    | with_reducible refine rSUB (by omega) ?_
    | with_reducible refine rLSS ?_
    | with_reducible refine rLEQ ?_
    | with_reducible refine rGTR ?_
    | with_reducible refine rGEQ ?_
    | with_reducible refine rEQL ?_
    | with_reducible refine rNEQ ?_
    | with_reducible refine rNOT ?_
    | (with_reducible refine rBRK ?_ ?_ <;> intro hb)
    | (with_reducible refine rBRKn ?_ ?_ <;> intro hb)
    | (with_reducible refine rBRKnb ?_ ?_ <;> intro hb)
    | (with_reducible refine rBRKb ?_ ?_ <;> intro hb)
    | (with_reducible refine rSPL ?_ ?_ <;> intro hb)
    | (with_reducible refine rSPLn ?_ ?_ <;> intro hb)
    | (with_reducible refine rSPLnb ?_ ?_ <;> intro hb)
    | (with_reducible refine rSPLb ?_ ?_ <;> intro hb)
    | (exfalso; omega))
      refine rLDf ho.top g2 ?_
      repeat' (first
    | with_reducible refine rTT ?_
    | with_reducible refine rRFL ?_
    | with_reducible refine rLEN (by assumption) ?_
    | (with_reducible refine rIXk (by assumption) (by assumption) ?_; intro p hp)
    | (with_reducible refine rIX (by assumption) (by omega) (by omega) ?_; intro p a ha hp)
    | with_reducible refine rLDi (by assumption) ?_
    | (with_reducible refine rLD (by assumption) ?_; intro c hc)
    | with_reducible refine rADD (by omega) ?_
    | with_reducible refine rSUB (by omega) ?_
    | with_reducible refine rLSS ?_
    | with_reducible refine rLEQ ?_
    | with_reducible refine rGTR ?_
    | with_reducible refine rGEQ ?_
    | with_reducible refine rEQL ?_
    | with_reducible refine rNEQ ?_
    | with_reducible refine rNOT ?_
    | (with_reducible refine rBRK ?_ ?_ <;> intro hb)
    | (with_reducible refine rBRKn ?_ ?_ <;> intro hb)
    | (with_reducible refine rBRKnb ?_ ?_ <;> intro hb)
    | (with_reducible refine rBRKb ?_ ?_ <;> intro hb)
    | (with_reducible refine rSPL ?_ ?_ <;> intro hb)
    | (with_reducible refine rSPLn ?_ ?_ <;> intro hb)
    | (with_reducible refine rSPLnb ?_ ?_ <;> intro hb)
    | (with_reducible refine rSPLb ?_ ?_ <;> intro hb)
    | (exfalso; omega))
      refine rIXo (by omega) ?_
      repeat' (first
    | with_reducible refine rTT ?_
    | with_reducible refine rRFL ?_
    | with_reducible refine rLEN (by assumption) ?_
    | (with_reducible refine rIXk (by assumption) (by assumption) ?_; intro p hp)
    | (with_reducible refine rIX (by assumption) (by omega) (by omega) ?_; intro p a ha hp)
    | with_reducible refine rLDi (by assumption) ?_
    | (with_reducible refine rLD (by assumption) ?_; intro c hc)
    | with_reducible refine rADD (by omega) ?_
    | with_reducible refine rSUB (by omega) ?_
    | with_reducible refine rLSS ?_
    | with_reducible refine rLEQ ?_
    | with_reducible refine rGTR ?_
    | with_reducible refine rGEQ ?_
    | with_reducible refine rEQL ?_
    | with_reducible refine rNEQ ?_
    | with_reducible refine rNOT ?_
    | (with_reducible refine rBRK ?_ ?_ <;> intro hb)
    | (with_reducible refine rBRKn ?_ ?_ <;> intro hb)
    | (with_reducible refine rBRKnb ?_ ?_ <;> intro hb)
    | (with_reducible refine rBRKb ?_ ?_ <;> intro hb)
    | (with_reducible refine rSPL ?_ ?_ <;> intro hb)
    | (with_reducible refine rSPLn ?_ ?_ <;> intro hb)
    | (with_reducible refine rSPLnb ?_ ?_ <;> intro hb)
    | (with_reducible refine rSPLb ?_ ?_ <;> intro hb)
    | (exfalso; omega))
      refine rLDf g3 (by rw [List.getElem?_map, hx]; rfl) ?_
      refine rMUL (by rcases heWayF_cases (heightsF m) a b with h | h | h <;> rw [h] <;> decide) ?_
      refine rADDw ?_
      repeat' (first
    | with_reducible refine rTT ?_
    | with_reducible refine rRFL ?_
    | with_reducible refine rLEN (by assumption) ?_
    | (with_reducible refine rIXk (by assumption) (by assumption) ?_; intro p hp)
    | (with_reducible refine rIX (by assumption) (by omega) (by omega) ?_; intro p a ha hp)
    | with_reducible refine rLDi (by assumption) ?_
    | (with_reducible refine rLD (by assumption) ?_; intro c hc)
    | with_reducible refine rADD (by omega) ?_
    | with_reducible refine rSUB (by omega) ?_
    | with_reducible refine rLSS ?_
    | with_reducible refine rLEQ ?_
    | with_reducible refine rGTR ?_
    | with_reducible refine rGEQ ?_
    | with_reducible refine rEQL ?_
    | with_reducible refine rNEQ ?_
    | with_reducible refine rNOT ?_
    | (with_reducible refine rBRK ?_ ?_ <;> intro hb)
    | (with_reducible refine rBRKn ?_ ?_ <;> intro hb)
    | (with_reducible refine rBRKnb ?_ ?_ <;> intro hb)
    | (with_reducible refine rBRKb ?_ ?_ <;> intro hb)
    | (with_reducible refine rSPL ?_ ?_ <;> intro hb)
    | (with_reducible refine rSPLn ?_ ?_ <;> intro hb)
    | (with_reducible refine rSPLnb ?_ ?_ <;> intro hb)
    | (with_reducible refine rSPLb ?_ ?_ <;> intro hb)
    | (exfalso; omega))
      refine rIXo (by omega) ?_
      repeat' (first
    | with_reducible refine rTT ?_
    | with_reducible refine rRFL ?_
    | with_reducible refine rLEN (by assumption) ?_
    | (with_reducible refine rIXk (by assumption) (by assumption) ?_; intro p hp)
    | (with_reducible refine rIX (by assumption) (by omega) (by omega) ?_; intro p a ha hp)
    | with_reducible refine rLDi (by assumption) ?_
    | (with_reducible refine rLD (by assumption) ?_; intro c hc)
    | with_reducible refine rADD (by omega) ?_
    | with_reducible refine rSUB (by omega) ?_
    | with_reducible refine rLSS ?_
    | with_reducible refine rLEQ ?_
    | with_reducible refine rGTR ?_
    | with_reducible refine rGEQ ?_
    | with_reducible refine rEQL ?_
    | with_reducible refine rNEQ ?_
    | with_reducible refine rNOT ?_
    | (with_reducible refine rBRK ?_ ?_ <;> intro hb)
    | (with_reducible refine rBRKn ?_ ?_ <;> intro hb)
    | (with_reducible refine rBRKnb ?_ ?_ <;> intro hb)
    | (with_reducible refine rBRKb ?_ ?_ <;> intro hb)
    | (with_reducible refine rSPL ?_ ?_ <;> intro hb)
    | (with_reducible refine rSPLn ?_ ?_ <;> intro hb)
    | (with_reducible refine rSPLnb ?_ ?_ <;> intro hb)
    | (with_reducible refine rSPLb ?_ ?_ <;> intro hb)
    | (exfalso; omega))
      refine rSTp g3 (by simp; omega) rfl ?_
      have hset1 : ∀ w, (row.map I).set b (I w) = (row.set b w).map I := fun w => by rw [List.map_set]
      rw [hset1]
      have ho2 := ho.put hrow g1 g3 (r' := row.set b (w64 (x + 2 * heWayF (heightsF m) a b))) (by simp)
      have hup : (heightsF m).set a (row.set b (w64 (x + 2 * heWayF (heightsF m) a b))) = heUp (heightsF m) a b := by
        unfold heUp setM
        rw [getM_at hrow hx]
        simp [List.getD, hrow]
      rw [hup] at ho2
      have hF2 : Fresh H2 (hset H4 kj gj ((row.set b (w64 (x + 2 * heWayF (heightsF m) a b))).map I)) := hF.set g4 _ (ifrees_map _)
      have hul : (heUp (heightsF m) a b).length = m.length + 1 := by rw [heUp, setM_len, heights_len]
      have hOt : IsOTab H2.length (hset H4 kj gj ((row.set b (w64 (x + 2 * heWayF (heightsF m) a b))).map I)) (.own k g 1 0 (m.length + 1)) (heUp (heightsF m) a b) := ho2.is hul
      obtain ⟨v', q1, q2⟩ := hOt.pur (Hf := nw H2 (hset H4 kj gj ((row.set b (w64 (x + 2 * heWayF (heightsF m) a b))).map I))) fun i hi => nw_above _ _ hi
      refine ACalls.frz (nw_split hF2.sub) (k := 2) (args' := [v']) ⟨v', [], rfl, q1, rfl⟩ ?_
      have husq : isSquareB (heUp (heightsF m) a b) = true := by
        simp only [isSquareB, List.all_eq_true, decide_eq_true_eq, hul]
        exact hflip_sq (by omega)
      refine ACalls.mono (heFrom_ok (n := m.length) q2 (by omega) husq hul (by omega)) ?_
      rintro r H5 ⟨h5, rfl⟩
      refine ⟨_, HSub.refl _, ?_, rfl⟩
      have e1 : flipOk m a b = true := by
        unfold flipOk
        rw [hg, decide_eq_true hc, Int.toNat_natCast, Int.toNat_natCast, decide_eq_true hb]; rfl
      rw [e1]
      refine ⟨_, rfl, ?_⟩
      unfold heFlipF heFromF
      rw [Int.toNat_natCast, Int.toNat_natCast, hul, Nat.add_sub_cancel]
      exact h5

end Go.Proofs.Ytccioplhchmilaa.AL
