/-
  Contracts of functions, and what they rest on: Contracts: the path of the program. Contracts: the path of the reference. Contracts: draws of flips. From a law as a call over abstract values to the law as a call in a world. The law FnFlips, as a call.
-/
import Derived.Test.YtccioplhchmilaaLawFlipsM2
set_option linter.unusedVariables false
set_option maxRecDepth 100000
namespace Go.Proofs.Ytccioplhchmilaa.AL
open Go Go.Proofs

section
variable {n : Nat} {b : List (List Int)} {H0 : Heap} {bh gh k g bg gg : Nat} {rows : List AVal} {ks : List Nat} {vg v0 : AVal} {T m0 : List (List Int)}
def QPath (H0 : Heap) (T : List (List Int)) : AVal → Heap → Prop := fun r H' => HSub H0 H' ∧ ∃ k r', Pur (nw H0 H') k r r' ∧ (TabOk true T r' ∧ H0 = H0)
theorem path_loop (hv0 : IsTab v0 m0) (hm0 : m0.length = n) (Gb : Good n b) (hvg : IsTab vg (heightsF b)) (hbh : H0.length ≤ bh) (hbg : H0.length ≤ bg) (hne : bh ∉ k :: ks ∧ bg ∉ k :: ks) :
    ∀ (d : Nat) (m : List (List Int)) (H : Heap) (ls : List AVal) (P : List (List Int)) (v8 : AVal), Good n m → distM n m b = d → hget H bh = some (gh, [.own k g 1 0 (n + 1)]) → hget H bg = some (gg, [vg]) → OTab H0.length H k g rows ks (heightsF m) → Grow H0 H →
      OutL H0.length (bh :: bg :: k :: ks) H v8 ls → Rel2 IsInts ls P → P ++ pathM n b d m = T → ls.length + d ≤ 1000 →
      impl_FlipPath.L4 (QPath H0 T) v0 (.ptr bh gh 0) (.ptr bg gg 0) v8 H := by
  intro d
  induction d with
  | zero =>
    intro m H ls P v8 G hd hB gB ho hG hout hR he hlen
    have hmb := dist_zero G Gb hd
    subst hmb
    have hl : (heightsF m).length = n + 1 := by rw [heights_len, G.len]
    have h6 := G.n6
    have hO : IsOTab H0.length H (.own k g 1 0 (n + 1)) (heightsF m) := by rw [← hl]; exact ho.is rfl
    obtain ⟨v', q1, q2⟩ := hO.pur (Hf := H) fun _ _ => rfl
    apply impl_FlipPath.step4
    unfold impl_FlipPath.step4_vc
    repeat' (with_reducible first
 | refine rTT ?_
 | refine rRFL ?_
 | refine rLEN (by assumption) ?_
 | refine rEXT0 ?_
 | refine rEXT1 ?_
 | refine rNEB ?_
 | refine rEQB ?_
 | refine rLDp (by assumption) ?_
 | refine rLDf (by assumption) (by assumption) ?_
 | refine rIXo (by omega) ?_
 | (refine rIXqi (by assumption) (by assumption) ?_; intro cs o hc)
 | (refine rIXq (by assumption) (by assumption) ?_; intro cs o c hc hr)
 | refine rLDq (by assumption) ?_
 | refine ⟨rTT (rTT (rLDq (by assumption) rfl)), ?_⟩
 | refine ⟨rTT (rTT (rLDp (by assumption) rfl)), ?_⟩
 | refine ⟨rTT (rTT (rLDf (by assumption) (by assumption) rfl)), ?_⟩
 | (refine rIXk (by assumption) (by assumption) ?_; intro p hp)
 | (refine rIX (by assumption) (by omega) (by omega) ?_; intro p a ha hp)
 | refine rLDi (by assumption) ?_
 | (refine rLD (by assumption) ?_; intro c hc)
 | refine rADD (by omega) ?_
 | refine rSUB (by omega) ?_
 | refine rLSS ?_
 | refine rLEQ ?_
 | refine rGTR ?_
 | refine rGEQ ?_
 | refine rEQL ?_
 | refine rNEQ ?_
 | refine rNOT ?_
 | (refine rBRK ?_ ?_ <;> intro hb)
 | (refine rBRKn ?_ ?_ <;> intro hb)
 | (refine rBRKnb ?_ ?_ <;> intro hb)
 | (refine rBRKb ?_ ?_ <;> intro hb)
 | (refine rSPL ?_ ?_ <;> intro hb)
 | (refine rSPLn ?_ ?_ <;> intro hb)
 | (refine rSPLnb ?_ ?_ <;> intro hb)
 | (refine rSPLb ?_ ?_ <;> intro hb)
 | (exfalso; omega))
    refine ACalls.mono (lend_flat (k := 2) (args' := [v', vg]) (Q0 := fun r => r = I (cmpT (heightsF m) (heightsF m))) ⟨v', _, rfl, q1, _, _, rfl, Pur.refl _ _ _, rfl⟩ (by rintro r rfl; rfl) fun H => compareTables_ok q2 hvg (by omega) (fun x hx => by rw [heights_sq hx, G.len]; omega)) ?_
    rintro r H1 ⟨rfl, rfl⟩
    rw [cmpT_eq.2 rfl]
    repeat' (with_reducible first
 | refine rTT ?_
 | refine rRFL ?_
 | refine rLEN (by assumption) ?_
 | refine rEXT0 ?_
 | refine rEXT1 ?_
 | refine rNEB ?_
 | refine rEQB ?_
 | refine rLDp (by assumption) ?_
 | refine rLDf (by assumption) (by assumption) ?_
 | refine rIXo (by omega) ?_
 | (refine rIXqi (by assumption) (by assumption) ?_; intro cs o hc)
 | (refine rIXq (by assumption) (by assumption) ?_; intro cs o c hc hr)
 | refine rLDq (by assumption) ?_
 | refine ⟨rTT (rTT (rLDq (by assumption) rfl)), ?_⟩
 | refine ⟨rTT (rTT (rLDp (by assumption) rfl)), ?_⟩
 | refine ⟨rTT (rTT (rLDf (by assumption) (by assumption) rfl)), ?_⟩
 | (refine rIXk (by assumption) (by assumption) ?_; intro p hp)
 | (refine rIX (by assumption) (by omega) (by omega) ?_; intro p a ha hp)
 | refine rLDi (by assumption) ?_
 | (refine rLD (by assumption) ?_; intro c hc)
 | refine rADD (by omega) ?_
 | refine rSUB (by omega) ?_
 | refine rLSS ?_
 | refine rLEQ ?_
 | refine rGTR ?_
 | refine rGEQ ?_
 | refine rEQL ?_
 | refine rNEQ ?_
 | refine rNOT ?_
 | (refine rBRK ?_ ?_ <;> intro hb)
 | (refine rBRKn ?_ ?_ <;> intro hb)
 | (refine rBRKnb ?_ ?_ <;> intro hb)
 | (refine rBRKb ?_ ?_ <;> intro hb)
 | (refine rSPL ?_ ?_ <;> intro hb)
 | (refine rSPLn ?_ ?_ <;> intro hb)
 | (refine rSPLnb ?_ ?_ <;> intro hb)
 | (refine rSPLb ?_ ?_ <;> intro hb)
 | (exfalso; omega))
    have hf : ∀ i, H0.length ≤ i → hget (nw H0 H1) i = hget H1 i := fun i hi => nw_above H0 H1 hi
    obtain ⟨v8', p1, p2⟩ := hout.pur hf hR
    rw [pathM, List.append_nil] at he
    subst he
    exact ⟨hG.sub, 2, _, pur_pair p1 true, ⟨_, rfl, p2⟩, rfl⟩
  | succ d ih =>
    intro m H ls P v8 G hd hB gB ho hG hout hR he hlen
    have hl : (heightsF m).length = n + 1 := by rw [heights_len, G.len]
    have h6 := G.n6
    have h1n := G.n1
    have hne' : m ≠ b := fun e => by subst e; rw [dist_self] at hd; omega
    have hO : IsOTab H0.length H (.own k g 1 0 (n + 1)) (heightsF m) := by rw [← hl]; exact ho.is rfl
    obtain ⟨v', q1, q2⟩ := hO.pur (Hf := H) fun _ _ => rfl
    obtain ⟨i, j, l, hnext, i1, i2, j1, j2, hw, hd2, G2, hpath⟩ := path_step G Gb hd
    rw [hpath] at he
    -- the flip itself
    obtain ⟨row, hrow⟩ := ex_get (l := heightsF m) (k := i) (by omega)
    have hrl : row.length = n + 1 := by rw [heights_sq (getElem_mem' hrow), G.len]
    obtain ⟨y, hy⟩ := ex_get (l := row) (k := j) (by omega)
    obtain ⟨kj, gj, g1, g2, g3, g4, g5⟩ := ho.get hrow
    have hkj : kj ∈ k :: ks := by simp [List.mem_of_getElem? g1]
    rw [hrl] at g2
    have hy' : (row.map I)[j]? = some (I y) := by rw [List.getElem?_map, hy]; rfl
    have ht := ho.top
    have hb2 := ht_bound G (i := i) (j := j) (by omega) (by omega)
    rw [getM_at hrow hy] at hb2
    have hwc := way_cases (heightsF m) i j
    have e1 : 2 * heWayF (heightsF m) i j = wayF (heightsF m) i j := (way_eq G i1 i2 j1 j2).symm
    have tail : ∀ {x22 : AVal}, x22 = .own k g 1 0 (n + 1) → ACalls Try.prog 60 [x22, I i, I j] H fun x28 H29 =>
        (TT ∧ TT ∧ LDK false 1 H29 (.ptr kj gj j) fun x30 => x30 = I y) ∧ (TT ∧ TT ∧ LDK false 1 H29 (.ptr k g i) fun x31 => x31 = .own kj gj 1 0 (n + 1)) ∧ (TT ∧ TT ∧ LDK false 1 H29 (.ptr bh gh 0) fun x32 => x32 = .own k g 1 0 (n + 1)) ∧
        BINK .add (I y) x28 fun x33 => TT ∧ IXK 1 (.own kj gj 1 0 (n + 1)) (I j) fun x34 => TT ∧ STK 1 H29 x34 x33 fun H35 => TT ∧ TT ∧ TT ∧ BSK 1 [I i, I j] H35 fun x36 H37 => TT ∧ TT ∧ TT ∧ BSK 1 [x36] H37 fun x38 H39 =>
        TT ∧ TT ∧ APK 1 H39 v8 x38 fun x40 H41 => impl_FlipPath.L4 (QPath H0 T) v0 (.ptr bh gh 0) (.ptr bg gg 0) x40 H41 := by
      rintro x22 rfl
      refine ACalls.mono (way_own hO hl (fun r hr => by rw [heights_sq hr, G.len]) i1 (by omega) j1 (by omega) (by omega)) ?_
      rintro r H1 ⟨rfl, rfl⟩
      rw [← e1]
      repeat' (with_reducible first
 | refine rTT ?_
 | refine rRFL ?_
 | refine rLEN (by assumption) ?_
 | refine rEXT0 ?_
 | refine rEXT1 ?_
 | refine rNEB ?_
 | refine rEQB ?_
 | refine rLDp (by assumption) ?_
 | refine rLDf (by assumption) (by assumption) ?_
 | refine rIXo (by omega) ?_
 | (refine rIXqi (by assumption) (by assumption) ?_; intro cs o hc)
 | (refine rIXq (by assumption) (by assumption) ?_; intro cs o c hc hr)
 | refine rLDq (by assumption) ?_
 | refine ⟨rTT (rTT (rLDq (by assumption) rfl)), ?_⟩
 | refine ⟨rTT (rTT (rLDp (by assumption) rfl)), ?_⟩
 | refine ⟨rTT (rTT (rLDf (by assumption) (by assumption) rfl)), ?_⟩
 | (refine rIXk (by assumption) (by assumption) ?_; intro p hp)
 | (refine rIX (by assumption) (by omega) (by omega) ?_; intro p a ha hp)
 | refine rLDi (by assumption) ?_
 | (refine rLD (by assumption) ?_; intro c hc)
 | refine rADD (by omega) ?_
 | refine rSUB (by omega) ?_
 | refine rLSS ?_
 | refine rLEQ ?_
 | refine rGTR ?_
 | refine rGEQ ?_
 | refine rEQL ?_
 | refine rNEQ ?_
 | refine rNOT ?_
 | (refine rBRK ?_ ?_ <;> intro hb)
 | (refine rBRKn ?_ ?_ <;> intro hb)
 | (refine rBRKnb ?_ ?_ <;> intro hb)
 | (refine rBRKb ?_ ?_ <;> intro hb)
 | (refine rSPL ?_ ?_ <;> intro hb)
 | (refine rSPLn ?_ ?_ <;> intro hb)
 | (refine rSPLnb ?_ ?_ <;> intro hb)
 | (refine rSPLb ?_ ?_ <;> intro hb)
 | (exfalso; omega))
      refine rSTp g3 (by simp; omega) rfl ?_
      have hset1 : ∀ w, (row.map I).set j (I w) = (row.set j w).map I := fun w => by rw [List.map_set]
      rw [hset1]
      have ho2 := ho.put hrow g1 g3 (r' := row.set j (y + 2 * heWayF (heightsF m) i j)) (by simp)
      rw [up_set G (by omega) (by omega) hrow hy, flip_ht G i1 i2 j1 j2 hw] at ho2
      have hG2 : Grow H0 (hset H1 kj gj ((row.set j (y + 2 * heWayF (heightsF m) i j)).map I)) := hG.set g4 _ _
      have hB2 : hget (hset H1 kj gj ((row.set j (y + 2 * heWayF (heightsF m) i j)).map I)) bh = some (gh, [.own k g 1 0 (n + 1)]) := by
        rw [hget_set_ne _ _ (fun e => hne.1 (by rw [← e]; exact hkj))]; exact hB
      have gB2 : hget (hset H1 kj gj ((row.set j (y + 2 * heWayF (heightsF m) i j)).map I)) bg = some (gg, [vg]) := by
        rw [hget_set_ne _ _ (fun e => hne.2 (by rw [← e]; exact hkj))]; exact gB
      have hout2 : OutL H0.length (bh :: bg :: k :: ks) (hset H1 kj gj ((row.set j (y + 2 * heWayF (heightsF m) i j)).map I)) v8 ls := hout.frame fun i' g' cs' hi' hg' => by
        rw [hget_set_ne _ _ (fun e => hi' (by rw [← e]; exact List.mem_cons_of_mem _ (List.mem_cons_of_mem _ hkj)))]; exact hg'
      generalize hset H1 kj gj ((row.set j (y + 2 * heWayF (heightsF m) i j)).map I) = H2 at ho2 hG2 hB2 gB2 hout2 ⊢
      refine rTT (rTT (rTT (rLITn (rLITc rfl (rLITc rfl (rLITe ?_))))))
      refine rTT (rTT (rTT (rLITn (rLITc rfl (rLITe ?_)))))
      refine rTT (rTT ?_)
      refine hout2.snoc (by omega) hG2.len (fun i' hi' => ?_) (fun v' H' o1 o2 o3 => ?_)
      · rcases List.mem_cons.1 hi' with rfl | hi'
        · exact hlt_of_get hB2
        · rcases List.mem_cons.1 hi' with rfl | hi'
          · exact hlt_of_get gB2
          · exact ho2.lt _ hi'
      · refine ih (flipM m i j) H' (ls ++ [.sl true 2 [I i, I j]]) (P ++ [[(i : Int), (j : Int)]]) v' G2 hd2 ?_ ?_ ?_ ?_ o1 (hR.snoc (isInts_pair _ _)) ?_ (by simp; omega)
        · rw [o3 bh (.inl (by simp))]; exact hB2
        · rw [o3 bg (.inl (by simp))]; exact gB2
        · have hk : ∀ x ∈ k :: ks, hget H' x = hget H2 x := fun x hx => o3 x (.inl (List.mem_cons_of_mem _ (List.mem_cons_of_mem _ hx)))
          exact ⟨by rw [hk k (by simp)]; exact ho2.top, ho2.lok, ho2.len, ho2.kln, ho2.nd, fun j' s kj' h1 h2 => by
            obtain ⟨gj', h3, h4, h5⟩ := ho2.row j' s kj' h1 h2
            exact ⟨gj', h3, by rw [hk kj' (by simp [List.mem_of_getElem? h2])]; exact h4, h5⟩⟩
        · exact ⟨Nat.le_trans hG2.len o2, fun i' hi' => (o3 i' (.inr hi')).trans (hG2.old i' hi')⟩
        · rw [List.append_assoc]; exact he
    have q0 : [(i : Int), (j : Int)][0]? = some (i : Int) := rfl
    have q1' : [(i : Int), (j : Int)][1]? = some (j : Int) := rfl
    apply impl_FlipPath.step4
    unfold impl_FlipPath.step4_vc
    repeat' (with_reducible first
 | refine rTT ?_
 | refine rRFL ?_
 | refine rLEN (by assumption) ?_
 | refine rEXT0 ?_
 | refine rEXT1 ?_
 | refine rNEB ?_
 | refine rEQB ?_
 | refine rLDp (by assumption) ?_
 | refine rLDf (by assumption) (by assumption) ?_
 | refine rIXo (by omega) ?_
 | (refine rIXqi (by assumption) (by assumption) ?_; intro cs o hc)
 | (refine rIXq (by assumption) (by assumption) ?_; intro cs o c hc hr)
 | refine rLDq (by assumption) ?_
 | refine ⟨rTT (rTT (rLDq (by assumption) rfl)), ?_⟩
 | refine ⟨rTT (rTT (rLDp (by assumption) rfl)), ?_⟩
 | refine ⟨rTT (rTT (rLDf (by assumption) (by assumption) rfl)), ?_⟩
 | (refine rIXk (by assumption) (by assumption) ?_; intro p hp)
 | (refine rIX (by assumption) (by omega) (by omega) ?_; intro p a ha hp)
 | refine rLDi (by assumption) ?_
 | (refine rLD (by assumption) ?_; intro c hc)
 | refine rADD (by omega) ?_
 | refine rSUB (by omega) ?_
 | refine rLSS ?_
 | refine rLEQ ?_
 | refine rGTR ?_
 | refine rGEQ ?_
 | refine rEQL ?_
 | refine rNEQ ?_
 | refine rNOT ?_
 | (refine rBRK ?_ ?_ <;> intro hb)
 | (refine rBRKn ?_ ?_ <;> intro hb)
 | (refine rBRKnb ?_ ?_ <;> intro hb)
 | (refine rBRKb ?_ ?_ <;> intro hb)
 | (refine rSPL ?_ ?_ <;> intro hb)
 | (refine rSPLn ?_ ?_ <;> intro hb)
 | (refine rSPLnb ?_ ?_ <;> intro hb)
 | (refine rSPLb ?_ ?_ <;> intro hb)
 | (exfalso; omega))
    refine ACalls.mono (lend_flat (k := 2) (args' := [v', vg]) (Q0 := fun r => r = I (cmpT (heightsF m) (heightsF b))) ⟨v', _, rfl, q1, _, _, rfl, Pur.refl _ _ _, rfl⟩ (by rintro r rfl; rfl) fun H => compareTables_ok q2 hvg (by omega) (fun x hx => by rw [heights_sq hx, G.len]; omega)) ?_
    rintro r H1 ⟨rfl, rfl⟩
    have hcmp : cmpT (heightsF m) (heightsF b) ≠ 0 := fun h => hne' (ht_inj G Gb (cmpT_eq.1 h))
    refine rNEQ (rBRK (fun _ => ?_) (fun h => absurd hcmp h))
    refine rLEN hv0 ?_
    rw [hm0]
    refine ACalls.mono (cellsP_ok (p := fun i j => decide (heWayF (heightsF m) i j = 1) && decide (getM (heightsF m) i j < getM (heightsF b) i j)) (by omega) h1n (fun i' j' a1 a2 b1 b2 H3 hs => rCALL ?_)) ?_
    · exact flipPath1_ok G Gb (hs _ _ _ hB) (hs _ _ _ gB) hvg (ho.hsub hs) a1 a2 b1 b2
    · rintro r3 H3 ⟨h3, rfl⟩
      have hups : cellsF (fun i j => decide (heWayF (heightsF m) i j = 1) && decide (getM (heightsF m) i j < getM (heightsF b) i j)) (n - 1) = ups n m b := rfl
      rw [hups] at h3
      refine rLEN h3 (rEQL (rBRK (fun hz => ?_) (fun hz => ?_)))
      · have hu0 : ups n m b = [] := List.eq_nil_of_length_eq_zero (by omega)
        rw [hu0, List.nil_append] at hnext
        refine rLEN hv0 ?_
        rw [hm0]
        refine ACalls.mono (cellsP_ok (p := fun i j => decide (heWayF (heightsF m) i j = -1) && decide (getM (heightsF b) i j < getM (heightsF m) i j)) (by omega) h1n (fun i' j' a1 a2 b1 b2 H3 hs => rCALL ?_)) ?_
        · exact flipPath2_ok G Gb (hs _ _ _ hB) (hs _ _ _ gB) hvg (ho.hsub hs) a1 a2 b1 b2
        · rintro r4 H4 ⟨h4, rfl⟩
          have hdns : cellsF (fun i j => decide (heWayF (heightsF m) i j = -1) && decide (getM (heightsF b) i j < getM (heightsF m) i j)) (n - 1) = dns n m b := rfl
          rw [hdns, hnext] at h4
          have qc : ([(i : Int), (j : Int)] :: l)[0]? = some [(i : Int), (j : Int)] := rfl
          repeat' (first
 | ((refine rIXk (i := 0) h4 qc ?_; intro p hp))
 | ((refine rIXk (i := 0) (by assumption) q0 ?_; intro p hp))
 | ((refine rIXk (i := 1) (by assumption) q1' ?_; intro p hp))
 | with_reducible first
 | refine rTT ?_
 | refine rRFL ?_
 | refine rLEN (by assumption) ?_
 | refine rEXT0 ?_
 | refine rEXT1 ?_
 | refine rNEB ?_
 | refine rEQB ?_
 | refine rLDp (by assumption) ?_
 | refine rLDf (by assumption) (by assumption) ?_
 | refine rIXo (by omega) ?_
 | (refine rIXqi (by assumption) (by assumption) ?_; intro cs o hc)
 | (refine rIXq (by assumption) (by assumption) ?_; intro cs o c hc hr)
 | refine rLDq (by assumption) ?_
 | refine ⟨rTT (rTT (rLDq (by assumption) rfl)), ?_⟩
 | refine ⟨rTT (rTT (rLDp (by assumption) rfl)), ?_⟩
 | refine ⟨rTT (rTT (rLDf (by assumption) (by assumption) rfl)), ?_⟩
 | (refine rIXk (by assumption) (by assumption) ?_; intro p hp)
 | (refine rIX (by assumption) (by omega) (by omega) ?_; intro p a ha hp)
 | refine rLDi (by assumption) ?_
 | (refine rLD (by assumption) ?_; intro c hc)
 | refine rADD (by omega) ?_
 | refine rSUB (by omega) ?_
 | refine rLSS ?_
 | refine rLEQ ?_
 | refine rGTR ?_
 | refine rGEQ ?_
 | refine rEQL ?_
 | refine rNEQ ?_
 | refine rNOT ?_
 | (refine rBRK ?_ ?_ <;> intro hb)
 | (refine rBRKn ?_ ?_ <;> intro hb)
 | (refine rBRKnb ?_ ?_ <;> intro hb)
 | (refine rBRKb ?_ ?_ <;> intro hb)
 | (refine rSPL ?_ ?_ <;> intro hb)
 | (refine rSPLn ?_ ?_ <;> intro hb)
 | (refine rSPLnb ?_ ?_ <;> intro hb)
 | (refine rSPLb ?_ ?_ <;> intro hb)
 | (exfalso; omega))
          exact tail rfl
      · cases hu : ups n m b with
        | nil => rw [hu] at hz; simp at hz
        | cons c0 l0 =>
          rw [hu, List.cons_append] at hnext
          obtain ⟨rfl, _⟩ := List.cons.inj hnext
          rw [hu] at h3
          have qc : ([(i : Int), (j : Int)] :: l0)[0]? = some [(i : Int), (j : Int)] := rfl
          repeat' (first
 | ((refine rIXk (i := 0) h3 qc ?_; intro p hp))
 | ((refine rIXk (i := 0) (by assumption) q0 ?_; intro p hp))
 | ((refine rIXk (i := 1) (by assumption) q1' ?_; intro p hp))
 | with_reducible first
 | refine rTT ?_
 | refine rRFL ?_
 | refine rLEN (by assumption) ?_
 | refine rEXT0 ?_
 | refine rEXT1 ?_
 | refine rNEB ?_
 | refine rEQB ?_
 | refine rLDp (by assumption) ?_
 | refine rLDf (by assumption) (by assumption) ?_
 | refine rIXo (by omega) ?_
 | (refine rIXqi (by assumption) (by assumption) ?_; intro cs o hc)
 | (refine rIXq (by assumption) (by assumption) ?_; intro cs o c hc hr)
 | refine rLDq (by assumption) ?_
 | refine ⟨rTT (rTT (rLDq (by assumption) rfl)), ?_⟩
 | refine ⟨rTT (rTT (rLDp (by assumption) rfl)), ?_⟩
 | refine ⟨rTT (rTT (rLDf (by assumption) (by assumption) rfl)), ?_⟩
 | (refine rIXk (by assumption) (by assumption) ?_; intro p hp)
 | (refine rIX (by assumption) (by omega) (by omega) ?_; intro p a ha hp)
 | refine rLDi (by assumption) ?_
 | (refine rLD (by assumption) ?_; intro c hc)
 | refine rADD (by omega) ?_
 | refine rSUB (by omega) ?_
 | refine rLSS ?_
 | refine rLEQ ?_
 | refine rGTR ?_
 | refine rGEQ ?_
 | refine rEQL ?_
 | refine rNEQ ?_
 | refine rNOT ?_
 | (refine rBRK ?_ ?_ <;> intro hb)
 | (refine rBRKn ?_ ?_ <;> intro hb)
 | (refine rBRKnb ?_ ?_ <;> intro hb)
 | (refine rBRKb ?_ ?_ <;> intro hb)
 | (refine rSPL ?_ ?_ <;> intro hb)
 | (refine rSPLn ?_ ?_ <;> intro hb)
 | (refine rSPLnb ?_ ?_ <;> intro hb)
 | (refine rSPLb ?_ ?_ <;> intro hb)
 | (exfalso; omega))
          exact tail rfl
end
def pathF (a b : List (List Int)) : List (List Int) := pathM a.length b (distM a.length a b).toNat a
theorem flipPath_ok {a b : List (List Int)} {v u : AVal} {H : Heap} (hv : IsTab v a) (hu : IsTab u b) (la : a.length ≤ 100000) (lb : b.length ≤ 100000) : ACalls Try.prog 42 [v, u] H fun r H' => TabOk (pairB a b) (pathF a b) r ∧ H' = H := by
  apply ACalls.pure
  apply impl_FlipPath.start
  unfold impl_FlipPath.start_vc
  refine ACalls.mono (arePair_ok hv hu la lb) ?_
  rintro r H1 ⟨rfl, rfl⟩
  refine rNOT (rBRKnb (fun hb => ?_) (fun hb => ?_))
  · rw [hb]; exact ⟨HSub.refl _, 1, _, Pur.refl _ _ _, tabOk_no, rfl⟩
  · have h := hb
    simp only [pairB, Bool.and_eq_true, decide_eq_true_eq] at h
    have G := goodB_iff.1 h.1
    have Gb := goodB_iff.1 h.2.1
    rw [← h.2.2] at Gb
    refine ACalls.mono (heightsO_ok hv la (goodB_sq h.1)) ?_
    rintro r2 H2 ⟨h2, hG⟩
    refine ACalls.mono (heights_ok hu lb (goodB_sq h.2.1)) ?_
    rintro r3 H3 ⟨h3, rfl⟩
    have hlen := heights_len a
    rcases h2 with ⟨rfl, ht⟩ | ⟨k, g, rows, ks, rfl, ho⟩
    · rw [ht] at hlen; simp at hlen
    · rw [hlen]
      refine rTT (rTT (rTT (rLIT0 ?_)))
      refine rTT (rBOX rfl fun gh => ?_)
      refine rTT (rBOX rfl fun gg => ?_)
      have p1 := hget_new' gg [.nilS] (hget_new H3 gh [.nilS])
      refine rTT (rSTp p1 (by simp) rfl ?_)
      have p2 : hget (hset (hnew (hnew H3 gh [.nilS]) gg [.nilS]) H3.length gh ([AVal.nilS].set 0 (.own k g 1 0 (a.length + 1)))) (hnew H3 gh [.nilS]).length = some (gg, [.nilS]) := by
        rw [hget_set_ne _ _ (by rw [hlen_new]; omega)]; exact hget_new _ _ _
      refine rTT (rSTp p2 (by simp) h3.one ?_)
      have hlt := hlt_of_get p1
      have hlt2 := hlt_of_get p2
      have hb1 := ho.lt
      generalize hH4 : hset (hset (hnew (hnew H3 gh [.nilS]) gg [.nilS]) H3.length gh ([AVal.nilS].set 0 (.own k g 1 0 (a.length + 1)))) (hnew H3 gh [.nilS]).length gg ([AVal.nilS].set 0 r3) = H4
      have o1 : hget H4 H3.length = some (gh, [.own k g 1 0 (a.length + 1)]) := by
        rw [← hH4, hget_set_ne _ _ (by rw [hlen_new]; omega), hget_set _ _ hlt]; rfl
      have o2 : hget H4 (hnew H3 gh [.nilS]).length = some (gg, [r3]) := by
        rw [← hH4, hget_set _ _ hlt2]; rfl
      have o3 : ∀ i, i < H3.length → hget H4 i = hget H3 i := fun i hi => by
        rw [← hH4, hget_set_ne _ _ (by rw [hlen_new]; omega), hget_set_ne _ _ (by omega), hget_old _ _ (by rw [hlen_new]; omega), hget_old _ _ hi]
      have o4 : H3.length ≤ H4.length := by
        rw [← hH4, hlen_set, hlen_set, hlen_new, hlen_new]; omega
      have hd0 : distM a.length a b = ((distM a.length a b).toNat : Int) := (Int.toNat_of_nonneg (dist_nonneg _ _ _)).symm
      have hbd := dist_bound G Gb
      rw [hb]
      refine path_loop (rows := rows) hv rfl Gb h3 hG.len (by rw [hlen_new]; have := hG.len; omega) ⟨fun hm => Nat.lt_irrefl _ (hb1 _ hm), fun hm => by have := hb1 _ hm; rw [hlen_new] at this; omega⟩ (distM a.length a b).toNat a H4 [] [] _ G hd0 o1 o2 ?_ ?_ (.inl ⟨rfl, .inl rfl⟩) Rel2.nil rfl (by simp; omega)
      · exact ho.frame fun i _ hi => o3 i hi
      · exact ⟨Nat.le_trans hG.len o4, fun i hi => (o3 i (Nat.lt_of_lt_of_le hi hG.len)).trans (hG.old i hi)⟩

end Go.Proofs.Ytccioplhchmilaa.AL

set_option linter.unusedVariables false
set_option maxRecDepth 100000
namespace Go.Proofs.Ytccioplhchmilaa.AL
open Go Go.Proofs

/-! spec.heFirst (slots: 0 h, 1 goal, 2 way, 3 h, 4 goal, 5 way, 7 _, 8 cell) -/
namespace spec_heFirst
def lv : List (Nat × List Nat) := [(2, [0, 1, 2, 11, 12, 13])]
noncomputable def K2 : List KF := [.lp (cB (cB (cR (cL (cR (bodyOf Try.f98)))))), .bl 0, .sq (cR (cR (bodyOf Try.f98)))]
def L2 (Q : AVal → Heap → Prop) (v0 v1 v2 v11 v12 v13 : AVal) (H : Heap) : Prop := At Try.prog 98 45 K2 Q (slotsOf [(0, v0), (1, v1), (2, v2), (11, v11), (12, v12), (13, v13)]) H
theorem L2_frz {Q : AVal → Heap → Prop} {v0 v1 v2 v11 v12 v13 w0 w1 w2 w11 w12 w13 : AVal} {H Hf Hk : Heap} {k : Nat} (hs : Split H Hf Hk) (hp : PurL Hf k [(0, v0, w0), (1, v1, w1), (2, v2, w2), (11, v11, w11), (12, v12, w12), (13, v13, w13)]) (h : L2 Q w0 w1 w2 w11 w12 w13 Hk) : L2 Q v0 v1 v2 v11 v12 v13 H := at_frz (ks := K2) hs hp h
def start_vc (Q : AVal → Heap → Prop) (a0 a1 a2 : AVal) (H : Heap) : Prop :=
 ACalls Try.prog 100 [a0, a2] H fun x1 H2 =>
 LENK x1 fun x3 =>
 spec_heFirst.L2 Q a0 a1 a2 x1 x3 (AVal.int .i64 0) H2
theorem start_eq (Q : AVal → Heap → Prop) (a0 a1 a2 : AVal) (H : Heap) : vs Try.prog lv 98 45 Try.f98.results.toList Q true 1000 [.sq (bodyOf Try.f98)] (entry [a0, a1, a2]) H = start_vc Q a0 a1 a2 H := by kernel_rfl
theorem start {Q : AVal → Heap → Prop} {a0 a1 a2 : AVal} {H : Heap} (h : start_vc Q a0 a1 a2 H) : ACalls Try.prog 98 [a0, a1, a2] H Q := acalls_vs (lv := lv) mixed Try.func98 rfl (by kernel_rfl) (by kernel_rfl) (start_eq Q a0 a1 a2 H ▸ h)
def step2_vc (Q : AVal → Heap → Prop) (v0 v1 v2 v11 v12 v13 : AVal) (H : Heap) : Prop :=
 BINK .lss v13 v12 fun x1 =>
 BRK x1 (TT ∧ IXK 1 v11 v13 fun x2 =>
 TT ∧ TT ∧ LDK false 1 H x2 fun x3 =>
 TT ∧ TT ∧ IXK 1 x3 (AVal.int .i64 0) fun x4 =>
 TT ∧ TT ∧ LDK false 1 H x4 fun x5 =>
 TT ∧ IXK 1 v1 x5 fun x6 =>
 TT ∧ TT ∧ LDK false 1 H x6 fun x7 =>
 TT ∧ IXK 1 x3 (AVal.int .i64 1) fun x8 =>
 TT ∧ TT ∧ LDK false 1 H x8 fun x9 =>
 TT ∧ IXK 1 x7 x9 fun x10 =>
 TT ∧ TT ∧ LDK false 1 H x10 fun x11 =>
 TT ∧ IXK 1 x3 (AVal.int .i64 0) fun x12 =>
 TT ∧ TT ∧ LDK false 1 H x12 fun x13 =>
 TT ∧ IXK 1 v0 x13 fun x14 =>
 TT ∧ TT ∧ LDK false 1 H x14 fun x15 =>
 TT ∧ IXK 1 x3 (AVal.int .i64 1) fun x16 =>
 TT ∧ TT ∧ LDK false 1 H x16 fun x17 =>
 TT ∧ IXK 1 x15 x17 fun x18 =>
 TT ∧ TT ∧ LDK false 1 H x18 fun x19 =>
 BINK .sub x11 x19 fun x20 =>
 BINK .mul v2 x20 fun x21 =>
 BINK .gtr x21 (AVal.int .i64 0) fun x22 =>
 BRK x22 (Q x3 H) (BINK .add v13 (AVal.int .i64 1) fun x23 =>
 spec_heFirst.L2 Q v0 v1 v2 v11 v12 x23 H)) (Q AVal.nilS H)
theorem step2_eq (Q : AVal → Heap → Prop) (v0 v1 v2 v11 v12 v13 : AVal) (H : Heap) : vs Try.prog lv 98 45 Try.f98.results.toList Q true 1000 (.sq (cB (cB (cR (cL (cR (bodyOf Try.f98)))))) :: K2) (slotsOf [(0, v0), (1, v1), (2, v2), (11, v11), (12, v12), (13, v13)]) H = step2_vc Q v0 v1 v2 v11 v12 v13 H := by kernel_rfl
theorem step2 {Q : AVal → Heap → Prop} {v0 v1 v2 v11 v12 v13 : AVal} {H : Heap} (h : step2_vc Q v0 v1 v2 v11 v12 v13 H) : L2 Q v0 v1 v2 v11 v12 v13 H := at_lp_vs (lv := lv) (ks := K2.tail) mixed Try.func98 (step2_eq Q v0 v1 v2 v11 v12 v13 H ▸ h)
end spec_heFirst

/-! spec.FlipPath (slots: 0 m, 1 k, 2 m, 3 k, 6 h, 7 goal, 8 out, 9 way, 10 cell) -/
namespace spec_FlipPath
def lv : List (Nat × List Nat) := [(5, [6, 7, 8])]
noncomputable def K5 : List KF := [.lp (cB (cB (cL (cR (cR (cR (cR (bodyOf Try.f43)))))))), .bl 0, .sq (cR (cR (cR (cR (cR (bodyOf Try.f43))))))]
def L5 (Q : AVal → Heap → Prop) (v6 v7 v8 : AVal) (H : Heap) : Prop := At Try.prog 43 54 K5 Q (slotsOf [(6, v6), (7, v7), (8, v8)]) H
theorem L5_frz {Q : AVal → Heap → Prop} {v6 v7 v8 w6 w7 w8 : AVal} {H Hf Hk : Heap} {k : Nat} (hs : Split H Hf Hk) (hp : PurL Hf k [(6, v6, w6), (7, v7, w7), (8, v8, w8)]) (h : L5 Q w6 w7 w8 Hk) : L5 Q v6 v7 v8 H := at_frz (ks := K5) hs hp h
def start_vc (Q : AVal → Heap → Prop) (a0 a1 : AVal) (H : Heap) : Prop :=
 ACalls Try.prog 87 [a0, a1] H fun x1 H2 =>
 NOTK x1 fun x3 =>
 BRK x3 (Q (AVal.tup [AVal.nilS, (AVal.bool false)]) H2) (ACalls Try.prog 61 [a0] H2 fun x4 H5 =>
 ACalls Try.prog 61 [a1] H5 fun x6 H7 =>
 spec_FlipPath.L5 Q x4 x6 AVal.nilS H7)
theorem start_eq (Q : AVal → Heap → Prop) (a0 a1 : AVal) (H : Heap) : vs Try.prog lv 43 54 Try.f43.results.toList Q true 1000 [.sq (bodyOf Try.f43)] (entry [a0, a1]) H = start_vc Q a0 a1 H := by kernel_rfl
theorem start {Q : AVal → Heap → Prop} {a0 a1 : AVal} {H : Heap} (h : start_vc Q a0 a1 H) : ACalls Try.prog 43 [a0, a1] H Q := acalls_vs (lv := lv) mixed Try.func43 rfl (by kernel_rfl) (by kernel_rfl) (start_eq Q a0 a1 H ▸ h)
def step5_vc (Q : AVal → Heap → Prop) (v6 v7 v8 : AVal) (H : Heap) : Prop :=
 ACalls Try.prog 97 [v6, v7] H fun x1 H2 =>
 NOTK x1 fun x3 =>
 BRK x3 (ACalls Try.prog 98 [v6, v7, (AVal.int .i64 1)] H2 fun x4 H5 =>
 LENK x4 fun x6 =>
 BINK .eql x6 (AVal.int .i64 0) fun x7 =>
 BRK x7 (ACalls Try.prog 98 [v6, v7, (AVal.int .i64 (-1))] H5 fun x8 H9 =>
 TT ∧ TT ∧ IXK 1 x8 (AVal.int .i64 0) fun x10 =>
 TT ∧ TT ∧ LDK false 1 H9 x10 fun x11 =>
 TT ∧ IXK 1 v6 x11 fun x12 =>
 TT ∧ TT ∧ LDK false 1 H9 x12 fun x13 =>
 TT ∧ IXK 1 x8 (AVal.int .i64 1) fun x14 =>
 TT ∧ TT ∧ LDK false 1 H9 x14 fun x15 =>
 TT ∧ IXK 1 x13 x15 fun x16 =>
 TT ∧ TT ∧ LDK false 1 H9 x16 fun x17 =>
 BINK .mul (AVal.int .i64 2) (AVal.int .i64 (-1)) fun x18 =>
 BINK .add x17 x18 fun x19 =>
 TT ∧ IXK 1 x13 x15 fun x20 =>
 TT ∧ STK 1 H9 x20 x19 fun H21 =>
 TT ∧ TT ∧ TT ∧ BSK 1 [x8] H21 fun x22 H23 =>
 TT ∧ TT ∧ APK 1 H23 v8 x22 fun x24 H25 =>
 spec_FlipPath.L5 Q v6 v7 x24 H25) (TT ∧ TT ∧ IXK 1 x4 (AVal.int .i64 0) fun x26 =>
 TT ∧ TT ∧ LDK false 1 H5 x26 fun x27 =>
 TT ∧ IXK 1 v6 x27 fun x28 =>
 TT ∧ TT ∧ LDK false 1 H5 x28 fun x29 =>
 TT ∧ IXK 1 x4 (AVal.int .i64 1) fun x30 =>
 TT ∧ TT ∧ LDK false 1 H5 x30 fun x31 =>
 TT ∧ IXK 1 x29 x31 fun x32 =>
 TT ∧ TT ∧ LDK false 1 H5 x32 fun x33 =>
 BINK .mul (AVal.int .i64 2) (AVal.int .i64 1) fun x34 =>
 BINK .add x33 x34 fun x35 =>
 TT ∧ IXK 1 x29 x31 fun x36 =>
 TT ∧ STK 1 H5 x36 x35 fun H37 =>
 TT ∧ TT ∧ TT ∧ BSK 1 [x4] H37 fun x38 H39 =>
 TT ∧ TT ∧ APK 1 H39 v8 x38 fun x40 H41 =>
 spec_FlipPath.L5 Q v6 v7 x40 H41)) (Q (AVal.tup [v8, (AVal.bool true)]) H2)
theorem step5_eq (Q : AVal → Heap → Prop) (v6 v7 v8 : AVal) (H : Heap) : vs Try.prog lv 43 54 Try.f43.results.toList Q true 1000 (.sq (cB (cB (cL (cR (cR (cR (cR (bodyOf Try.f43)))))))) :: K5) (slotsOf [(6, v6), (7, v7), (8, v8)]) H = step5_vc Q v6 v7 v8 H := by kernel_rfl
theorem step5 {Q : AVal → Heap → Prop} {v6 v7 v8 : AVal} {H : Heap} (h : step5_vc Q v6 v7 v8 H) : L5 Q v6 v7 v8 H := at_lp_vs (lv := lv) (ks := K5.tail) mixed Try.func43 (step5_eq Q v6 v7 v8 H ▸ h)
end spec_FlipPath


theorem own_len {lo : Nat} {H : Heap} {v : AVal} {t : List (List Int)} (h : IsOTab lo H v t) : ∀ K : AVal → Prop, K (I t.length) → LENK v K := fun K k => h.len k
/-- The cells that are nearer, one way. -/
def nearer (n : Nat) (m b : List (List Int)) (w : Int) : List (List Int) := cellsF (fun i j => decide (heWayF (heightsF m) i j = w) && decide (0 < w * (getM (heightsF b) i j - getM (heightsF m) i j))) (n - 1)
theorem near_up (n : Nat) (m b : List (List Int)) : nearer n m b 1 = ups n m b := cells_congr fun i j _ _ _ _ => by
  congr 1
  simp only [decide_eq_decide]; omega
theorem near_dn (n : Nat) (m b : List (List Int)) : nearer n m b (-1) = dns n m b := cells_congr fun i j _ _ _ _ => by
  congr 1
  simp only [decide_eq_decide]; omega
section
variable {n : Nat} {m b : List (List Int)} {H : Heap} {k g lo : Nat} {rows : List AVal} {ks : List Nat} {vg vl : AVal} {w : Int} {Q : AVal → Heap → Prop}
theorem first_loop (G : Good n m) (Gb : Good n b) (hw : w = 1 ∨ w = -1) (hvg : IsTab vg (heightsF b)) (ho : OTab lo H k g rows ks (heightsF m)) {L : List (List Int)} (hvl : IsTab vl L) (hL : L.length ≤ 1000) (hcs : ∀ c ∈ L, ∃ i j : Nat, c = [(i : Int), (j : Int)] ∧ i < n ∧ j < n) : ∀ (cnt x : Nat), x + cnt = L.length →
    (∀ r, IsInts r ((((L.drop x).filter (onCell fun i j => decide (0 < w * (getM (heightsF b) i j - getM (heightsF m) i j)))).head?).getD []) → Q r H) →
    spec_heFirst.L2 Q (.own k g 1 0 (n + 1)) vg (I w) vl (I L.length) (I x) H := by
  intro cnt
  induction cnt with
  | zero =>
    intro x hx hq
    apply spec_heFirst.step2
    unfold spec_heFirst.step2_vc
    repeat' (with_reducible first
 | refine rTT ?_
 | refine rRFL ?_
 | refine rLEN (by assumption) ?_
 | (refine rIXk (by assumption) (by assumption) ?_; intro p hp)
 | (refine rIX (by assumption) (by omega) (by omega) ?_; intro p a ha hp)
 | refine rLDi (by assumption) ?_
 | (refine rLD (by assumption) ?_; intro c hc)
 | refine rADD (by omega) ?_
 | refine rSUB (by omega) ?_
 | refine rLSS ?_
 | refine rLEQ ?_
 | refine rGTR ?_
 | refine rGEQ ?_
 | refine rEQL ?_
 | refine rNEQ ?_
 | refine rNOT ?_
 | (refine rBRK ?_ ?_ <;> intro hb)
 | (refine rBRKn ?_ ?_ <;> intro hb)
 | (refine rBRKnb ?_ ?_ <;> intro hb)
 | (refine rBRKb ?_ ?_ <;> intro hb)
 | (refine rSPL ?_ ?_ <;> intro hb)
 | (refine rSPLn ?_ ?_ <;> intro hb)
 | (refine rSPLnb ?_ ?_ <;> intro hb)
 | (refine rSPLb ?_ ?_ <;> intro hb)
 | (exfalso; omega))
    rw [List.drop_eq_nil_of_le (by omega)] at hq
    exact hq _ (.inl ⟨rfl, rfl⟩)
  | succ cnt ih =>
    intro x hx hq
    obtain ⟨cl, hcx⟩ := ex_get (l := L) (k := x) (by omega)
    rw [drop_some hcx, List.filter_cons] at hq
    obtain ⟨i, j, rfl, i2, j2⟩ := hcs cl (getElem_mem' hcx)
    have q0 : [(i : Int), (j : Int)][0]? = some (i : Int) := rfl
    have q1' : [(i : Int), (j : Int)][1]? = some (j : Int) := rfl
    have hl : (heightsF m).length = n + 1 := by rw [heights_len, G.len]
    have hlb : (heightsF b).length = n + 1 := by rw [heights_len, Gb.len]
    obtain ⟨row, hrow⟩ := ex_get (l := heightsF m) (k := i) (by omega)
    have hrl : row.length = n + 1 := by rw [heights_sq (getElem_mem' hrow), G.len]
    obtain ⟨y, hy⟩ := ex_get (l := row) (k := j) (by omega)
    obtain ⟨kj, gj, g1, g2, g3, g4, g5⟩ := ho.get hrow
    rw [hrl] at g2
    have hy' : (row.map I)[j]? = some (I y) := by rw [List.getElem?_map, hy]; rfl
    have ht := ho.top
    obtain ⟨rowb, hrowb⟩ := ex_get (l := heightsF b) (k := i) (by omega)
    have hrlb : rowb.length = n + 1 := by rw [heights_sq (getElem_mem' hrowb), Gb.len]
    obtain ⟨z, hz⟩ := ex_get (l := rowb) (k := j) (by omega)
    have by1 := ht_bound G (i := i) (j := j) (by omega) (by omega)
    have bz1 := ht_bound Gb (i := i) (j := j) (by omega) (by omega)
    rw [getM_at hrow hy] at by1
    rw [getM_at hrowb hz] at bz1
    have hon : onCell (fun i j => decide (0 < w * (getM (heightsF b) i j - getM (heightsF m) i j))) [(i : Int), (j : Int)] = decide (0 < w * (z - y)) := by
      show decide (0 < w * (getM (heightsF b) i j - getM (heightsF m) i j)) = _
      rw [getM_at hrow hy, getM_at hrowb hz]
    rw [hon] at hq
    apply spec_heFirst.step2
    unfold spec_heFirst.step2_vc
    repeat' (first
 | ((refine rIXk (i := 0) (by assumption) q0 ?_; intro p hp))
 | ((refine rIXk (i := 1) (by assumption) q1' ?_; intro p hp))
 | with_reducible first
 | refine rTT ?_
 | refine rRFL ?_
 | refine rLEN (by assumption) ?_
 | refine rEXT0 ?_
 | refine rEXT1 ?_
 | refine rNEB ?_
 | refine rEQB ?_
 | refine rLDp (by assumption) ?_
 | refine rLDf (by assumption) (by assumption) ?_
 | refine rIXo (by omega) ?_
 | (refine rIXqi (by assumption) (by assumption) ?_; intro cs o hc)
 | (refine rIXq (by assumption) (by assumption) ?_; intro cs o c hc hr)
 | refine rLDq (by assumption) ?_
 | refine ⟨rTT (rTT (rLDq (by assumption) rfl)), ?_⟩
 | refine ⟨rTT (rTT (rLDp (by assumption) rfl)), ?_⟩
 | refine ⟨rTT (rTT (rLDf (by assumption) (by assumption) rfl)), ?_⟩
 | (refine rIXk (by assumption) (by assumption) ?_; intro p hp)
 | (refine rIX (by assumption) (by omega) (by omega) ?_; intro p a ha hp)
 | refine rLDi (by assumption) ?_
 | (refine rLD (by assumption) ?_; intro c hc)
 | refine rADD (by omega) ?_
 | refine rSUB (by omega) ?_
 | refine rLSS ?_
 | refine rLEQ ?_
 | refine rGTR ?_
 | refine rGEQ ?_
 | refine rEQL ?_
 | refine rNEQ ?_
 | refine rNOT ?_
 | (refine rBRK ?_ ?_ <;> intro hb)
 | (refine rBRKn ?_ ?_ <;> intro hb)
 | (refine rBRKnb ?_ ?_ <;> intro hb)
 | (refine rBRKb ?_ ?_ <;> intro hb)
 | (refine rSPL ?_ ?_ <;> intro hb)
 | (refine rSPLn ?_ ?_ <;> intro hb)
 | (refine rSPLnb ?_ ?_ <;> intro hb)
 | (refine rSPLb ?_ ?_ <;> intro hb)
 | (exfalso; omega))
    refine rMUL (by rcases hw with rfl | rfl <;> omega) ?_
    repeat' (with_reducible first
 | refine rTT ?_
 | refine rRFL ?_
 | refine rLEN (by assumption) ?_
 | (refine rIXk (by assumption) (by assumption) ?_; intro p hp)
 | (refine rIX (by assumption) (by omega) (by omega) ?_; intro p a ha hp)
 | refine rLDi (by assumption) ?_
 | (refine rLD (by assumption) ?_; intro c hc)
 | refine rADD (by omega) ?_
 | refine rSUB (by omega) ?_
 | refine rLSS ?_
 | refine rLEQ ?_
 | refine rGTR ?_
 | refine rGEQ ?_
 | refine rEQL ?_
 | refine rNEQ ?_
 | refine rNOT ?_
 | (refine rBRK ?_ ?_ <;> intro hb)
 | (refine rBRKn ?_ ?_ <;> intro hb)
 | (refine rBRKnb ?_ ?_ <;> intro hb)
 | (refine rBRKb ?_ ?_ <;> intro hb)
 | (refine rSPL ?_ ?_ <;> intro hb)
 | (refine rSPLn ?_ ?_ <;> intro hb)
 | (refine rSPLnb ?_ ?_ <;> intro hb)
 | (refine rSPLb ?_ ?_ <;> intro hb)
 | (exfalso; omega))
    · rw [decide_eq_true hb] at hq
      exact hq _ (by assumption)
    · rw [decide_eq_false hb] at hq
      exact ih (x + 1) (by omega) hq
theorem first_ok (G : Good n m) (Gb : Good n b) (hw : w = 1 ∨ w = -1) (hvg : IsTab vg (heightsF b)) (ho : OTab lo H k g rows ks (heightsF m)) : ACalls Try.prog 98 [.own k g 1 0 (n + 1), vg, I w] H fun r H' => IsInts r ((nearer n m b w).head?.getD []) ∧ H' = H := by
  have hl : (heightsF m).length = n + 1 := by rw [heights_len, G.len]
  have h6 := G.n6
  have h1 := G.n1
  have hO : IsOTab lo H (.own k g 1 0 (n + 1)) (heightsF m) := by rw [← hl]; exact ho.is rfl
  apply spec_heFirst.start
  unfold spec_heFirst.start_vc
  refine ACalls.mono (heFlips_gen (n := n + 1) (h := heightsF m) (fun K k => by have := own_len hO K; rw [hl] at this; exact this k) (fun i j H1 a1 a2 b1 b2 hs => ?_) hl (by omega) (by omega)) ?_
  · have ho1 := ho.hsub hs
    have hO1 : IsOTab lo H1 (.own k g 1 0 (n + 1)) (heightsF m) := by rw [← hl]; exact ho1.is rfl
    exact heWay_own hO1 hl (fun r hr => by rw [heights_sq hr, G.len]) a1 a2 b1 b2 (by omega)
  · rintro r H1 ⟨h3, rfl⟩
    have hf : heFlipsF (heightsF m) w = cellsF (fun i j => decide (heWayF (heightsF m) i j = w)) (n - 1) := by
      unfold heFlipsF; rw [hl]; rfl
    rw [hf] at h3
    have hlen : (cellsF (fun i j => decide (heWayF (heightsF m) i j = w)) (n - 1)).length ≤ 49 := by
      have h0 := cells_len (fun i j => decide (heWayF (heightsF m) i j = w)) (n - 1)
      have h1 : n - 1 ≤ 7 := by omega
      have h2 := Nat.mul_le_mul h1 h1
      omega
    refine rLEN h3 ?_
    refine first_loop G Gb hw hvg ho h3 (by omega) (fun c hc => ?_) _ 0 (by rw [Nat.zero_add]) (fun r hr => ⟨?_, rfl⟩)
    · obtain ⟨i, j, a1, a2, b1, b2, _, rfl⟩ := mem_cells hc
      exact ⟨i, j, rfl, by omega, by omega⟩
    · rw [List.drop_zero, cells_filter] at hr; exact hr
end
section
variable {n : Nat} {b : List (List Int)} {H0 : Heap} {k g : Nat} {rows : List AVal} {ks : List Nat} {vg : AVal} {T : List (List Int)}
theorem pathS_loop (Gb : Good n b) (hvg : IsTab vg (heightsF b)) {Q : AVal → Heap → Prop} (hq : ∀ v8 H ls, OutL H0.length (k :: ks) H v8 ls → Rel2 IsInts ls T → Grow H0 H → Q (.tup [v8, .bool true]) H) :
    ∀ (d : Nat) (m : List (List Int)) (H : Heap) (ls : List AVal) (P : List (List Int)) (v8 : AVal), Good n m → distM n m b = d → OTab H0.length H k g rows ks (heightsF m) → Grow H0 H →
      OutL H0.length (k :: ks) H v8 ls → Rel2 IsInts ls P → P ++ pathM n b d m = T → ls.length + d ≤ 1000 →
      spec_FlipPath.L5 Q (.own k g 1 0 (n + 1)) vg v8 H := by
  intro d
  induction d with
  | zero =>
    intro m H ls P v8 G hd ho hG hout hR he hlen
    have hmb := dist_zero G Gb hd
    subst hmb
    have hl : (heightsF m).length = n + 1 := by rw [heights_len, G.len]
    have h6 := G.n6
    have hO : IsOTab H0.length H (.own k g 1 0 (n + 1)) (heightsF m) := by rw [← hl]; exact ho.is rfl
    obtain ⟨v', q1, q2⟩ := hO.pur (Hf := H) fun _ _ => rfl
    apply spec_FlipPath.step5
    unfold spec_FlipPath.step5_vc
    refine ACalls.mono (lend_flat (k := 2) (args' := [v', vg]) (Q0 := fun r => r = .bool (decide (heightsF m = heightsF m))) ⟨v', _, rfl, q1, _, _, rfl, Pur.refl _ _ _, rfl⟩ (by rintro r rfl; rfl) fun H => heSame_ok q2 hvg (by omega) (fun x hx => by rw [heights_sq hx, G.len]; omega)) ?_
    rintro r H1 ⟨rfl, rfl⟩
    refine rNOT (rBRKn (fun h => absurd rfl h) (fun _ => ?_))
    rw [pathM, List.append_nil] at he
    subst he
    exact hq _ _ _ hout hR hG
  | succ d ih =>
    intro m H ls P v8 G hd ho hG hout hR he hlen
    have hl : (heightsF m).length = n + 1 := by rw [heights_len, G.len]
    have h6 := G.n6
    have h1n := G.n1
    have hne' : m ≠ b := fun e => by subst e; rw [dist_self] at hd; omega
    have hO : IsOTab H0.length H (.own k g 1 0 (n + 1)) (heightsF m) := by rw [← hl]; exact ho.is rfl
    obtain ⟨v', q1, q2⟩ := hO.pur (Hf := H) fun _ _ => rfl
    obtain ⟨i, j, l, hnext, i1, i2, j1, j2, hw, hd2, G2, hpath⟩ := path_step G Gb hd
    rw [hpath] at he
    obtain ⟨row, hrow⟩ := ex_get (l := heightsF m) (k := i) (by omega)
    have hrl : row.length = n + 1 := by rw [heights_sq (getElem_mem' hrow), G.len]
    obtain ⟨y, hy⟩ := ex_get (l := row) (k := j) (by omega)
    obtain ⟨kj, gj, g1, g2, g3, g4, g5⟩ := ho.get hrow
    have hkj : kj ∈ k :: ks := by simp [List.mem_of_getElem? g1]
    rw [hrl] at g2
    have hy' : (row.map I)[j]? = some (I y) := by rw [List.getElem?_map, hy]; rfl
    have ht := ho.top
    have hb2 := ht_bound G (i := i) (j := j) (by omega) (by omega)
    rw [getM_at hrow hy] at hb2
    have q0 : [(i : Int), (j : Int)][0]? = some (i : Int) := rfl
    have q1' : [(i : Int), (j : Int)][1]? = some (j : Int) := rfl
    have tail : ∀ (w : Int) (x8 : AVal), w = heWayF (heightsF m) i j → (w = 1 ∨ w = -1) → IsInts x8 [(i : Int), (j : Int)] →
        TT ∧ TT ∧ IXK 1 x8 (.int .i64 0) fun x10 => TT ∧ TT ∧ LDK false 1 H x10 fun x11 => TT ∧ IXK 1 (.own k g 1 0 (n + 1)) x11 fun x12 => TT ∧ TT ∧ LDK false 1 H x12 fun x13 => TT ∧ IXK 1 x8 (.int .i64 1) fun x14 => TT ∧ TT ∧ LDK false 1 H x14 fun x15 =>
        TT ∧ IXK 1 x13 x15 fun x16 => TT ∧ TT ∧ LDK false 1 H x16 fun x17 => BINK .mul (.int .i64 2) (I w) fun x18 => BINK .add x17 x18 fun x19 => TT ∧ IXK 1 x13 x15 fun x20 => TT ∧ STK 1 H x20 x19 fun H21 =>
        TT ∧ TT ∧ TT ∧ BSK 1 [x8] H21 fun x22 H23 => TT ∧ TT ∧ APK 1 H23 v8 x22 fun x24 H25 => spec_FlipPath.L5 Q (.own k g 1 0 (n + 1)) vg x24 H25 := by
      intro w x8 hwe hwc hx8
      repeat' (first
 | ((refine rIXk (i := 0) hx8 q0 ?_; intro p hp))
 | ((refine rIXk (i := 1) hx8 q1' ?_; intro p hp))
 | (refine rMUL (by omega) ?_)
 | with_reducible first
 | refine rTT ?_
 | refine rRFL ?_
 | refine rLEN (by assumption) ?_
 | refine rEXT0 ?_
 | refine rEXT1 ?_
 | refine rNEB ?_
 | refine rEQB ?_
 | refine rLDp (by assumption) ?_
 | refine rLDf (by assumption) (by assumption) ?_
 | refine rIXo (by omega) ?_
 | (refine rIXqi (by assumption) (by assumption) ?_; intro cs o hc)
 | (refine rIXq (by assumption) (by assumption) ?_; intro cs o c hc hr)
 | refine rLDq (by assumption) ?_
 | refine ⟨rTT (rTT (rLDq (by assumption) rfl)), ?_⟩
 | refine ⟨rTT (rTT (rLDp (by assumption) rfl)), ?_⟩
 | refine ⟨rTT (rTT (rLDf (by assumption) (by assumption) rfl)), ?_⟩
 | (refine rIXk (by assumption) (by assumption) ?_; intro p hp)
 | (refine rIX (by assumption) (by omega) (by omega) ?_; intro p a ha hp)
 | refine rLDi (by assumption) ?_
 | (refine rLD (by assumption) ?_; intro c hc)
 | refine rADD (by omega) ?_
 | refine rSUB (by omega) ?_
 | refine rLSS ?_
 | refine rLEQ ?_
 | refine rGTR ?_
 | refine rGEQ ?_
 | refine rEQL ?_
 | refine rNEQ ?_
 | refine rNOT ?_
 | (refine rBRK ?_ ?_ <;> intro hb)
 | (refine rBRKn ?_ ?_ <;> intro hb)
 | (refine rBRKnb ?_ ?_ <;> intro hb)
 | (refine rBRKb ?_ ?_ <;> intro hb)
 | (refine rSPL ?_ ?_ <;> intro hb)
 | (refine rSPLn ?_ ?_ <;> intro hb)
 | (refine rSPLnb ?_ ?_ <;> intro hb)
 | (refine rSPLb ?_ ?_ <;> intro hb)
 | (exfalso; omega))
      refine rSTp g3 (by simp; omega) rfl ?_
      have hset1 : ∀ w, (row.map I).set j (I w) = (row.set j w).map I := fun w => by rw [List.map_set]
      rw [hset1, hwe]
      have ho2 := ho.put hrow g1 g3 (r' := row.set j (y + 2 * heWayF (heightsF m) i j)) (by simp)
      rw [up_set G (by omega) (by omega) hrow hy, flip_ht G i1 i2 j1 j2 hw] at ho2
      have hG2 : Grow H0 (hset H kj gj ((row.set j (y + 2 * heWayF (heightsF m) i j)).map I)) := hG.set g4 _ _
      have hout2 : OutL H0.length (k :: ks) (hset H kj gj ((row.set j (y + 2 * heWayF (heightsF m) i j)).map I)) v8 ls := hout.frame fun i' g' cs' hi' hg' => by
        rw [hget_set_ne _ _ (fun e => hi' (by rw [← e]; exact hkj))]; exact hg'
      generalize hset H kj gj ((row.set j (y + 2 * heWayF (heightsF m) i j)).map I) = H2 at ho2 hG2 hout2 ⊢
      refine rTT (rTT (rTT (rLIT1 hx8.one ?_)))
      refine rTT (rTT ?_)
      refine hout2.snoc (by omega) hG2.len (fun i' hi' => ho2.lt _ hi') (fun v' H' o1 o2 o3 => ?_)
      refine ih (flipM m i j) H' (ls ++ [x8]) (P ++ [[(i : Int), (j : Int)]]) v' G2 hd2 ?_ ?_ o1 (hR.snoc hx8) ?_ (by simp; omega)
      · have hk : ∀ x ∈ k :: ks, hget H' x = hget H2 x := fun x hx => o3 x (.inl hx)
        exact ⟨by rw [hk k (by simp)]; exact ho2.top, ho2.lok, ho2.len, ho2.kln, ho2.nd, fun j' s kj' h1 h2 => by
          obtain ⟨gj', h3, h4, h5⟩ := ho2.row j' s kj' h1 h2
          exact ⟨gj', h3, by rw [hk kj' (by simp [List.mem_of_getElem? h2])]; exact h4, h5⟩⟩
      · exact ⟨Nat.le_trans hG2.len o2, fun i' hi' => (o3 i' (.inr hi')).trans (hG2.old i' hi')⟩
      · rw [List.append_assoc]; exact he
    apply spec_FlipPath.step5
    unfold spec_FlipPath.step5_vc
    refine ACalls.mono (lend_flat (k := 2) (args' := [v', vg]) (Q0 := fun r => r = .bool (decide (heightsF m = heightsF b))) ⟨v', _, rfl, q1, _, _, rfl, Pur.refl _ _ _, rfl⟩ (by rintro r rfl; rfl) fun H => heSame_ok q2 hvg (by omega) (fun x hx => by rw [heights_sq hx, G.len]; omega)) ?_
    rintro r H1 ⟨rfl, rfl⟩
    have hcmp : heightsF m ≠ heightsF b := fun h => hne' (ht_inj G Gb h)
    refine rNOT (rBRKn (fun _ => ?_) (fun h => absurd h hcmp))
    refine ACalls.mono (first_ok G Gb (.inl rfl) hvg ho) ?_
    rintro r4 H4 ⟨h4, rfl⟩
    rw [near_up] at h4
    refine rLEN h4 (rEQL (rBRK (fun hz => ?_) (fun hz => ?_)))
    · cases hu : ups n m b with
      | cons c0 l0 =>
        rw [hu, List.cons_append] at hnext
        obtain ⟨rfl, _⟩ := List.cons.inj hnext
        rw [hu] at hz; simp at hz
      | nil =>
        rw [hu, List.nil_append] at hnext
        refine ACalls.mono (first_ok G Gb (.inr rfl) hvg ho) ?_
        rintro r5 H5 ⟨h5, rfl⟩
        rw [near_dn, hnext] at h5
        have hm : [(i : Int), (j : Int)] ∈ dns n m b := by rw [hnext]; simp
        obtain ⟨i', j', a1, a2, b1, b2, hp, he'⟩ := mem_cells hm
        simp only [List.cons.injEq, and_true] at he'
        obtain ⟨e1, e2⟩ := he'
        have e1 : i = i' := by omega
        have e2 : j = j' := by omega
        subst e1; subst e2
        simp only [Bool.and_eq_true, decide_eq_true_eq] at hp
        exact tail (-1) r5 hp.1.symm (.inr rfl) h5
    · cases hu : ups n m b with
      | nil => rw [hu] at hz; simp at hz
      | cons c0 l0 =>
        rw [hu, List.cons_append] at hnext
        obtain ⟨rfl, _⟩ := List.cons.inj hnext
        rw [hu] at h4
        have hm : [(i : Int), (j : Int)] ∈ ups n m b := by rw [hu]; simp
        obtain ⟨i', j', a1, a2, b1, b2, hp, he'⟩ := mem_cells hm
        simp only [List.cons.injEq, and_true] at he'
        obtain ⟨e1, e2⟩ := he'
        have e1 : i = i' := by omega
        have e2 : j = j' := by omega
        subst e1; subst e2
        simp only [Bool.and_eq_true, decide_eq_true_eq] at hp
        exact tail 1 r4 hp.1.symm (.inl rfl) h4
end
theorem specFlipPath_ok {a b : List (List Int)} {v u : AVal} {H : Heap} (hv : IsTab v a) (hu : IsTab u b) (la : a.length ≤ 100000) (lb : b.length ≤ 100000) (ra : ∀ r ∈ a, r.length ≤ 1000000) (rb : ∀ r ∈ b, r.length ≤ 1000000) : ACalls Try.prog 43 [v, u] H fun r H' => TabOk (pairB a b) (pathF a b) r ∧ H' = H := by
  apply ACalls.pure
  apply spec_FlipPath.start
  unfold spec_FlipPath.start_vc
  refine ACalls.mono (hePair_ok hv hu la lb ra rb) ?_
  rintro r H1 ⟨rfl, rfl⟩
  refine rNOT (rBRKnb (fun hb => ?_) (fun hb => ?_))
  · rw [hb]; exact ⟨HSub.refl _, 1, _, Pur.refl _ _ _, tabOk_no, rfl⟩
  · have h := hb
    simp only [pairB, Bool.and_eq_true, decide_eq_true_eq] at h
    have G := goodB_iff.1 h.1
    have Gb := goodB_iff.1 h.2.1
    rw [← h.2.2] at Gb
    refine ACalls.mono (heOfo_ok hv la (goodB_sq h.1)) ?_
    rintro r2 H2 ⟨h2, hF⟩
    refine ACalls.mono (heOf_okF hu lb (goodB_sq h.2.1)) ?_
    rintro r3 H3 ⟨h3, rfl⟩
    have hlen := heights_len a
    rcases h2 with ⟨rfl, ht⟩ | ⟨k, g, rows, ks, rfl, ho⟩
    · rw [ht] at hlen; simp at hlen
    · rw [hlen]
      have hd0 : distM a.length a b = ((distM a.length a b).toNat : Int) := (Int.toNat_of_nonneg (dist_nonneg _ _ _)).symm
      have hbd := dist_bound G Gb
      rw [hb]
      refine pathS_loop (rows := rows) (H0 := H1) (T := pathF a b) Gb h3 (fun v8 H ls hout hR hG => ?_) (distM a.length a b).toNat a H3 [] [] _ G hd0 ho hF.grow (.inl ⟨rfl, .inr rfl⟩) Rel2.nil rfl (by simp; omega)
      obtain ⟨v8', p1, p2⟩ := hout.pur (fun i hi => nw_above H1 H hi) hR
      exact ⟨hG.sub, 2, _, pur_pair p1 true, ⟨_, rfl, p2⟩, rfl⟩
/-- The path, still owned. -/
theorem specFlipPathO_ok {a b : List (List Int)} {v u : AVal} {H : Heap} (hv : IsTab v a) (hu : IsTab u b) (la : a.length ≤ 100000) (lb : b.length ≤ 100000) (ra : ∀ r ∈ a, r.length ≤ 1000000) (rb : ∀ r ∈ b, r.length ≤ 1000000) : ACalls Try.prog 43 [v, u] H fun r H' => ∃ v8 ls bb T, r = .tup [v8, .bool bb] ∧ OutL H.length [] H' v8 ls ∧ Rel2 IsInts ls T ∧ T.length ≤ 200 ∧ (∀ c ∈ T, c.length ≤ 2) ∧ Grow H H' := by
  apply spec_FlipPath.start
  unfold spec_FlipPath.start_vc
  refine ACalls.mono (hePair_ok hv hu la lb ra rb) ?_
  rintro r H1 ⟨rfl, rfl⟩
  refine rNOT (rBRKnb (fun hb => ?_) (fun hb => ?_))
  · exact ⟨_, [], _, [], rfl, .inl ⟨rfl, .inr rfl⟩, Rel2.nil, by simp, by simp, Grow.refl _⟩
  · have h := hb
    simp only [pairB, Bool.and_eq_true, decide_eq_true_eq] at h
    have G := goodB_iff.1 h.1
    have Gb := goodB_iff.1 h.2.1
    rw [← h.2.2] at Gb
    refine ACalls.mono (heOfo_ok hv la (goodB_sq h.1)) ?_
    rintro r2 H2 ⟨h2, hF⟩
    refine ACalls.mono (heOf_okF hu lb (goodB_sq h.2.1)) ?_
    rintro r3 H3 ⟨h3, rfl⟩
    have hlen := heights_len a
    rcases h2 with ⟨rfl, ht⟩ | ⟨k, g, rows, ks, rfl, ho⟩
    · rw [ht] at hlen; simp at hlen
    · rw [hlen]
      have hd0 : distM a.length a b = ((distM a.length a b).toNat : Int) := (Int.toNat_of_nonneg (dist_nonneg _ _ _)).symm
      have hbd := dist_bound G Gb
      refine pathS_loop (rows := rows) (H0 := H1) (T := pathF a b) Gb h3 (fun v8 H ls hout hR hG => ?_) (distM a.length a b).toNat a H3 [] [] _ G hd0 ho hF.grow (.inl ⟨rfl, .inr rfl⟩) Rel2.nil rfl (by simp; omega)
      refine ⟨v8, ls, true, pathF a b, rfl, ?_, hR, ?_, ?_, hG⟩
      · rcases hout with h | ⟨ko, go, h1, h2, h3, h4⟩
        · exact .inl h
        · exact .inr ⟨ko, go, h1, h2, by simp, h4⟩
      · unfold pathF; rw [path_len Gb _ _ G hd0]; omega
      · intro c hc
        have := path_cells Gb _ _ G hd0 c hc
        obtain ⟨i, j, rfl, _⟩ := isCell_iff this
        simp

end Go.Proofs.Ytccioplhchmilaa.AL

set_option linter.unusedVariables false
set_option maxRecDepth 100000
namespace Go.Proofs.Ytccioplhchmilaa.AL
open Go Go.Proofs

/-! spec.DrawFlipAt (slots: 0 code, 1 code, 5 c, 6 m) -/
namespace spec_DrawFlipAt
def lv : List (Nat × List Nat) := []
def start_vc (Q : AVal → Heap → Prop) (a0 : AVal) (H : Heap) : Prop :=
 TT ∧ BLDK [AVal.nilS, (AVal.int .i64 0), (AVal.int .u64 0)] [((0, 1), a0)] fun x1 =>
 BOXK x1 H fun x2 H3 =>
 ACalls Try.prog 49 [x2, (AVal.int .i64 5)] H3 fun x4 H5 =>
 LENK x4 fun x6 =>
 ACalls Try.prog 69 [(AVal.int .i64 1), x6] H5 fun x7 H8 =>
 ACalls Try.prog 68 [x2, x7] H8 fun x9 H10 =>
 ACalls Try.prog 68 [x2, (AVal.int .i64 2)] H10 fun x11 H12 =>
 BINK .add x9 x11 fun x13 =>
 LENK x4 fun x14 =>
 ACalls Try.prog 69 [(AVal.int .i64 1), x14] H12 fun x15 H16 =>
 ACalls Try.prog 68 [x2, x15] H16 fun x17 H18 =>
 ACalls Try.prog 68 [x2, (AVal.int .i64 2)] H18 fun x19 H20 =>
 BINK .add x17 x19 fun x21 =>
 Q (AVal.tup [x4, x13, x21]) H20
theorem start_eq (Q : AVal → Heap → Prop) (a0 : AVal) (H : Heap) : vs Try.prog lv 35 29 Try.f35.results.toList Q true 1000 [.sq (bodyOf Try.f35)] (entry [a0]) H = start_vc Q a0 H := by kernel_rfl
theorem start {Q : AVal → Heap → Prop} {a0 : AVal} {H : Heap} (h : start_vc Q a0 H) : ACalls Try.prog 35 [a0] H Q := acalls_vs (lv := lv) mixed Try.func35 rfl (by kernel_rfl) (by kernel_rfl) (start_eq Q a0 H ▸ h)
end spec_DrawFlipAt

/-! spec.DrawFlipPath (slots: 0 code, 1 code) -/
namespace spec_DrawFlipPath
def lv : List (Nat × List Nat) := []
def start_vc (Q : AVal → Heap → Prop) (a0 : AVal) (H : Heap) : Prop :=
 ACalls Try.prog 29 [a0] H fun x1 H2 =>
 EXTK x1 0 fun x3 =>
 EXTK x1 1 fun x4 =>
 Q (AVal.tup [x3, x4]) H2
theorem start_eq (Q : AVal → Heap → Prop) (a0 : AVal) (H : Heap) : vs Try.prog lv 41 8 Try.f41.results.toList Q true 1000 [.sq (bodyOf Try.f41)] (entry [a0]) H = start_vc Q a0 H := by kernel_rfl
theorem start {Q : AVal → Heap → Prop} {a0 : AVal} {H : Heap} (h : start_vc Q a0 H) : ACalls Try.prog 41 [a0] H Q := acalls_vs (lv := lv) mixed Try.func41 rfl (by kernel_rfl) (by kernel_rfl) (start_eq Q a0 H ▸ h)
end spec_DrawFlipPath

/-! spec.DrawFlipsOf (slots: 0 code, 1 code, 4 c) -/
namespace spec_DrawFlipsOf
def lv : List (Nat × List Nat) := []
def start_vc (Q : AVal → Heap → Prop) (a0 : AVal) (H : Heap) : Prop :=
 TT ∧ BLDK [AVal.nilS, (AVal.int .i64 0), (AVal.int .u64 0)] [((0, 1), a0)] fun x1 =>
 BOXK x1 H fun x2 H3 =>
 ACalls Try.prog 49 [x2, (AVal.int .i64 5)] H3 fun x4 H5 =>
 ACalls Try.prog 70 [x2, (AVal.int .i64 2)] H5 fun x6 H7 =>
 Q (AVal.tup [x4, x6]) H7
theorem start_eq (Q : AVal → Heap → Prop) (a0 : AVal) (H : Heap) : vs Try.prog lv 47 12 Try.f47.results.toList Q true 1000 [.sq (bodyOf Try.f47)] (entry [a0]) H = start_vc Q a0 H := by kernel_rfl
theorem start {Q : AVal → Heap → Prop} {a0 : AVal} {H : Heap} (h : start_vc Q a0 H) : ACalls Try.prog 47 [a0] H Q := acalls_vs (lv := lv) mixed Try.func47 rfl (by kernel_rfl) (by kernel_rfl) (start_eq Q a0 H ▸ h)
end spec_DrawFlipsOf

/-! spec.DrawFollowFlips (slots: 0 code, 1 code, 4 c, 5 m, 6 k, 7 path, 8 ok) -/
namespace spec_DrawFollowFlips
def lv : List (Nat × List Nat) := [(9, [5, 7])]
noncomputable def K9 : List KF := [.lp (cB (cB (cX (cR (cL (cR (cR (cR (cR (cR (cR (bodyOf Try.f45)))))))))))), .bl 0, .sq (cR (cR (cR (cR (cR (cR (cR (bodyOf Try.f45))))))))]
def L9 (Q : AVal → Heap → Prop) (v5 v7 : AVal) (H : Heap) : Prop := At Try.prog 45 55 K9 Q (slotsOf [(5, v5), (7, v7)]) H
theorem L9_frz {Q : AVal → Heap → Prop} {v5 v7 w5 w7 : AVal} {H Hf Hk : Heap} {k : Nat} (hs : Split H Hf Hk) (hp : PurL Hf k [(5, v5, w5), (7, v7, w7)]) (h : L9 Q w5 w7 Hk) : L9 Q v5 v7 H := at_frz (ks := K9) hs hp h
def start_vc (Q : AVal → Heap → Prop) (a0 : AVal) (H : Heap) : Prop :=
 TT ∧ BLDK [AVal.nilS, (AVal.int .i64 0), (AVal.int .u64 0)] [((0, 1), a0)] fun x1 =>
 BOXK x1 H fun x2 H3 =>
 ACalls Try.prog 85 [x2, (AVal.int .i64 5)] H3 fun x4 H5 =>
 EXTK x4 0 fun x6 =>
 EXTK x4 1 fun x7 =>
 ACalls Try.prog 43 [x6, x7] H5 fun x8 H9 =>
 EXTK x8 0 fun x10 =>
 EXTK x8 1 fun x11 =>
 NOTK x11 fun x12 =>
 SPL x12 (TT ∧ TT ∧ TT ∧ BSK 1 [(AVal.int .i64 1), (AVal.int .i64 1)] H9 fun x13 H14 =>
 TT ∧ TT ∧ TT ∧ BSK 1 [(AVal.int .i64 1), (AVal.int .i64 1)] H14 fun x15 H16 =>
 ACalls Try.prog 68 [x2, (AVal.int .i64 4)] H16 fun x17 H18 =>
 TT ∧ TT ∧ TT ∧ BSK 1 [x17, (AVal.int .i64 1)] H18 fun x19 H20 =>
 TT ∧ TT ∧ TT ∧ BSK 1 [x13, x15, x19] H20 fun x21 H22 =>
 ACalls Try.prog 70 [x2, (AVal.int .i64 12)] H22 fun x23 H24 =>
 BRK x23 (TT ∧ TT ∧ TT ∧ BSK 1 [(AVal.int .i64 0), (AVal.int .i64 1), (AVal.int .i64 (-1))] H24 fun x25 H26 =>
 ACalls Try.prog 50 [x2, x25] H26 fun x27 H28 =>
 TT ∧ TT ∧ TT ∧ BSK 1 [x27, (AVal.int .i64 1)] H28 fun x29 H30 =>
 TT ∧ TT ∧ TT ∧ BSK 1 [x29] H30 fun x31 H32 =>
 TT ∧ TT ∧ APK 1 H32 x21 x31 fun x33 H34 =>
 ACalls Try.prog 70 [x2, (AVal.int .i64 20)] H34 fun x35 H36 =>
 BRK x35 (spec_DrawFollowFlips.L9 Q x6 x33 H36) (Q (AVal.tup [x6, x33]) H36)) (ACalls Try.prog 70 [x2, (AVal.int .i64 20)] H24 fun x37 H38 =>
 BRK x37 (spec_DrawFollowFlips.L9 Q x6 x21 H38) (Q (AVal.tup [x6, x21]) H38))) (ACalls Try.prog 70 [x2, (AVal.int .i64 4)] H9 fun x39 H40 =>
 BRK x39 (TT ∧ TT ∧ TT ∧ BSK 1 [(AVal.int .i64 1), (AVal.int .i64 1)] H40 fun x41 H42 =>
 TT ∧ TT ∧ TT ∧ BSK 1 [(AVal.int .i64 1), (AVal.int .i64 1)] H42 fun x43 H44 =>
 ACalls Try.prog 68 [x2, (AVal.int .i64 4)] H44 fun x45 H46 =>
 TT ∧ TT ∧ TT ∧ BSK 1 [x45, (AVal.int .i64 1)] H46 fun x47 H48 =>
 TT ∧ TT ∧ TT ∧ BSK 1 [x41, x43, x47] H48 fun x49 H50 =>
 ACalls Try.prog 70 [x2, (AVal.int .i64 12)] H50 fun x51 H52 =>
 BRK x51 (TT ∧ TT ∧ TT ∧ BSK 1 [(AVal.int .i64 0), (AVal.int .i64 1), (AVal.int .i64 (-1))] H52 fun x53 H54 =>
 ACalls Try.prog 50 [x2, x53] H54 fun x55 H56 =>
 TT ∧ TT ∧ TT ∧ BSK 1 [x55, (AVal.int .i64 1)] H56 fun x57 H58 =>
 TT ∧ TT ∧ TT ∧ BSK 1 [x57] H58 fun x59 H60 =>
 TT ∧ TT ∧ APK 1 H60 x49 x59 fun x61 H62 =>
 ACalls Try.prog 70 [x2, (AVal.int .i64 20)] H62 fun x63 H64 =>
 BRK x63 (spec_DrawFollowFlips.L9 Q x6 x61 H64) (Q (AVal.tup [x6, x61]) H64)) (ACalls Try.prog 70 [x2, (AVal.int .i64 20)] H52 fun x65 H66 =>
 BRK x65 (spec_DrawFollowFlips.L9 Q x6 x49 H66) (Q (AVal.tup [x6, x49]) H66))) (ACalls Try.prog 70 [x2, (AVal.int .i64 12)] H40 fun x67 H68 =>
 BRK x67 (TT ∧ TT ∧ TT ∧ BSK 1 [(AVal.int .i64 0), (AVal.int .i64 1), (AVal.int .i64 (-1))] H68 fun x69 H70 =>
 ACalls Try.prog 50 [x2, x69] H70 fun x71 H72 =>
 TT ∧ TT ∧ TT ∧ BSK 1 [x71, (AVal.int .i64 1)] H72 fun x73 H74 =>
 TT ∧ TT ∧ TT ∧ BSK 1 [x73] H74 fun x75 H76 =>
 TT ∧ TT ∧ APK 1 H76 x10 x75 fun x77 H78 =>
 ACalls Try.prog 70 [x2, (AVal.int .i64 20)] H78 fun x79 H80 =>
 BRK x79 (spec_DrawFollowFlips.L9 Q x6 x77 H80) (Q (AVal.tup [x6, x77]) H80)) (ACalls Try.prog 70 [x2, (AVal.int .i64 20)] H68 fun x81 H82 =>
 BRK x81 (spec_DrawFollowFlips.L9 Q x6 x10 H82) (Q (AVal.tup [x6, x10]) H82))))
theorem start_eq (Q : AVal → Heap → Prop) (a0 : AVal) (H : Heap) : vs Try.prog lv 45 55 Try.f45.results.toList Q true 1000 [.sq (bodyOf Try.f45)] (entry [a0]) H = start_vc Q a0 H := by kernel_rfl
theorem start {Q : AVal → Heap → Prop} {a0 : AVal} {H : Heap} (h : start_vc Q a0 H) : ACalls Try.prog 45 [a0] H Q := acalls_vs (lv := lv) mixed Try.func45 rfl (by kernel_rfl) (by kernel_rfl) (start_eq Q a0 H ▸ h)
def step9_vc (Q : AVal → Heap → Prop) (v5 v7 : AVal) (H : Heap) : Prop :=
 LENK v7 fun x1 =>
 BINK .lss x1 (AVal.int .i64 201) fun x2 =>
 BRK x2 (TT ∧ TT ∧ TT ∧ BSK 1 [(AVal.int .i64 1), (AVal.int .i64 1)] H fun x3 H4 =>
 TT ∧ TT ∧ TT ∧ BSK 1 [x3] H4 fun x5 H6 =>
 TT ∧ TT ∧ APK 1 H6 v7 x5 fun x7 H8 =>
 spec_DrawFollowFlips.L9 Q v5 x7 H8) (Q (AVal.tup [v5, v7]) H)
theorem step9_eq (Q : AVal → Heap → Prop) (v5 v7 : AVal) (H : Heap) : vs Try.prog lv 45 55 Try.f45.results.toList Q true 1000 (.sq (cB (cB (cX (cR (cL (cR (cR (cR (cR (cR (cR (bodyOf Try.f45)))))))))))) :: K9) (slotsOf [(5, v5), (7, v7)]) H = step9_vc Q v5 v7 H := by kernel_rfl
theorem step9 {Q : AVal → Heap → Prop} {v5 v7 : AVal} {H : Heap} (h : step9_vc Q v5 v7 H) : L9 Q v5 v7 H := at_lp_vs (lv := lv) (ks := K9.tail) mixed Try.func45 (step9_eq Q v5 v7 H ▸ h)
end spec_DrawFollowFlips


section
variable {code : List Int} {v : AVal} {H : Heap}
/-- The cursor at the start of a draw. -/
theorem cur_start (hv : IsSl IsB v code) (hl : code.length ≤ 1099511627776) (g : Nat) : Cur 0 (hnew H g [v, I 0, .int .u64 0]) H.length g := ⟨v, code, 0, 0, hget_new _ _ _, hv, hl, by omega, by omega⟩
theorem hset_drop {H : Heap} {g : Nat} {cs ds : List AVal} : HSub H (hset (hnew H g cs) H.length g ds) := by rw [hset_new]; exact hsub_new _ _ _
theorem drawFlipAt_ok (hv : IsSl IsB v code) (hl : code.length ≤ 1099511627776) : ACalls Try.prog 35 [v] H fun r H' => (∃ m vm i j, r = .tup [vm, I i, I j] ∧ IsTab vm m ∧ Small m) ∧ H' = H := by
  apply ACalls.sub
  apply spec_DrawFlipAt.start
  unfold spec_DrawFlipAt.start_vc
  refine rTT ?_
  refine cells_one hv.one ⟨rfl, by decide, ?_⟩
  refine rBOXc fun g => ?_
  refine ACalls.mono (signsV_ok (cur_start hv hl g) (by omega) (by omega) (by omega)) ?_
  rintro r1 H1 ⟨m, cs1, hm, hml, hmr, hH1, hc1⟩
  refine rLEN hm ?_
  refine ACalls.mono l1Most_ok ?_
  rintro r2 H2 ⟨rfl, rfl⟩
  refine ACalls.mono (pick_ok hc1 (by omega) (by omega)) ?_
  rintro r3 H3 ⟨x, cs3, rfl, hx0, hx1, hH3, hc3⟩
  refine ACalls.mono (pick_ok hc3 (by omega) (by omega)) ?_
  rintro r4 H4 ⟨y, cs4, rfl, hy0, hy1, hH4, hc4⟩
  repeat' (with_reducible first
 | refine rTT ?_
 | refine rRFL ?_
 | refine rLEN (by assumption) ?_
 | (refine rIXk (by assumption) (by assumption) ?_; intro p hp)
 | (refine rIX (by assumption) (by omega) (by omega) ?_; intro p a ha hp)
 | refine rLDi (by assumption) ?_
 | (refine rLD (by assumption) ?_; intro c hc)
 | refine rADD (by omega) ?_
 | refine rSUB (by omega) ?_
 | refine rLSS ?_
 | refine rLEQ ?_
 | refine rGTR ?_
 | refine rGEQ ?_
 | refine rEQL ?_
 | refine rNEQ ?_
 | refine rNOT ?_
 | (refine rBRK ?_ ?_ <;> intro hb)
 | (refine rBRKn ?_ ?_ <;> intro hb)
 | (refine rBRKnb ?_ ?_ <;> intro hb)
 | (refine rBRKb ?_ ?_ <;> intro hb)
 | (refine rSPL ?_ ?_ <;> intro hb)
 | (refine rSPLn ?_ ?_ <;> intro hb)
 | (refine rSPLnb ?_ ?_ <;> intro hb)
 | (refine rSPLb ?_ ?_ <;> intro hb)
 | (exfalso; omega))
  refine ACalls.mono l1Most_ok ?_
  rintro r5 H5 ⟨rfl, rfl⟩
  refine ACalls.mono (pick_ok hc4 (by omega) (by omega)) ?_
  rintro r6 H6 ⟨z, cs6, rfl, hz0, hz1, hH6, hc6⟩
  refine ACalls.mono (pick_ok hc6 (by omega) (by omega)) ?_
  rintro r7 H7 ⟨w, cs7, rfl, hw0, hw1, hH7, hc7⟩
  repeat' (with_reducible first
 | refine rTT ?_
 | refine rRFL ?_
 | refine rLEN (by assumption) ?_
 | (refine rIXk (by assumption) (by assumption) ?_; intro p hp)
 | (refine rIX (by assumption) (by omega) (by omega) ?_; intro p a ha hp)
 | refine rLDi (by assumption) ?_
 | (refine rLD (by assumption) ?_; intro c hc)
 | refine rADD (by omega) ?_
 | refine rSUB (by omega) ?_
 | refine rLSS ?_
 | refine rLEQ ?_
 | refine rGTR ?_
 | refine rGEQ ?_
 | refine rEQL ?_
 | refine rNEQ ?_
 | refine rNOT ?_
 | (refine rBRK ?_ ?_ <;> intro hb)
 | (refine rBRKn ?_ ?_ <;> intro hb)
 | (refine rBRKnb ?_ ?_ <;> intro hb)
 | (refine rBRKb ?_ ?_ <;> intro hb)
 | (refine rSPL ?_ ?_ <;> intro hb)
 | (refine rSPLn ?_ ?_ <;> intro hb)
 | (refine rSPLnb ?_ ?_ <;> intro hb)
 | (refine rSPLb ?_ ?_ <;> intro hb)
 | (exfalso; omega))
  refine ⟨H, ?_, ⟨m, r1, _, _, rfl, hm, hml, hmr⟩, rfl⟩
  rw [hH7, hH6, hH4, hH3, hH1, hset_set, hset_set, hset_set, hset_set]; exact hset_drop
theorem drawFlipsOf_ok (hv : IsSl IsB v code) (hl : code.length ≤ 1099511627776) : ACalls Try.prog 47 [v] H fun r H' => (∃ m vm b, r = .tup [vm, .bool b] ∧ IsTab vm m ∧ Small m) ∧ H' = H := by
  apply ACalls.sub
  apply spec_DrawFlipsOf.start
  unfold spec_DrawFlipsOf.start_vc
  refine rTT ?_
  refine cells_one hv.one ⟨rfl, by decide, ?_⟩
  refine rBOXc fun g => ?_
  refine ACalls.mono (signsV_ok (cur_start hv hl g) (by omega) (by omega) (by omega)) ?_
  rintro r1 H1 ⟨m, cs1, hm, hml, hmr, hH1, hc1⟩
  refine ACalls.mono (one_ok hc1 (by omega) (by omega)) ?_
  rintro r3 H3 ⟨x, cs3, rfl, hH3, hc3⟩
  refine ⟨H, ?_, ⟨m, r1, _, rfl, hm, hml, hmr⟩, rfl⟩
  rw [hH3, hH1, hset_set]; exact hset_drop
theorem drawFlipPath_ok (hv : IsSl IsB v code) (hl : code.length ≤ 1099511627776) : ACalls Try.prog 41 [v] H fun r H' => TabR2 r ∧ H' = H := by
  apply spec_DrawFlipPath.start
  unfold spec_DrawFlipPath.start_vc
  refine ACalls.mono (drawIsBelow_ok hv hl) ?_
  rintro r H1 ⟨⟨a, b, va, vb, rfl, h1, h2, h3, h4⟩, rfl⟩
  exact rEXT0 (rEXT1 ⟨⟨a, b, va, vb, rfl, h1, h2, h3, h4⟩, rfl⟩)
end

/-- A literal that is owned. -/
theorem rLITo {vs : List AVal} {H : Heap} {K : AVal → Heap → Prop} (h : allCells 1 vs fun cs => ∀ g, K (.own H.length g 1 0 vs.length) (hnew H g cs)) : BSK 1 vs H K := by
  have mono : ∀ {vs : List AVal} {K K' : List AVal → Prop}, (∀ cs, K cs → K' cs) → allCells 1 vs K → allCells 1 vs K' := by
    intro vs
    induction vs with
    | nil => intro K K' h k; exact h _ k
    | cons v vs ih =>
      intro K K' h k
      have c : ∀ {v : AVal} {K K' : List AVal → Prop}, (∀ cs, K cs → K' cs) → cellsOfV v K → cellsOfV v K' := by
        intro v K K' h k
        cases v <;> first | exact h _ k | exact ⟨k.1, h _ k.2⟩
      exact c (fun cs k => ⟨k.1, ih (fun ds k => h _ k) k.2⟩) k
  exact mono (fun cs k => .inl k) h
/-- A drawn table and drawn cells. -/
def TabCells (r : AVal) : Prop := ∃ a b va vb, r = .tup [va, vb] ∧ IsTab va a ∧ IsTab vb b ∧ Small a ∧ b.length ≤ 1000 ∧ ∀ c ∈ b, c.length ≤ 1000
def QFD (H0 : Heap) : AVal → Heap → Prop := fun r H' => HSub H0 H' ∧ ∃ k r', Pur (nw H0 H') k r r' ∧ (TabCells r' ∧ H0 = H0)
section
variable {H0 : Heap} {ic gc : Nat} {m : List (List Int)} {vm : AVal}
theorem qfd_mk (hvm : IsTab vm m) (hm : Small m) {H : Heap} {v7 : AVal} {ls : List AVal} {T : List (List Int)} (hG : Grow H0 H) (ho : OutL H0.length [ic] H v7 ls) (hR : Rel2 IsInts ls T) (hl : ls.length ≤ 1000) (hT : ∀ c ∈ T, c.length ≤ 1000) : QFD H0 (.tup [vm, v7]) H := by
  obtain ⟨v', p1, p2⟩ := ho.pur (fun i hi => nw_above H0 H hi) hR
  refine ⟨hG.sub, 2, .tup [vm, v'], .inr ⟨_, rfl, vm, _, rfl, Pur.refl _ _ _, v', _, rfl, p1, rfl⟩, ⟨m, T, vm, v', rfl, hvm, p2, hm, by rw [← hR.1]; exact hl, hT⟩, rfl⟩
theorem outl_len {lo : Nat} {av : List Nat} {H : Heap} {v : AVal} {ls : List AVal} (h : OutL lo av H v ls) : ∀ K : AVal → Prop, K (I ls.length) → LENK v K := by
  intro K hK
  rcases h with ⟨rfl, rfl | rfl⟩ | ⟨ko, go, rfl, _⟩ <;> exact hK
theorem fd_loop (hvm : IsTab vm m) (hm : Small m) : ∀ (d : Nat) (H : Heap) (v7 : AVal) (ls : List AVal) (T : List (List Int)), ls.length + d = 300 → ic < H.length → Grow H0 H → OutL H0.length [ic] H v7 ls → Rel2 IsInts ls T → (∀ c ∈ T, c.length ≤ 1000) →
    spec_DrawFollowFlips.L9 (QFD H0) vm v7 H := by
  intro d
  induction d with
  | zero =>
    intro H v7 ls T hd hi hG ho hR hT
    apply spec_DrawFollowFlips.step9
    unfold spec_DrawFollowFlips.step9_vc
    refine outl_len ho _ ?_
    repeat' (with_reducible first
 | refine rTT ?_
 | refine rRFL ?_
 | refine rLEN (by assumption) ?_
 | (refine rIXk (by assumption) (by assumption) ?_; intro p hp)
 | (refine rIX (by assumption) (by omega) (by omega) ?_; intro p a ha hp)
 | refine rLDi (by assumption) ?_
 | (refine rLD (by assumption) ?_; intro c hc)
 | refine rADD (by omega) ?_
 | refine rSUB (by omega) ?_
 | refine rLSS ?_
 | refine rLEQ ?_
 | refine rGTR ?_
 | refine rGEQ ?_
 | refine rEQL ?_
 | refine rNEQ ?_
 | refine rNOT ?_
 | (refine rBRK ?_ ?_ <;> intro hb)
 | (refine rBRKn ?_ ?_ <;> intro hb)
 | (refine rBRKnb ?_ ?_ <;> intro hb)
 | (refine rBRKb ?_ ?_ <;> intro hb)
 | (refine rSPL ?_ ?_ <;> intro hb)
 | (refine rSPLn ?_ ?_ <;> intro hb)
 | (refine rSPLnb ?_ ?_ <;> intro hb)
 | (refine rSPLb ?_ ?_ <;> intro hb)
 | (exfalso; omega))
    exact qfd_mk hvm hm hG ho hR (by omega) hT
  | succ d ih =>
    intro H v7 ls T hd hi hG ho hR hT
    apply spec_DrawFollowFlips.step9
    unfold spec_DrawFollowFlips.step9_vc
    refine outl_len ho _ ?_
    repeat' (with_reducible first
 | refine rTT ?_
 | refine rRFL ?_
 | refine rLEN (by assumption) ?_
 | (refine rIXk (by assumption) (by assumption) ?_; intro p hp)
 | (refine rIX (by assumption) (by omega) (by omega) ?_; intro p a ha hp)
 | refine rLDi (by assumption) ?_
 | (refine rLD (by assumption) ?_; intro c hc)
 | refine rADD (by omega) ?_
 | refine rSUB (by omega) ?_
 | refine rLSS ?_
 | refine rLEQ ?_
 | refine rGTR ?_
 | refine rGEQ ?_
 | refine rEQL ?_
 | refine rNEQ ?_
 | refine rNOT ?_
 | (refine rBRK ?_ ?_ <;> intro hb)
 | (refine rBRKn ?_ ?_ <;> intro hb)
 | (refine rBRKnb ?_ ?_ <;> intro hb)
 | (refine rBRKb ?_ ?_ <;> intro hb)
 | (refine rSPL ?_ ?_ <;> intro hb)
 | (refine rSPLn ?_ ?_ <;> intro hb)
 | (refine rSPLnb ?_ ?_ <;> intro hb)
 | (refine rSPLb ?_ ?_ <;> intro hb)
 | (exfalso; omega))
    · refine rLITn (rLITc rfl (rLITc rfl (rLITe ?_)))
      refine rTT (rTT (rTT (rLITn (rLITc rfl (rLITe ?_)))))
      refine rTT (rTT ?_)
      refine ho.snoc (by omega) hG.len (fun i' hi' => by simp at hi'; subst hi'; exact hi) (fun v' H' o1 o2 o3 => ?_)
      refine ih H' v' _ (T ++ [[1, 1]]) (by simp; omega) (by omega) ⟨Nat.le_trans hG.len o2, fun i hi => (o3 i (.inr hi)).trans (hG.old i hi)⟩ o1 (hR.snoc (isInts_pair 1 1)) ?_
      intro c hc
      rcases List.mem_append.1 hc with hc | hc
      · exact hT c hc
      · simp at hc; subst hc; simp
    · exact qfd_mk hvm hm hG ho hR (by omega) hT
theorem Grow.cur {H : Heap} (hG : Grow H0 H) (hic : H0.length ≤ ic) (g : Nat) (cs : List AVal) : Grow H0 (hset H ic g cs) := hG.set hic g cs
theorem OutL.cur {H : Heap} {v7 : AVal} {ls : List AVal} (ho : OutL H0.length [ic] H v7 ls) (g : Nat) (cs : List AVal) : OutL H0.length [ic] (hset H ic g cs) v7 ls :=
  ho.frame fun i g' cs' hi hg => by rw [hget_set_ne _ _ (fun e => hi (by simp [e]))]; exact hg
theorem fd_tail2 {A : Int} (hA : A ≤ 1000000) (hvm : IsTab vm m) (hm : Small m) (hic : H0.length ≤ ic) {H : Heap} (hc : Cur A H ic gc) {v7 : AVal} {ls : List AVal} {T : List (List Int)} (hl : ls.length ≤ 300) (hG : Grow H0 H) (ho : OutL H0.length [ic] H v7 ls) (hR : Rel2 IsInts ls T) (hT : ∀ c ∈ T, c.length ≤ 1000) :
    ACalls Try.prog 70 [.ptr ic gc 0, I 20] H fun x35 H36 => BRK x35 (spec_DrawFollowFlips.L9 (QFD H0) vm v7 H36) (QFD H0 (.tup [vm, v7]) H36) := by
  refine ACalls.mono (one_ok hc (by omega) (by omega)) ?_
  rintro r H2 ⟨b, cs, rfl, rfl, hc2⟩
  have hlt := hc2.lt
  have hG2 := hG.cur hic gc cs
  have ho2 := ho.cur gc cs
  refine rBRKb (fun _ => ?_) (fun _ => ?_)
  · exact fd_loop hvm hm (300 - ls.length) _ v7 ls T (by omega) hlt hG2 ho2 hR hT
  · exact qfd_mk hvm hm hG2 ho2 hR (by omega) hT
theorem fd_tail1 {A : Int} (hA : A ≤ 100000) (hvm : IsTab vm m) (hm : Small m) (hic : H0.length ≤ ic) {H : Heap} (hc : Cur A H ic gc) {v7 : AVal} {ls : List AVal} {T : List (List Int)} (hl : ls.length ≤ 250) (hG : Grow H0 H) (ho : OutL H0.length [ic] H v7 ls) (hR : Rel2 IsInts ls T) (hT : ∀ c ∈ T, c.length ≤ 1000) :
    ACalls Try.prog 70 [.ptr ic gc 0, I 12] H fun x51 H52 => BRK x51 (TT ∧ TT ∧ TT ∧ BSK 1 [I 0, I 1, I (-1)] H52 fun x53 H54 =>
      ACalls Try.prog 50 [.ptr ic gc 0, x53] H54 fun x55 H56 => TT ∧ TT ∧ TT ∧ BSK 1 [x55, I 1] H56 fun x57 H58 => TT ∧ TT ∧ TT ∧ BSK 1 [x57] H58 fun x59 H60 => TT ∧ TT ∧ APK 1 H60 v7 x59 fun x61 H62 =>
      ACalls Try.prog 70 [.ptr ic gc 0, I 20] H62 fun x63 H64 => BRK x63 (spec_DrawFollowFlips.L9 (QFD H0) vm x61 H64) (QFD H0 (.tup [vm, x61]) H64))
      (ACalls Try.prog 70 [.ptr ic gc 0, I 20] H52 fun x65 H66 => BRK x65 (spec_DrawFollowFlips.L9 (QFD H0) vm v7 H66) (QFD H0 (.tup [vm, v7]) H66)) := by
  refine ACalls.mono (one_ok hc (by omega) (by omega)) ?_
  rintro r H2 ⟨b, cs, rfl, rfl, hc2⟩
  have hG2 := hG.cur hic gc cs
  have ho2 := ho.cur gc cs
  refine rBRKb (fun _ => ?_) (fun _ => ?_)
  · refine rTT (rTT (rTT (rLITn (rLITc rfl (rLITc rfl (rLITc rfl (rLITe ?_)))))))
    refine ACalls.mono (among_ok (l := [0, 1, -1]) hc2 (by omega) (isI_list [0, 1, -1] true) (by simp) (by simp)) ?_
    rintro r3 H3 ⟨x, cs3, rfl, _, rfl, hc3⟩
    have hG3 := hG2.cur hic gc cs3
    have ho3 := ho2.cur gc cs3
    refine rTT (rTT (rTT (rLITn (rLITc rfl (rLITc rfl (rLITe ?_))))))
    refine rTT (rTT (rTT (rLITn (rLITc rfl (rLITe ?_)))))
    refine rTT (rTT ?_)
    refine ho3.snoc (by omega) hG3.len (fun i' hi' => by simp at hi'; subst hi'; exact hc3.lt) (fun v' H' o1 o2 o3 => ?_)
    refine fd_tail2 (A := A + 10) (by omega) hvm hm hic ((hc3.old (o3 ic (.inl (by simp)))).le (by omega)) (by simp; omega) ⟨Nat.le_trans hG3.len o2, fun i hi => (o3 i (.inr hi)).trans (hG3.old i hi)⟩ o1 (hR.snoc (isInts_pair x 1)) ?_
    intro c hc
    rcases List.mem_append.1 hc with hc | hc
    · exact hT c hc
    · simp at hc; subst hc; simp
  · exact fd_tail2 (A := A + 10) (by omega) hvm hm hic (hc2.le (by omega)) (by omega) hG2 ho2 hR hT
/-- Three cells. -/
theorem fd_three {A : Int} (hA : A ≤ 50000) (hvm : IsTab vm m) (hm : Small m) (hic : H0.length ≤ ic) {H : Heap} (hc : Cur A H ic gc) (hG : Grow H0 H) :
    TT ∧ TT ∧ TT ∧ BSK 1 [I 1, I 1] H fun x13 H14 => TT ∧ TT ∧ TT ∧ BSK 1 [I 1, I 1] H14 fun x15 H16 => ACalls Try.prog 68 [.ptr ic gc 0, I 4] H16 fun x17 H18 => TT ∧ TT ∧ TT ∧ BSK 1 [x17, I 1] H18 fun x19 H20 => TT ∧ TT ∧ TT ∧ BSK 1 [x13, x15, x19] H20 fun v7 H22 =>
    ACalls Try.prog 70 [.ptr ic gc 0, I 12] H22 fun x51 H52 => BRK x51 (TT ∧ TT ∧ TT ∧ BSK 1 [I 0, I 1, I (-1)] H52 fun x53 H54 =>
      ACalls Try.prog 50 [.ptr ic gc 0, x53] H54 fun x55 H56 => TT ∧ TT ∧ TT ∧ BSK 1 [x55, I 1] H56 fun x57 H58 => TT ∧ TT ∧ TT ∧ BSK 1 [x57] H58 fun x59 H60 => TT ∧ TT ∧ APK 1 H60 v7 x59 fun x61 H62 =>
      ACalls Try.prog 70 [.ptr ic gc 0, I 20] H62 fun x63 H64 => BRK x63 (spec_DrawFollowFlips.L9 (QFD H0) vm x61 H64) (QFD H0 (.tup [vm, x61]) H64))
      (ACalls Try.prog 70 [.ptr ic gc 0, I 20] H52 fun x65 H66 => BRK x65 (spec_DrawFollowFlips.L9 (QFD H0) vm v7 H66) (QFD H0 (.tup [vm, v7]) H66)) := by
  refine rTT (rTT (rTT (rLITn (rLITc rfl (rLITc rfl (rLITe ?_))))))
  refine rTT (rTT (rTT (rLITn (rLITc rfl (rLITc rfl (rLITe ?_))))))
  refine ACalls.mono (pick_ok hc (by omega) (by omega)) ?_
  rintro r H2 ⟨x, cs, rfl, hx0, hx1, rfl, hc2⟩
  have hG2 := hG.cur hic gc cs
  refine rTT (rTT (rTT (rLITn (rLITc rfl (rLITc rfl (rLITe ?_))))))
  refine rTT (rTT (rTT (rLITo (rLITc rfl (rLITc rfl (rLITc rfl (rLITe ?_)))))))
  intro g
  have hlt := hc2.lt
  refine fd_tail1 (A := A + 10) (T := [[1, 1], [1, 1], [x, 1]]) (by omega) hvm hm hic ((hc2.old (hget_old _ _ hlt)).le (by omega)) (ls := [.sl true 2 [I 1, I 1], .sl true 2 [I 1, I 1], .sl true 2 [I x, I 1]]) (by simp) (hG2.trans (Grow.new _ _ _)) (.inr ⟨_, g, rfl, hget_new _ _ _, by simp; omega, hG2.len⟩) ?_ (by simp)
  exact ((Rel2.nil.snoc (isInts_pair 1 1)).snoc (isInts_pair 1 1)).snoc (isInts_pair x 1)
end
theorem drawFollowFlips_ok {code : List Int} {v : AVal} {H : Heap} (hv : IsSl IsB v code) (hl : code.length ≤ 1099511627776) : ACalls Try.prog 45 [v] H fun r H' => TabCells r ∧ H' = H := by
  apply ACalls.pure
  apply spec_DrawFollowFlips.start
  unfold spec_DrawFollowFlips.start_vc
  refine rTT ?_
  refine cells_one hv.one ⟨rfl, by decide, ?_⟩
  refine rBOXc fun g => ?_
  refine ACalls.mono (pair_ok (cur_start hv hl g) (by omega) (by omega) (by omega)) ?_
  rintro r1 H1 ⟨a, b, va, vb, cs1, rfl, ha, hb', sa, sb, hH1, hc1⟩
  rw [hset_new] at hH1
  have hG1 : Grow H H1 := by rw [hH1]; exact Grow.new _ _ _
  have hi1 : H.length < H1.length := by rw [hH1, hlen_new]; omega
  refine rEXT0 (rEXT1 ?_)
  refine ACalls.mono (specFlipPathO_ok ha hb' (by have := sa.1; omega) (by have := sb.1; omega) (fun r h => by have := sa.2 r h; omega) (fun r h => by have := sb.2 r h; omega)) ?_
  rintro r2 H2 ⟨v8, ls, bb, T, rfl, ho, hR, hT1, hT2, hG2⟩
  have ho2 : OutL H.length [H.length] H2 v8 ls := by
    rcases ho with h | ⟨ko, go, h1, h2, h3, h4⟩
    · exact .inl h
    · exact .inr ⟨ko, go, h1, h2, by simp; omega, by omega⟩
  have hc2 := hc1.old (hG2.old _ hi1)
  have hGr := hG1.trans hG2
  refine rEXT0 (rEXT1 (rNOT (rSPLnb (fun _ => ?_) (fun _ => ?_))))
  · exact fd_three (A := 10000) (by omega) ha sa (Nat.le_refl _) (hc2.le (by omega)) hGr
  · refine ACalls.mono (one_ok hc2 (by omega) (by omega)) ?_
    rintro r3 H3 ⟨b3, cs3, rfl, rfl, hc3⟩
    have hG3 := hGr.cur (ic := H.length) (Nat.le_refl _) g cs3
    refine rBRKb (fun _ => ?_) (fun _ => ?_)
    · exact fd_three (A := 20000) (by omega) ha sa (Nat.le_refl _) (hc3.le (by omega)) hG3
    · exact fd_tail1 (A := 20000) (by omega) ha sa (Nat.le_refl _) (hc3.le (by omega)) (by rw [hR.1]; omega) hG3 (ho2.cur g cs3) hR (fun c hc => by have := hT2 c hc; omega)

end Go.Proofs.Ytccioplhchmilaa.AL

set_option linter.unusedVariables false
set_option maxRecDepth 100000
namespace Go.Proofs.Ytccioplhchmilaa.AL
open Go Go.Proofs Go.RowKit

/-- What a law says. -/
def True1 (H0 : Heap) : AVal → Heap → Prop := fun r H => r = .bool true ∧ H = H0
theorem enter_bytes {w : World} {a : Option Addr} {len cap : Nat} {z : List Int} (h : (a = none ∧ len = 0 ∧ cap = 0 ∧ z = []) ∨
    ∃ x, a = some x ∧ len ≤ cap ∧ cap ≤ maxLen ∧ z.length = cap ∧ (∀ i, i < z.length → w.cell? (x.add i) = some (.int .u8 (z.getD i 0))) ∧ ∀ n ∈ z, (Lit.int .u8 n).wf = true) :
    ∃ (v : AVal) (code : List Int), VRel w (fun g => g < w.heap.size) v (.slice a len cap) ∧ IsSl IsB v code ∧ code.length ≤ 9223372036854775807 := by
  rcases h with ⟨rfl, rfl, rfl, rfl⟩ | ⟨x, rfl, hl, hm, hz, hcell, hwf⟩
  · exact ⟨.nilS, [], by simp only [VRel], .inl ⟨rfl, rfl⟩, by simp⟩
  · have hmax : maxLen ≤ 9223372036854775807 := by decide
    by_cases h0 : len = 0
    · subst h0
      refine ⟨.sl false 0 [], [], ?_, isSl_mk rfl rfl (by intro i c a h; simp at h), by simp⟩
      simp only [VRel]
      exact .inl ⟨trivial, trivial, _, _, rfl, by intro h; cases h⟩
    · obtain ⟨b, off, spot⟩ := x
      have hc := hcell 0 (by omega)
      have hspot : spot = none := by simpa [Addr.add] using World.cell?_spot hc
      subst hspot
      have hb : b < w.heap.size := by
        unfold World.cell? at hc
        rcases hn : w.heap[b]? with _ | o
        · simp [Addr.add, hn] at hc
        · exact (Array.getElem?_eq_some_iff.1 hn).1
      have hcells : ∀ i, i < z.length → w.cell? ⟨b, off + i, none⟩ = some (.int .u8 (z.getD i 0)) := fun i hi => by
        have := hcell i hi
        unfold Addr.add at this
        split at this
        · rename_i h; subst h; exact this
        · exact this
      refine ⟨.sl false len ((z.take len).map (.int .u8)), z.take len, ?_, isSl_mk (by simp; omega) (by simp) ?_, by simp; omega⟩
      · simp only [VRel]
        refine .inr ⟨b, off, cap, (z.take len).map (.int .u8), rfl, hl, (by intro h; cases h), hb, ?_, ?_, ?_⟩
        · intro j u hu
          rw [List.getElem?_map] at hu
          have hj : j < (z.take len).length := by
            rcases Nat.lt_or_ge j (z.take len).length with h | h
            · exact h
            · rw [List.getElem?_eq_none h] at hu; cases hu
          have hj2 : j < z.length := by simp at hj; omega
          rw [List.getElem?_eq_getElem hj] at hu
          cases hu
          rw [hcells j hj2]
          simp [List.getD, hj2]
        · intro u hu
          simp only [List.mem_map] at hu
          obtain ⟨n, _, rfl⟩ := hu
          rfl
        · rw [VRels_iff]
          refine ⟨by simp, fun j c u h1 h2 => ?_⟩
          rw [List.getElem?_map] at h1 h2
          cases hq : (z.take len)[j]? with
          | none => rw [hq] at h1; cases h1
          | some n => rw [hq] at h1 h2; cases h1; cases h2; simp only [VRel]
      · intro i c a hc ha
        rw [List.getElem?_map, ha] at hc
        cases hc
        have hw := hwf a (List.mem_of_mem_take (List.mem_of_getElem? ha))
        refine ⟨rfl, ?_⟩
        simp [Lit.wf, IntKind.min, IntKind.max, IntKind.bits, IntKind.signed] at hw
        omega
theorem law_calls {P : Program} {f : FuncId} (h : ∀ (u v : AVal) (code more : List Int), IsSl IsB u code → code.length ≤ 9223372036854775807 → IsSl IsB v more → more.length ≤ 9223372036854775807 → ACalls P f [u, v] [] (True1 []))
    {w : World} {a0 a1 : Option Addr} {len0 cap0 len1 cap1 : Nat} {z0 z1 : List Int}
    (h0 : (a0 = none ∧ len0 = 0 ∧ cap0 = 0 ∧ z0 = []) ∨
      ∃ x, a0 = some x ∧ len0 ≤ cap0 ∧ cap0 ≤ maxLen ∧ z0.length = cap0 ∧ (∀ i, i < z0.length → w.cell? (x.add i) = some (.int .u8 (z0.getD i 0))) ∧ ∀ n ∈ z0, (Lit.int .u8 n).wf = true)
    (h1 : (a1 = none ∧ len1 = 0 ∧ cap1 = 0 ∧ z1 = []) ∨
      ∃ x, a1 = some x ∧ len1 ≤ cap1 ∧ cap1 ≤ maxLen ∧ z1.length = cap1 ∧ (∀ i, i < z1.length → w.cell? (x.add i) = some (.int .u8 (z1.getD i 0))) ∧ ∀ n ∈ z1, (Lit.int .u8 n).wf = true) :
    Calls P f #[.slice a0 len0 cap0, .slice a1 len1 cap1] w fun e w' => e = .returned (.bool true) ∧ Below w.heap.size w w' := by
  obtain ⟨u, code, q1, q2, q3⟩ := enter_bytes h0
  obtain ⟨v, more, p1, p2, p3⟩ := enter_bytes h1
  have hH : HRel w (fun g => g < w.heap.size) w.heap.size [] := ⟨Nat.le_refl _, fun g h => h, fun i g cs h => by simp [hget] at h, fun i j g cs ds h => by simp [hget] at h⟩
  have hV : VRels w (fun g => g < w.heap.size) [u, v] [.slice a0 len0 cap0, .slice a1 len1 cap1] := by
    simp only [VRels]
    exact ⟨_, _, rfl, q1, _, _, rfl, p1, rfl⟩
  refine ((h u v code more q2 q3 p2 p3).2 w _ _ _ (fun v w' => v = .bool true ∧ Below w.heap.size w w') hH hV ?_).mono ?_
  · rintro r H' w' I' v' ⟨rfl, rfl⟩ _ hv he
    simp only [VRel] at hv
    exact ⟨hv, he.below⟩
  · rintro e w' ⟨v', rfl, rfl, h2⟩
    exact ⟨rfl, h2⟩

end Go.Proofs.Ytccioplhchmilaa.AL

set_option linter.unusedVariables false
set_option maxRecDepth 100000
namespace Go.Proofs.Ytccioplhchmilaa.AL
open Go Go.Proofs

/-! laws.FnFlips (slots: 0 code, 1 more, 2 code, 3 more, 5 m, 6 i, 7 j, 8 k, 9 ok, 10 right, 11 fine, 12 back, 13 one, 14 x, 15 two, 16 y, 17 three, 18 up, 19 four, 20 found, 21 _, 22 cell, 23 a, 24 b, 25 path, 26 one, 27 want, 28 two, 29 n, 30 three, 31 value, 32 four, 33 end, 34 five, 35 x, 36 six, 37 y, 38 seven, 39 is, 40 eight, 41 c, 42 list, 43 end, 44 five, 45 model, 46 six, 47 d, 48 up, 49 cells, 50 seven, 51 flips, 52 eight) -/
namespace laws_FnFlips
def lv : List (Nat × List Nat) := [(15, [1, 5, 6, 7, 8, 12, 13, 14, 15, 16, 17, 19, 20, 111, 112, 113]), (21, [1]), (35, [1])]
noncomputable def K15 : List KF := [.lp (cB (cB (cR (cL (cR (cR (cR (cR (cR (cX (cR (cL (cR (cR (cR (cR (cR (cR (bodyOf Try.f5))))))))))))))))))), .bl 0, .sq (cR (cR (cR (cR (cR (cR (cX (cR (cL (cR (cR (cR (cR (cR (cR (bodyOf Try.f5)))))))))))))))), .sq (cR (cR (cR (cR (cR (cR (cR (bodyOf Try.f5))))))))]
def L15 (Q : AVal → Heap → Prop) (v1 v5 v6 v7 v8 v12 v13 v14 v15 v16 v17 v19 v20 v111 v112 v113 : AVal) (H : Heap) : Prop := At Try.prog 5 352 K15 Q (slotsOf [(1, v1), (5, v5), (6, v6), (7, v7), (8, v8), (12, v12), (13, v13), (14, v14), (15, v15), (16, v16), (17, v17), (19, v19), (20, v20), (111, v111), (112, v112), (113, v113)]) H
theorem L15_frz {Q : AVal → Heap → Prop} {v1 v5 v6 v7 v8 v12 v13 v14 v15 v16 v17 v19 v20 v111 v112 v113 w1 w5 w6 w7 w8 w12 w13 w14 w15 w16 w17 w19 w20 w111 w112 w113 : AVal} {H Hf Hk : Heap} {k : Nat} (hs : Split H Hf Hk) (hp : PurL Hf k [(1, v1, w1), (5, v5, w5), (6, v6, w6), (7, v7, w7), (8, v8, w8), (12, v12, w12), (13, v13, w13), (14, v14, w14), (15, v15, w15), (16, v16, w16), (17, v17, w17), (19, v19, w19), (20, v20, w20), (111, v111, w111), (112, v112, w112), (113, v113, w113)]) (h : L15 Q w1 w5 w6 w7 w8 w12 w13 w14 w15 w16 w17 w19 w20 w111 w112 w113 Hk) : L15 Q v1 v5 v6 v7 v8 v12 v13 v14 v15 v16 v17 v19 v20 v111 v112 v113 H := at_frz (ks := K15) hs hp h
noncomputable def M21 : List KF := [.sq (cL (cR (cR (cR (cR (cR (cR (cR (bodyOf Try.f5))))))))), .sq (cR (cR (cR (cR (cR (cR (cR (cR (bodyOf Try.f5)))))))))]
def J21 (Q : AVal → Heap → Prop) (v1 : AVal) (H : Heap) : Prop := At Try.prog 5 352 M21 Q (slotsOf [(1, v1)]) H
theorem J21_frz {Q : AVal → Heap → Prop} {v1 w1 : AVal} {H Hf Hk : Heap} {k : Nat} (hs : Split H Hf Hk) (hp : PurL Hf k [(1, v1, w1)]) (h : J21 Q w1 Hk) : J21 Q v1 H := at_frz (ks := M21) hs hp h
noncomputable def M35 : List KF := [.sq (cL (cR (cR (cR (cR (cR (cR (cR (cR (cR (cR (cR (cR (cR (cR (bodyOf Try.f5)))))))))))))))), .sq (cR (cR (cR (cR (cR (cR (cR (cR (cR (cR (cR (cR (cR (cR (cR (bodyOf Try.f5))))))))))))))))]
def J35 (Q : AVal → Heap → Prop) (v1 : AVal) (H : Heap) : Prop := At Try.prog 5 352 M35 Q (slotsOf [(1, v1)]) H
theorem J35_frz {Q : AVal → Heap → Prop} {v1 w1 : AVal} {H Hf Hk : Heap} {k : Nat} (hs : Split H Hf Hk) (hp : PurL Hf k [(1, v1, w1)]) (h : J35 Q w1 Hk) : J35 Q v1 H := at_frz (ks := M35) hs hp h
def start_vc (Q : AVal → Heap → Prop) (a0 a1 : AVal) (H : Heap) : Prop :=
 ACalls Try.prog 6 [a0, a1] H fun x1 H2 =>
 BRK x1 (Q (AVal.bool true) H2) (ACalls Try.prog 35 [a0] H2 fun x3 H4 =>
 EXTK x3 0 fun x5 =>
 EXTK x3 1 fun x6 =>
 EXTK x3 2 fun x7 =>
 ACalls Try.prog 36 [x5, x6, x7] H4 fun x8 H9 =>
 EXTK x8 0 fun x10 =>
 EXTK x8 1 fun x11 =>
 ACalls Try.prog 37 [x5, x6, x7] H9 fun x12 H13 =>
 EXTK x12 0 fun x14 =>
 EXTK x12 1 fun x15 =>
 EQB .neq x11 x15 fun x16 =>
 SPL x16 (Q (AVal.bool false) H13) (ACalls Try.prog 12 [x10, x14] H13 fun x17 H18 =>
 NOTK x17 fun x19 =>
 BRK x19 (Q (AVal.bool false) H18) (BRK x11 (ACalls Try.prog 36 [x10, x6, x7] H18 fun x20 H21 =>
 EXTK x20 0 fun x22 =>
 EXTK x20 1 fun x23 =>
 ACalls Try.prog 38 [x5] H21 fun x24 H25 =>
 EXTK x24 0 fun x26 =>
 EXTK x24 1 fun x27 =>
 ACalls Try.prog 38 [x10] H25 fun x28 H29 =>
 EXTK x28 0 fun x30 =>
 EXTK x28 1 fun x31 =>
 BINK .gtr x30 x26 fun x32 =>
 ACalls Try.prog 39 [x5, x32] H29 fun x33 H34 =>
 EXTK x33 0 fun x35 =>
 EXTK x33 1 fun x36 =>
 LENK x35 fun x37 =>
 laws_FnFlips.L15 Q a1 x5 x6 x7 x10 x22 x23 x26 x27 x30 x31 x36 (AVal.bool false) x35 x37 (AVal.int .i64 0) H34) (laws_FnFlips.J21 Q a1 H18))))
theorem start_eq (Q : AVal → Heap → Prop) (a0 a1 : AVal) (H : Heap) : vs Try.prog lv 5 352 Try.f5.results.toList Q true 1000 [.sq (bodyOf Try.f5)] (entry [a0, a1]) H = start_vc Q a0 a1 H := by kernel_rfl
theorem start {Q : AVal → Heap → Prop} {a0 a1 : AVal} {H : Heap} (h : start_vc Q a0 a1 H) : ACalls Try.prog 5 [a0, a1] H Q := acalls_vs (lv := lv) mixed Try.func5 rfl (by kernel_rfl) (by kernel_rfl) (start_eq Q a0 a1 H ▸ h)
def step15_vc (Q : AVal → Heap → Prop) (v1 v5 v6 v7 v8 v12 v13 v14 v15 v16 v17 v19 v20 v111 v112 v113 : AVal) (H : Heap) : Prop :=
 BINK .lss v113 v112 fun x1 =>
 BRK x1 (TT ∧ IXK 1 v111 v113 fun x2 =>
 TT ∧ TT ∧ LDK false 1 H x2 fun x3 =>
 SPL v20 (BINK .add v113 (AVal.int .i64 1) fun x4 =>
 laws_FnFlips.L15 Q v1 v5 v6 v7 v8 v12 v13 v14 v15 v16 v17 v19 (AVal.bool true) v111 v112 x4 H) (TT ∧ IXK 1 x3 (AVal.int .i64 0) fun x5 =>
 TT ∧ TT ∧ LDK false 1 H x5 fun x6 =>
 BINK .eql x6 v6 fun x7 =>
 SPL x7 (TT ∧ IXK 1 x3 (AVal.int .i64 1) fun x8 =>
 TT ∧ TT ∧ LDK false 1 H x8 fun x9 =>
 BINK .eql x9 v7 fun x10 =>
 BINK .add v113 (AVal.int .i64 1) fun x11 =>
 laws_FnFlips.L15 Q v1 v5 v6 v7 v8 v12 v13 v14 v15 v16 v17 v19 x10 v111 v112 x11 H) (BINK .add v113 (AVal.int .i64 1) fun x12 =>
 laws_FnFlips.L15 Q v1 v5 v6 v7 v8 v12 v13 v14 v15 v16 v17 v19 (AVal.bool false) v111 v112 x12 H))) (NOTK v13 fun x13 =>
 SPL x13 (Q (AVal.bool false) H) (ACalls Try.prog 12 [v12, v5] H fun x14 H15 =>
 NOTK x14 fun x16 =>
 SPL x16 (Q (AVal.bool false) H15) (NOTK v15 fun x17 =>
 SPL x17 (Q (AVal.bool false) H15) (NOTK v17 fun x18 =>
 SPL x18 (Q (AVal.bool false) H15) (BINK .sub v14 v16 fun x19 =>
 BINK .neq x19 (AVal.int .i64 1) fun x20 =>
 SPL x20 (BINK .sub v16 v14 fun x21 =>
 BINK .neq x21 (AVal.int .i64 1) fun x22 =>
 SPL x22 (Q (AVal.bool false) H15) (NOTK v19 fun x23 =>
 SPL x23 (Q (AVal.bool false) H15) (NOTK v20 fun x24 =>
 SPL x24 (Q (AVal.bool false) H15) (ACalls Try.prog 40 [v8] H15 fun x25 H26 =>
 NOTK x25 fun x27 =>
 BRK x27 (Q (AVal.bool false) H26) (laws_FnFlips.J21 Q v1 H26))))) (NOTK v19 fun x28 =>
 SPL x28 (Q (AVal.bool false) H15) (NOTK v20 fun x29 =>
 SPL x29 (Q (AVal.bool false) H15) (ACalls Try.prog 40 [v8] H15 fun x30 H31 =>
 NOTK x30 fun x32 =>
 BRK x32 (Q (AVal.bool false) H31) (laws_FnFlips.J21 Q v1 H31)))))))))
theorem step15_eq (Q : AVal → Heap → Prop) (v1 v5 v6 v7 v8 v12 v13 v14 v15 v16 v17 v19 v20 v111 v112 v113 : AVal) (H : Heap) : vs Try.prog lv 5 352 Try.f5.results.toList Q true 1000 (.sq (cB (cB (cR (cL (cR (cR (cR (cR (cR (cX (cR (cL (cR (cR (cR (cR (cR (cR (bodyOf Try.f5))))))))))))))))))) :: K15) (slotsOf [(1, v1), (5, v5), (6, v6), (7, v7), (8, v8), (12, v12), (13, v13), (14, v14), (15, v15), (16, v16), (17, v17), (19, v19), (20, v20), (111, v111), (112, v112), (113, v113)]) H = step15_vc Q v1 v5 v6 v7 v8 v12 v13 v14 v15 v16 v17 v19 v20 v111 v112 v113 H := by kernel_rfl
theorem step15 {Q : AVal → Heap → Prop} {v1 v5 v6 v7 v8 v12 v13 v14 v15 v16 v17 v19 v20 v111 v112 v113 : AVal} {H : Heap} (h : step15_vc Q v1 v5 v6 v7 v8 v12 v13 v14 v15 v16 v17 v19 v20 v111 v112 v113 H) : L15 Q v1 v5 v6 v7 v8 v12 v13 v14 v15 v16 v17 v19 v20 v111 v112 v113 H := at_lp_vs (lv := lv) (ks := K15.tail) mixed Try.func5 (step15_eq Q v1 v5 v6 v7 v8 v12 v13 v14 v15 v16 v17 v19 v20 v111 v112 v113 H ▸ h)
def join21_vc (Q : AVal → Heap → Prop) (v1 : AVal) (H : Heap) : Prop :=
 ACalls Try.prog 41 [v1] H fun x1 H2 =>
 EXTK x1 0 fun x3 =>
 EXTK x1 1 fun x4 =>
 ACalls Try.prog 42 [x3, x4] H2 fun x5 H6 =>
 EXTK x5 0 fun x7 =>
 EXTK x5 1 fun x8 =>
 ACalls Try.prog 43 [x3, x4] H6 fun x9 H10 =>
 EXTK x9 0 fun x11 =>
 EXTK x9 1 fun x12 =>
 ACalls Try.prog 13 [x3, x4] H10 fun x13 H14 =>
 EXTK x13 0 fun x15 =>
 EXTK x13 1 fun x16 =>
 ACalls Try.prog 44 [x3, x4] H14 fun x17 H18 =>
 EXTK x17 0 fun x19 =>
 EXTK x17 1 fun x20 =>
 EQB .neq x8 x12 fun x21 =>
 SPL x21 (Q (AVal.bool false) H18) (ACalls Try.prog 12 [x7, x11] H18 fun x22 H23 =>
 NOTK x22 fun x24 =>
 SPL x24 (Q (AVal.bool false) H23) (EQB .neq x16 x20 fun x25 =>
 SPL x25 (Q (AVal.bool false) H23) (BINK .neq x15 x19 fun x26 =>
 SPL x26 (Q (AVal.bool false) H23) (EQB .neq x16 x8 fun x27 =>
 BRK x27 (Q (AVal.bool false) H23) (BRK x8 (ACalls Try.prog 14 [x3, x7] H23 fun x28 H29 =>
 EXTK x28 0 fun x30 =>
 EXTK x28 1 fun x31 =>
 ACalls Try.prog 38 [x3] H29 fun x32 H33 =>
 EXTK x32 0 fun x34 =>
 EXTK x32 1 fun x35 =>
 ACalls Try.prog 38 [x4] H33 fun x36 H37 =>
 EXTK x36 0 fun x38 =>
 EXTK x36 1 fun x39 =>
 ACalls Try.prog 30 [x3, x4] H37 fun x40 H41 =>
 EXTK x40 0 fun x42 =>
 EXTK x40 1 fun x43 =>
 LENK x7 fun x44 =>
 BINK .neq x44 x15 fun x45 =>
 SPL x45 (Q (AVal.bool false) H41) (NOTK x31 fun x46 =>
 SPL x46 (Q (AVal.bool false) H41) (ACalls Try.prog 12 [x30, x4] H41 fun x47 H48 =>
 NOTK x47 fun x49 =>
 SPL x49 (Q (AVal.bool false) H48) (NOTK x35 fun x50 =>
 SPL x50 (Q (AVal.bool false) H48) (NOTK x39 fun x51 =>
 SPL x51 (Q (AVal.bool false) H48) (NOTK x43 fun x52 =>
 SPL x52 (Q (AVal.bool false) H48) (SPL x42 (BINK .sub x38 x34 fun x53 =>
 BINK .neq x53 x15 fun x54 =>
 SPL x54 (Q (AVal.bool false) H48) (BINK .sub x38 x34 fun x55 =>
 BINK .lss x15 x55 fun x56 =>
 SPL x56 (Q (AVal.bool false) H48) (BINK .sub x34 x38 fun x57 =>
 BINK .lss x15 x57 fun x58 =>
 BRK x58 (Q (AVal.bool false) H48) (laws_FnFlips.J35 Q v1 H48)))) (BINK .sub x38 x34 fun x59 =>
 BINK .lss x15 x59 fun x60 =>
 SPL x60 (Q (AVal.bool false) H48) (BINK .sub x34 x38 fun x61 =>
 BINK .lss x15 x61 fun x62 =>
 BRK x62 (Q (AVal.bool false) H48) (laws_FnFlips.J35 Q v1 H48)))))))))) (laws_FnFlips.J35 Q v1 H23))))))
theorem join21_eq (Q : AVal → Heap → Prop) (v1 : AVal) (H : Heap) : vs Try.prog lv 5 352 Try.f5.results.toList Q true 1000 M21 (slotsOf [(1, v1)]) H = join21_vc Q v1 H := by kernel_rfl
theorem join21 {Q : AVal → Heap → Prop} {v1 : AVal} {H : Heap} (h : join21_vc Q v1 H) : J21 Q v1 H := at_join_vs (lv := lv) (ks := M21) mixed Try.func5 (join21_eq Q v1 H ▸ h)
def join35_vc (Q : AVal → Heap → Prop) (v1 : AVal) (H : Heap) : Prop :=
 ACalls Try.prog 45 [v1] H fun x1 H2 =>
 EXTK x1 0 fun x3 =>
 EXTK x1 1 fun x4 =>
 ACalls Try.prog 14 [x3, x4] H2 fun x5 H6 =>
 EXTK x5 0 fun x7 =>
 EXTK x5 1 fun x8 =>
 ACalls Try.prog 46 [x3, x4] H6 fun x9 H10 =>
 EXTK x9 0 fun x11 =>
 EXTK x9 1 fun x12 =>
 ACalls Try.prog 47 [v1] H10 fun x13 H14 =>
 EXTK x13 0 fun x15 =>
 EXTK x13 1 fun x16 =>
 ACalls Try.prog 39 [x15, x16] H14 fun x17 H18 =>
 EXTK x17 0 fun x19 =>
 EXTK x17 1 fun x20 =>
 ACalls Try.prog 48 [x15, x16] H18 fun x21 H22 =>
 EXTK x21 0 fun x23 =>
 EXTK x21 1 fun x24 =>
 EQB .eql x8 x12 fun x25 =>
 SPL x25 (ACalls Try.prog 12 [x7, x11] H22 fun x26 H27 =>
 SPL x26 (EQB .eql x20 x24 fun x28 =>
 SPL x28 (ACalls Try.prog 12 [x19, x23] H27 fun x29 H30 =>
 Q x29 H30) (Q (AVal.bool false) H27)) (Q (AVal.bool false) H27)) (Q (AVal.bool false) H22)
theorem join35_eq (Q : AVal → Heap → Prop) (v1 : AVal) (H : Heap) : vs Try.prog lv 5 352 Try.f5.results.toList Q true 1000 M35 (slotsOf [(1, v1)]) H = join35_vc Q v1 H := by kernel_rfl
theorem join35 {Q : AVal → Heap → Prop} {v1 : AVal} {H : Heap} (h : join35_vc Q v1 H) : J35 Q v1 H := at_join_vs (lv := lv) (ks := M35) mixed Try.func5 (join35_eq Q v1 H ▸ h)
end laws_FnFlips


theorem OptTab.cases {o : Option (List (List Int))} {r : AVal} (h : OptTab o r) : (o = none ∧ ∃ x, r = .tup [x, .bool false] ∧ IsTab x []) ∨ ∃ t x, o = some t ∧ r = .tup [x, .bool true] ∧ IsTab x t := by
  obtain ⟨x, rfl, h1⟩ := h
  cases o with
  | none => exact .inl ⟨rfl, x, rfl, h1⟩
  | some t => exact .inr ⟨t, x, rfl, rfl, h1⟩
/-- One flip, by both. -/
theorem fol_one (m : List (List Int)) (i j : Int) : folM m [[i, j]] = if flipOk m i j = true then some (flipM m i.toNat j.toNat) else none := by
  unfold folM
  by_cases hg : goodB m = true
  · rw [if_pos ⟨hg, by simp⟩, followM]
    have e1 : ([i, j].getD 0 0) = i := rfl
    have e2 : ([i, j].getD 1 0) = j := rfl
    rw [e1, e2]
    by_cases hc : isCellB m.length [i, j] = true
    · have hd : decide ((1 ≤ i ∧ i ≤ (m.length : Int) - 1) ∧ (1 ≤ j ∧ j ≤ (m.length : Int) - 1)) = true := by
        unfold isCellB at hc
        simp only [Bool.and_eq_true, decide_eq_true_eq, e1, e2] at hc
        exact decide_eq_true hc.2
      unfold flipOk
      rw [hg, hd]
      by_cases hw : heWayF (heightsF m) i.toNat j.toNat ≠ 0
      · rw [if_pos ⟨hc, hw⟩, decide_eq_true hw]; rfl
      · rw [if_neg (fun h => hw h.2), decide_eq_false hw]; rfl
    · rw [if_neg (fun h => hc h.1)]
      have hd : decide ((1 ≤ i ∧ i ≤ (m.length : Int) - 1) ∧ (1 ≤ j ∧ j ≤ (m.length : Int) - 1)) = false := by
        rw [decide_eq_false_iff_not]
        intro h
        apply hc
        show (decide (2 = 2) && (decide (1 ≤ i ∧ i ≤ (m.length : Int) - 1) && decide (1 ≤ j ∧ j ≤ (m.length : Int) - 1))) = true
        rw [decide_eq_true h.1, decide_eq_true h.2]; rfl
      unfold flipOk
      rw [hd]
      simp
  · rw [if_neg (fun h => hg h.1)]
    unfold flipOk
    rw [eq_false_of_ne_true hg]; rfl
theorem flipOk_iff {m : List (List Int)} {i j : Int} (h : flipOk m i j = true) : ∃ a b : Nat, i = a ∧ j = b ∧ Good m.length m ∧ 1 ≤ a ∧ a < m.length ∧ 1 ≤ b ∧ b < m.length ∧ heWayF (heightsF m) a b ≠ 0 := by
  unfold flipOk at h
  simp only [Bool.and_eq_true, decide_eq_true_eq] at h
  obtain ⟨hg, hc, hw⟩ := h
  exact ⟨i.toNat, j.toNat, by omega, by omega, goodB_iff.1 hg, by omega, by omega, by omega, by omega, hw⟩
theorem flipOk_mk {m : List (List Int)} {a b : Nat} (G : Good m.length m) (h1 : 1 ≤ a) (h2 : a < m.length) (h3 : 1 ≤ b) (h4 : b < m.length) (hw : heWayF (heightsF m) a b ≠ 0) : flipOk m a b = true := by
  unfold flipOk
  rw [goodB_of G, Int.toNat_natCast, Int.toNat_natCast, decide_eq_true hw, decide_eq_true (by omega)]; rfl
theorem rank_flip {n : Nat} {m : List (List Int)} (h : Good n m) {i j : Nat} (hi1 : 1 ≤ i) (hi : i < n) (hj1 : 1 ≤ j) (hj : j < n) (hw : heWayF (heightsF m) i j ≠ 0) : distM n (flipM m i j) (leastF n) = distM n m (leastF n) + heWayF (heightsF m) i j := by
  rw [dist_flip h hi1 hi hj1 hj hw, least_Cn (by omega) (by omega)]
  have g := (flip_good h hi1 hi hj1 hj hw).ct.le_min (i := i) (j := j) (by omega) (by omega)
  rw [flip_Cn h hi1 hi hj1 hj hw (by omega) (by omega)] at g
  unfold flipC at g
  rw [if_pos ⟨rfl, rfl⟩] at g
  have g2 := h.ct.le_min (i := i) (j := j) (by omega) (by omega)
  have := way_cases (heightsF m) i j
  unfold ab
  omega

section
variable {code more : List Int} {u v : AVal} {H : Heap}
theorem flips_tail2 (hv : IsSl IsB v more) (hl : more.length ≤ 1099511627776) : laws_FnFlips.J35 (True1 H) v H := by
  apply laws_FnFlips.join35
  unfold laws_FnFlips.join35_vc
  refine ACalls.mono (drawFollowFlips_ok hv hl) ?_
  rintro r H1 ⟨⟨a, L, va, vL, rfl, ha, hL, sa, lL, rL⟩, rfl⟩
  refine rEXT0 (rEXT1 ?_)
  refine ACalls.mono (followFlips_ok ha hL (by have := sa.1; omega) (by omega) (fun c hc => by have := rL c hc; omega)) ?_
  rintro r2 H2 ⟨⟨x, rfl, hx⟩, rfl⟩
  refine rEXT0 (rEXT1 ?_)
  refine ACalls.mono (specFollowFlips_ok ha hL (by have := sa.1; omega) (by omega) (fun c hc => by have := rL c hc; omega) (fun r h => by have := sa.2 r h; omega)) ?_
  rintro r3 H3 ⟨⟨y, rfl, hy⟩, rfl⟩
  refine rEXT0 (rEXT1 ?_)
  refine ACalls.mono (drawFlipsOf_ok hv hl) ?_
  rintro r4 H4 ⟨⟨m, vm, up, rfl, hm, sm⟩, rfl⟩
  refine rEXT0 (rEXT1 ?_)
  have lm := sm.1
  refine ACalls.mono (flipsOf_ok hm (by omega)) ?_
  rintro r5 H5 ⟨⟨z, rfl, hz⟩, rfl⟩
  refine rEXT0 (rEXT1 ?_)
  refine ACalls.mono (specFlipsOf_ok hm (by omega) (fun r h => by have := sm.2 r h; omega)) ?_
  rintro r6 H6 ⟨⟨w, rfl, hw⟩, rfl⟩
  refine rEXT0 (rEXT1 (rEQB (rSPt (by simp) ?_)))
  have hlen : ∀ (o : Option (List (List Int))), (o = folM a L) → (bif o.isSome then o.getD [] else []).length ≤ 1000000 ∧ ∀ r ∈ (bif o.isSome then o.getD [] else []), r.length ≤ 1000000 := by
    intro o ho
    cases o with
    | none => exact ⟨by simp, by simp⟩
    | some t =>
      have key : ∀ {n : Nat} {L : List (List Int)} {m t : List (List Int)}, Good n m → followM n m L = some t → Good n t := by
        intro n L
        induction L with
        | nil => intro m t G h; rw [followM] at h; cases h; exact G
        | cons c L ih =>
          intro m t G h
          rw [followM] at h
          split at h
          · rename_i hc
            obtain ⟨i, j, rfl, i1, i2, j1, j2⟩ := isCell_iff hc.1
            exact ih (flip_good G i1 i2 j1 j2 hc.2) h
          · cases h
      unfold folM at ho
      split at ho
      · rename_i hg
        have Gt := key (goodB_iff.1 hg.1) ho.symm
        have h6 := Gt.n6
        simp only [Option.isSome_some, Option.getD_some, cond_true]
        exact ⟨by rw [Gt.len]; omega, fun r hr => by rw [Gt.sq r hr]; omega⟩
      · cases ho
  have h1 := hlen _ rfl
  refine ACalls.mono (hRows_ok hx hy h1.1 h1.2) ?_
  rintro r7 H7 ⟨rfl, rfl⟩
  refine rSPt (by simp) (rEQB (rSPt (by simp) ?_))
  have h2 : (bif goodB m then flipsOfF m up else []).length ≤ 1000000 ∧ ∀ r ∈ (bif goodB m then flipsOfF m up else []), r.length ≤ 1000000 := by
    cases goodB m with
    | false => exact ⟨by simp, by simp⟩
    | true =>
      simp only [cond_true]
      unfold flipsOfF
      refine ⟨?_, fun r hr => ?_⟩
      · have h0 := cells_len (fun i j => decide (heWayF (heightsF m) i j = if up = true then 1 else -1)) (m.length - 1)
        have h1 : m.length - 1 ≤ 7 := by omega
        have h2 := Nat.mul_le_mul h1 h1
        omega
      · obtain ⟨i, j, _, _, _, _, _, rfl⟩ := mem_cells hr
        simp
  refine ACalls.mono (hRows_ok hz hw h2.1 h2.2) ?_
  rintro r8 H8 ⟨rfl, rfl⟩
  exact ⟨by simp, rfl⟩
theorem flips_tail1 (hv : IsSl IsB v more) (hl : more.length ≤ 1099511627776) : laws_FnFlips.J21 (True1 H) v H := by
  apply laws_FnFlips.join21
  unfold laws_FnFlips.join21_vc
  refine ACalls.mono (drawFlipPath_ok hv hl) ?_
  rintro r H1 ⟨⟨a, b, va, vb, rfl, ha, hb', sa, sb⟩, rfl⟩
  refine rEXT0 (rEXT1 ?_)
  have la : a.length ≤ 100000 := by have := sa.1; omega
  have lb : b.length ≤ 100000 := by have := sb.1; omega
  have ra : ∀ r ∈ a, r.length ≤ 1000000 := fun r h => by have := sa.2 r h; omega
  have rb : ∀ r ∈ b, r.length ≤ 1000000 := fun r h => by have := sb.2 r h; omega
  refine ACalls.mono (flipPath_ok ha hb' la lb) ?_
  rintro r2 H2 ⟨⟨x, rfl, hx⟩, rfl⟩
  refine rEXT0 (rEXT1 ?_)
  refine ACalls.mono (specFlipPath_ok ha hb' la lb ra rb) ?_
  rintro r3 H3 ⟨⟨y, rfl, hy⟩, rfl⟩
  refine rEXT0 (rEXT1 ?_)
  refine ACalls.mono (flipDistance_ok ha hb' la lb) ?_
  rintro r4 H4 ⟨rfl, rfl⟩
  refine rEXT0 (rEXT1 ?_)
  refine ACalls.mono (specFlipDistance_ok ha hb' la lb ra rb) ?_
  rintro r5 H5 ⟨rfl, rfl⟩
  refine rEXT0 (rEXT1 (rNEB (rSPf (by simp) ?_)))
  have hp : pairB a b = true → (pathF a b).length = (distM a.length a b).toNat ∧ followM a.length a (pathF a b) = some b ∧ (∀ c ∈ pathF a b, isCellB a.length c = true) := by
    intro hp
    have h := hp
    simp only [pairB, Bool.and_eq_true, decide_eq_true_eq] at h
    have Gb := goodB_iff.1 h.2.1
    rw [← h.2.2] at Gb
    have G := goodB_iff.1 h.1
    have hd0 : distM a.length a b = ((distM a.length a b).toNat : Int) := (Int.toNat_of_nonneg (dist_nonneg _ _ _)).symm
    exact ⟨path_len Gb _ _ G hd0, follow_path Gb _ _ G hd0, path_cells Gb _ _ G hd0⟩
  have hpl : (bif pairB a b then pathF a b else []).length ≤ 200 ∧ ∀ r ∈ (bif pairB a b then pathF a b else []), r.length ≤ 1000000 := by
    cases hpb : pairB a b with
    | false => exact ⟨by simp, by simp⟩
    | true =>
      obtain ⟨h1, h2, h3⟩ := hp hpb
      simp only [cond_true]
      have h := hpb
      simp only [pairB, Bool.and_eq_true, decide_eq_true_eq] at h
      have Gb := goodB_iff.1 h.2.1
      rw [← h.2.2] at Gb
      have := dist_bound (goodB_iff.1 h.1) Gb
      refine ⟨by omega, fun r hr => ?_⟩
      obtain ⟨i, j, rfl, _⟩ := isCell_iff (h3 r hr)
      simp
  refine ACalls.mono (hRows_ok hx hy (by omega) hpl.2) ?_
  rintro r6 H6 ⟨rfl, rfl⟩
  refine rNOT (rSPf (by simp) (rNEB (rSPf (by simp) (rNEQ (rSPf (by simp) (rNEB (rBRf (by simp) ?_)))))))
  refine rBRKb (fun hpb => ?_) (fun _ => flips_tail2 hv hl)
  obtain ⟨p1, p2, p3⟩ := hp hpb
  have h := hpb
  simp only [pairB, Bool.and_eq_true, decide_eq_true_eq] at h
  obtain ⟨ga, gb, hab⟩ := h
  have G := goodB_iff.1 ga
  have Gb := goodB_iff.1 gb
  rw [← hab] at Gb
  rw [hpb, cond_true] at hpl
  rw [hpb, cond_true] at hx
  refine ACalls.mono (followFlips_ok ha hx la (by omega) hpl.2) ?_
  have hfol : folM a (pathF a b) = some b := by unfold folM; rw [if_pos ⟨ga, hpl.1⟩]; exact p2
  rw [hfol]
  rintro r7 H7 ⟨⟨z, rfl, hz⟩, rfl⟩
  refine rEXT0 (rEXT1 ?_)
  refine ACalls.mono (rankOf_ok ha la) ?_
  rintro r8 H8 ⟨rfl, rfl⟩
  refine rEXT0 (rEXT1 ?_)
  refine ACalls.mono (rankOf_ok hb' lb) ?_
  rintro r9 H9 ⟨rfl, rfl⟩
  refine rEXT0 (rEXT1 ?_)
  refine ACalls.mono (impl_IsBelow_ok ha hb' la lb) ?_
  rintro r10 H10 ⟨rfl, rfl⟩
  refine rEXT0 (rEXT1 ?_)
  rw [hpb, ga, gb, ← hab]
  simp only [cond_true]
  have d0 := dist_nonneg a.length a b
  refine rLEN hx (rNEQ (rSPf (by rw [p1]; simp; omega) (rNOT (rSPf rfl ?_))))
  have hz' : IsTab z b := hz
  refine ACalls.mono (hRows_ok hz' hb' (by omega) rb) ?_
  rintro r11 H11 ⟨rfl, rfl⟩
  refine rNOT (rSPf (by simp) (rNOT (rSPf rfl (rNOT (rSPf rfl (rNOT (rSPf rfl ?_)))))))
  have GL := least_good G.n1 G.n6
  have t1 := dist_tri a.length b a (leastF a.length)
  have t2 := dist_tri a.length a b (leastF a.length)
  have t3 := dist_comm a.length a b
  have b1 := dist_bound G GL
  have b2 := dist_bound Gb GL
  have n1 := dist_nonneg a.length a (leastF a.length)
  have n2 := dist_nonneg a.length b (leastF a.length)
  refine rSPLb (fun hbel => ?_) (fun _ => ?_)
  · have hb1 := (isBelow_iff G Gb).1 hbel
    have hb2 : ∀ i j, i ≤ a.length → j ≤ a.length → Cn a i j ≤ Cn (leastF a.length) i j := (isBelow_iff GL G).1 (least_below G)
    have := dist_below hb2 hb1
    rw [dist_comm _ (leastF a.length) b, dist_comm _ (leastF a.length) a] at this
    refine rSUB (by constructor <;> omega) (rNEQ (rSPf (by simp; omega) (rSUB (by constructor <;> omega) (rLSS (rSPf (by simp; omega) (rSUB (by constructor <;> omega) (rLSS (rBRf (by simp; omega) ?_))))))))
    exact flips_tail2 hv hl
  · refine rSUB (by constructor <;> omega) (rLSS (rSPf (by simp; omega) (rSUB (by constructor <;> omega) (rLSS (rBRf (by simp; omega) ?_)))))
    exact flips_tail2 hv hl
theorem flips_loop (hv : IsSl IsB v more) (hl : more.length ≤ 1099511627776) {m k : List (List Int)} {vm vk vb vu : AVal} {up : List (List Int)} {i j x y : Int} (hm : IsTab vm m) (sm : m.length ≤ 100000) (rm : ∀ r ∈ m, r.length ≤ 1000000) (hk : IsTab vk k) (sk : k.length ≤ 100000) (hb' : IsTab vb m) (hu : IsTab vu up) (hul : up.length ≤ 1000) (hup : ∀ c ∈ up, ∃ a b : Int, c = [a, b]) (hgk : goodB k = true) (hxy : x - y = 1 ∨ y - x = 1) (hx : 0 ≤ x ∧ x ≤ 1000) (hy : 0 ≤ y ∧ y ≤ 1000) :
    ∀ (cnt q : Nat) (fd : Bool), q + cnt = up.length → (fd || (up.drop q).any fun c => decide (c = [i, j])) = true →
    laws_FnFlips.L15 (True1 H) v vm (I i) (I j) vk vb (.bool true) (I x) (.bool true) (I y) (.bool true) (.bool true) (.bool fd) vu (I up.length) (I q) H := by
  intro cnt
  induction cnt with
  | zero =>
    intro q fd hq hf
    rw [List.drop_eq_nil_of_le (by omega), List.any_nil, Bool.or_false] at hf
    subst hf
    apply laws_FnFlips.step15
    unfold laws_FnFlips.step15_vc
    refine rLSS (rBRf (by simp; omega) ?_)
    refine rNOT (rSPf rfl ?_)
    refine ACalls.mono (hRows_ok hb' hm (by omega) rm) ?_
    rintro r H1 ⟨rfl, rfl⟩
    refine rNOT (rSPf (by simp) (rNOT (rSPf rfl (rNOT (rSPf rfl ?_)))))
    refine rSUB (by constructor <;> omega) (rNEQ ?_)
    refine rSPL (fun h1 => ?_) (fun h1 => ?_)
    · refine rSUB (by constructor <;> omega) (rNEQ (rSPf (by simp; omega) (rNOT (rSPf rfl (rNOT (rSPf rfl ?_))))))
      refine ACalls.mono (isSign_ok hk (by omega)) ?_
      rintro r H2 ⟨rfl, rfl⟩
      rw [hgk]
      exact rNOT (rBRf rfl (flips_tail1 hv hl))
    · refine rNOT (rSPf rfl (rNOT (rSPf rfl ?_)))
      refine ACalls.mono (isSign_ok hk (by omega)) ?_
      rintro r H2 ⟨rfl, rfl⟩
      rw [hgk]
      exact rNOT (rBRf rfl (flips_tail1 hv hl))
  | succ cnt ih =>
    intro q fd hq hf
    obtain ⟨cl, hcl⟩ := ex_get (l := up) (k := q) (by omega)
    rw [drop_some hcl, List.any_cons] at hf
    obtain ⟨a, b, rfl⟩ := hup cl (getElem_mem' hcl)
    have q0 : [a, b][0]? = some a := rfl
    have q1' : [a, b][1]? = some b := rfl
    apply laws_FnFlips.step15
    unfold laws_FnFlips.step15_vc
    refine rLSS (rBRt (by simp; omega) ?_)
    refine rTT (rIXk hu hcl fun p hp => rTT (rTT (rLD hp fun c hc => ?_)))
    refine rSPLb (fun hfd => ?_) (fun hfd => ?_)
    · refine rADD (by constructor <;> omega) ?_
      exact ih (q + 1) true (by omega) rfl
    · rw [hfd, Bool.false_or] at hf
      refine rTT (rIXk (i := 0) hc q0 fun p hp => rTT (rTT (rLDi hp (rEQL ?_))))
      refine rSPL (fun h1 => ?_) (fun h1 => ?_)
      · refine rTT (rIXk (i := 1) hc q1' fun p hp => rTT (rTT (rLDi hp (rEQL ?_))))
        refine rADD (by constructor <;> omega) ?_
        refine ih (q + 1) _ (by omega) ?_
        have : decide ([a, b] = [i, j]) = decide (b = j) := by simp [h1]
        rw [this] at hf; exact hf
      · refine rADD (by constructor <;> omega) ?_
        refine ih (q + 1) _ (by omega) ?_
        have : decide ([a, b] = [i, j]) = false := by simp [h1]
        rw [this] at hf; exact hf
theorem flips_law (hu : IsSl IsB u code) (hul : code.length ≤ 9223372036854775807) (hv : IsSl IsB v more) (hl : more.length ≤ 9223372036854775807) :
    ACalls Try.prog 5 [u, v] H (True1 H) := by
  apply laws_FnFlips.start
  unfold laws_FnFlips.start_vc
  refine ACalls.mono (big_ok hu hv hul hl) ?_
  rintro r H1 ⟨rfl, rfl⟩
  refine rBRK (fun _ => ⟨rfl, rfl⟩) (fun hbig => ?_)
  have hul : code.length ≤ 1099511627776 := by omega
  have hl : more.length ≤ 1099511627776 := by omega
  refine ACalls.mono (drawFlipAt_ok hu hul) ?_
  rintro r H1 ⟨⟨m, vm, i, j, rfl, hm, sm⟩, rfl⟩
  have lm : m.length ≤ 100000 := by have := sm.1; omega
  have rm : ∀ r ∈ m, r.length ≤ 1000000 := fun r h => by have := sm.2 r h; omega
  refine rEXT0 (rEXT1 (rEXT2 ?_))
  refine ACalls.mono (flipAt_ok hm lm) ?_
  rintro r2 H2 ⟨h2, rfl⟩
  rw [fol_one] at h2
  have hS := specFlipAt_ok hm lm rm (i := i) (j := j) (H := H2)
  by_cases hf : flipOk m i j = true
  · obtain ⟨a, b, rfl, rfl, G, i1, i2, j1, j2, hw⟩ := flipOk_iff hf
    have GK := flip_good G i1 i2 j1 j2 hw
    have hwK := flip_way G i1 i2 j1 j2 hw
    have hbk := flipM_flip G i1 i2 j1 j2 hw
    rw [if_pos hf, Int.toNat_natCast, Int.toNat_natCast] at h2
    rw [hf, heFlip_eq G i1 i2 j1 j2 hw] at hS
    generalize hK : flipM m a b = K at h2 hS GK hwK hbk
    obtain ⟨x, rfl, hx⟩ := h2
    simp only [Option.isSome_some, Option.getD_some, cond_true] at hx ⊢
    refine rEXT0 (rEXT1 ?_)
    refine ACalls.mono hS ?_
    rintro r3 H3 ⟨⟨y, rfl, hy⟩, rfl⟩
    have hy : IsTab y K := hy
    have lK : K.length = m.length := GK.len
    refine rEXT0 (rEXT1 (rNEB (rSPf rfl ?_)))
    refine ACalls.mono (hRows_ok hx hy (by omega) (fun r hr => by rw [GK.sq r hr]; omega)) ?_
    rintro r4 H4 ⟨rfl, rfl⟩
    refine rNOT (rBRf (by simp) (rBRt rfl ?_))
    refine ACalls.mono (flipAt_ok hx (by omega)) ?_
    rintro r5 H5 ⟨h5, rfl⟩
    rw [fol_one] at h5
    have hf2 : flipOk K a b = true := flipOk_mk (by rw [lK]; exact GK) i1 (by omega) j1 (by omega) (by rw [hwK]; omega)
    rw [if_pos hf2, Int.toNat_natCast, Int.toNat_natCast, hbk] at h5
    obtain ⟨z, rfl, hz⟩ := h5
    simp only [Option.isSome_some, Option.getD_some, cond_true] at hz ⊢
    refine rEXT0 (rEXT1 ?_)
    have gm := goodB_of G
    have gK := goodB_of GK
    refine ACalls.mono (rankOf_ok hm lm) ?_
    rintro r6 H6 ⟨rfl, rfl⟩
    refine rEXT0 (rEXT1 ?_)
    refine ACalls.mono (rankOf_ok hx (by omega)) ?_
    rintro r7 H7 ⟨rfl, rfl⟩
    refine rEXT0 (rEXT1 (rGTR ?_))
    rw [gm, gK, cond_true, cond_true, lK]
    have GL := least_good G.n1 G.n6
    have hr := rank_flip G i1 i2 j1 j2 hw
    rw [hK] at hr
    have b1 := dist_bound G GL
    have b2 := dist_bound GK GL
    have n1 := dist_nonneg m.length m (leastF m.length)
    have n2 := dist_nonneg m.length K (leastF m.length)
    have hwc := way_cases (heightsF m) a b
    refine ACalls.mono (flipsOf_ok hm lm) ?_
    rintro r8 H8 ⟨⟨w, rfl, hwu⟩, rfl⟩
    rw [gm, cond_true] at hwu
    rw [gm]
    refine rEXT0 (rEXT1 (rLEN hwu ?_))
    have hup : ∀ c ∈ flipsOfF m (decide (distM m.length m (leastF m.length) < distM m.length K (leastF m.length))), ∃ a b : Int, c = [a, b] := by
      intro c hc
      obtain ⟨i, j, _, _, _, _, _, rfl⟩ := mem_cells hc
      exact ⟨_, _, rfl⟩
    have hupl : (flipsOfF m (decide (distM m.length m (leastF m.length) < distM m.length K (leastF m.length)))).length ≤ 1000 := by
      unfold flipsOfF
      have h0 := cells_len (fun i j => decide (heWayF (heightsF m) i j = if decide (distM m.length m (leastF m.length) < distM m.length K (leastF m.length)) = true then 1 else -1)) (m.length - 1)
      have h1 : m.length - 1 ≤ 7 := by have := sm.1; omega
      have h2 := Nat.mul_le_mul h1 h1
      omega
    refine flips_loop hv hl (k := K) hm lm rm hx (by omega) hz hwu hupl hup gK (by omega) (by omega) (by omega) _ 0 false (by rw [Nat.zero_add]) ?_
    rw [List.drop_zero, Bool.false_or, List.any_eq_true]
    refine ⟨[(a : Int), (b : Int)], ?_, by simp⟩
    unfold flipsOfF
    refine cells_mem ?_ i1 (by omega) j1 (by omega)
    simp only [decide_eq_true_eq]
    rw [hr]
    split <;> omega
  · have hf' := eq_false_of_ne_true hf
    rw [if_neg hf] at h2
    rw [hf'] at hS
    obtain ⟨x, rfl, hx⟩ := h2
    refine rEXT0 (rEXT1 ?_)
    refine ACalls.mono hS ?_
    rintro r3 H3 ⟨⟨y, rfl, hy⟩, rfl⟩
    refine rEXT0 (rEXT1 (rNEB (rSPf rfl ?_)))
    refine ACalls.mono (hRows_ok hx hy (by simp) (by simp)) ?_
    rintro r4 H4 ⟨rfl, rfl⟩
    exact rNOT (rBRf (by simp) (rBRf rfl (flips_tail1 hv hl)))
end

end Go.Proofs.Ytccioplhchmilaa.AL
