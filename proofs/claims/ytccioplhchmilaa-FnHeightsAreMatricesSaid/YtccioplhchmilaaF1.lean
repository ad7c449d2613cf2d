/-
  Contracts: drawn heights.
-/
import Derived.Test.YtccioplhchmilaaE9
set_option linter.unusedVariables false
set_option maxRecDepth 100000
namespace Go.Proofs.Ytccioplhchmilaa.AL
open Go Go.Proofs

/-! spec.DrawAreHeights (slots: 0 code, 1 code, 3 c, 4 m, 5 h) -/
namespace spec_DrawAreHeights
def lv : List (Nat × List Nat) := []
def start_vc (Q : AVal → Heap → Prop) (a0 : AVal) (H : Heap) : Prop :=
TT ∧ BLDK [AVal.nilS, (AVal.int .i64 0), (AVal.int .u64 0)] [((0, 1), a0)] fun x1 =>
BOXK x1 H fun x2 H3 =>
ACalls Try.prog 49 [x2, (AVal.int .i64 5)] H3 fun x4 H5 =>
ACalls Try.prog 53 [x4] H5 fun x6 H7 =>
NOTK x6 fun x8 =>
BRK x8 (Q x4 H7) (ACalls Try.prog 61 [x4] H7 fun x9 H10 =>
ACalls Try.prog 70 [x2, (AVal.int .i64 4)] H10 fun x11 H12 =>
BRK x11 (TT ∧ LENK x9 fun x13 =>
LENK x9 fun x14 =>
TT ∧ TT ∧ TT ∧ allCells 1 [(AVal.int .i64 1), (AVal.int .i64 (-1)), (AVal.int .i64 2), (AVal.int .i64 (-2)), (AVal.int .i64 4611686018427387904)] fun c15 =>
ACalls Try.prog 68 [x2, x13] H12 fun x16 H17 =>
TT ∧ IXK 1 x9 x16 fun x18 =>
TT ∧ TT ∧ LDK false 1 H17 x18 fun x19 =>
ACalls Try.prog 68 [x2, x14] H17 fun x20 H21 =>
(TT ∧ TT ∧ LDK false 1 H21 x18 fun x22 =>
x22 = x19) ∧
TT ∧ IXK 1 x19 x20 fun x23 =>
TT ∧ TT ∧ LDK false 1 H21 x23 fun x24 =>
ACalls Try.prog 50 [x2, (AVal.sl true 5 c15)] H21 fun x25 H26 =>
(TT ∧ TT ∧ LDK false 1 H26 x23 fun x27 =>
x27 = x24) ∧
(TT ∧ TT ∧ LDK false 1 H26 x18 fun x28 =>
x28 = x19) ∧
BINK .add x24 x25 fun x29 =>
TT ∧ IXK 1 x19 x20 fun x30 =>
TT ∧ STK 1 H26 x30 x29 fun H31 =>
ACalls Try.prog 70 [x2, (AVal.int .i64 15)] H31 fun x32 H33 =>
BRK x32 (TT ∧ TT ∧ SLK 1 x9 (some (AVal.int .i64 1)) none none fun x34 =>
Q x34 H33) (Q x9 H33)) (ACalls Try.prog 70 [x2, (AVal.int .i64 15)] H12 fun x35 H36 =>
BRK x35 (TT ∧ TT ∧ SLK 1 x9 (some (AVal.int .i64 1)) none none fun x37 =>
Q x37 H36) (Q x9 H36)))
theorem start_eq (Q : AVal → Heap → Prop) (a0 : AVal) (H : Heap) : vs Try.prog lv 83 42 Try.f83.results.toList Q true 1000 [.sq (bodyOf Try.f83)] (entry [a0]) H = start_vc Q a0 H := by kernel_rfl
theorem start {Q : AVal → Heap → Prop} {a0 : AVal} {H : Heap} (h : start_vc Q a0 H) : ACalls Try.prog 83 [a0] H Q := acalls_vs (lv := lv) mixed Try.func83 rfl (by kernel_rfl) (by kernel_rfl) (start_eq Q a0 H ▸ h)
end spec_DrawAreHeights

/-! spec.DrawFromHeights (slots: 0 code, 1 code) -/
namespace spec_DrawFromHeights
def lv : List (Nat × List Nat) := []
def start_vc (Q : AVal → Heap → Prop) (a0 : AVal) (H : Heap) : Prop :=
ACalls Try.prog 83 [a0] H fun x1 H2 =>
Q x1 H2
theorem start_eq (Q : AVal → Heap → Prop) (a0 : AVal) (H : Heap) : vs Try.prog lv 26 5 Try.f26.results.toList Q true 1000 [.sq (bodyOf Try.f26)] (entry [a0]) H = start_vc Q a0 H := by kernel_rfl
theorem start {Q : AVal → Heap → Prop} {a0 : AVal} {H : Heap} (h : start_vc Q a0 H) : ACalls Try.prog 26 [a0] H Q := acalls_vs (lv := lv) mixed Try.func26 rfl (by kernel_rfl) (by kernel_rfl) (start_eq Q a0 H ▸ h)
end spec_DrawFromHeights


/-- The end of a table, frozen. -/
theorem OTab.pur_drop {lo : Nat} {H Hf : Heap} {k g : Nat} {rows : List AVal} {ks : List Nat} {t : List (List Int)} (h : OTab lo H k g rows ks t) (hf : ∀ i, lo ≤ i → hget Hf i = hget H i) {o : Nat} (ho : o ≤ t.length) :
    ∃ v', Pur Hf 2 (.own k g 1 o (t.length - o)) v' ∧ IsTab v' (t.drop o) := by
  refine ⟨.sl false (t.length - o) ((t.drop o).map fun r => .sl false r.length (r.map I)), .inr ⟨rows, (t.drop o).map fun r => .sl false r.length (r.map I), by rw [hf k h.lok]; exact h.top, by rw [h.len]; omega, rfl, ?_⟩, ?_⟩
  · rw [List.take_of_length_le (by simp [h.len])]
    have key : ∀ (rows : List AVal) (t : List (List Int)), rows.length = t.length → (∀ (j : Nat) (c : AVal) (r : List Int), rows[j]? = some c → t[j]? = some r → Pur Hf 1 c (.sl false r.length (r.map I))) → All2 (Pur Hf 1) rows (t.map fun r => .sl false r.length (r.map I)) := by
      intro rows
      induction rows with
      | nil => intro t hl _; have : t = [] := List.eq_nil_of_length_eq_zero (by simpa using hl.symm); subst this; rfl
      | cons c rows ih =>
        intro t hl hp
        cases t with
        | nil => cases hl
        | cons r t => exact ⟨_, _, rfl, hp 0 c r rfl rfl, ih t (by simpa using hl) fun j c' r' h1 h2 => hp (j + 1) c' r' h1 h2⟩
    refine key _ _ (by simp [h.len]) fun j c r h1 h2 => ?_
    rw [List.getElem?_drop] at h1 h2
    obtain ⟨kj, gj, h3, h4, h5, h6, _⟩ := h.get h2
    rw [h1] at h4; cases h4
    exact pur_ints (by rw [hf kj h6]; exact h5) 0
  · have := isTab_pure (t.drop o)
    rw [List.length_drop] at this; exact this
theorem rSLo1 {k g n : Nat} {K : AVal → Prop} (hn : 2 ≤ n) (h : K (.own k g 1 1 (n - 1))) : SLK 1 (.own k g 1 0 n) (some (I 1)) none none K := by
  refine ⟨rfl, ?_⟩
  refine ⟨by omega, ?_⟩
  show _ ≤ n ∧ n ≤ n ∧ n = n ∧ _
  refine ⟨by simpa using (by omega : 1 ≤ n), Nat.le_refl _, rfl, fun h1 => ?_, fun _ => ⟨rfl, h⟩⟩
  have : (1 : Nat) = n := h1
  omega

theorem rBOXc {v : AVal} {H : Heap} {K : AVal → Heap → Prop} (h : ∀ g, K (.ptr H.length g 0) (hnew H g [v, I 0, .int .u64 0])) : BLDK (([AVal.nilS, (AVal.int .i64 0), (AVal.int .u64 0)].take 0 ++ [v]) ++ [AVal.nilS, (AVal.int .i64 0), (AVal.int .u64 0)].drop (0 + 1)) [] fun x1 => BOXK x1 H K := h
theorem drawEnd {A : Int} {H0 H1 : Heap} {i g : Nat} {k gk : Nat} {rows : List AVal} {ks : List Nat} {t : List (List Int)} (hA : A ≤ 100000) (hlo : H0.length = i) (hF : HSub H0 H1) (hA1 : Cur A H1 i g) (ho : OTab H0.length H1 k gk rows ks t) (hi : ∀ j gj cs, hget H0 j = some (gj, cs) → j ≠ i) (h2 : 2 ≤ t.length) (h7 : t.length ≤ 7) (hr : ∀ r ∈ t, r.length ≤ 7)
    (hne : ∀ x ∈ k :: ks, x ≠ i) :
    ACalls Try.prog 70 [.ptr i g 0, I 15] H1 fun x32 H33 => BRK x32 (TT ∧ TT ∧ SLK 1 (.own k gk 1 0 t.length) (some (I 1)) none none fun x34 => HSub H0 H33 ∧ ∃ k r', Pur (nw H0 H33) k x34 r' ∧ (TabR r' ∧ H0 = H0)) (HSub H0 H33 ∧ ∃ k' r', Pur (nw H0 H33) k' (.own k gk 1 0 t.length) r' ∧ (TabR r' ∧ H0 = H0)) := by
  refine ACalls.mono (one_ok hA1 (by omega) (by omega)) ?_
  rintro r H2 ⟨b, cs, rfl, hH2, hc2⟩
  have hsub : HSub H0 H2 := by
    intro j gj ds hj
    rw [hH2, hget_set_ne _ _ (fun e => hi j gj ds hj e.symm)]; exact hF j gj ds hj
  have hf : ∀ j, H0.length ≤ j → hget (nw H0 H2) j = hget H2 j := fun j hj => nw_above H0 H2 hj
  have ho2 : OTab H0.length H2 k gk rows ks t := by
    have hk : ∀ x, x ∈ k :: ks → hget H2 x = hget H1 x := fun x hx => by rw [hH2, hget_set_ne _ _ (fun e => hne x hx e.symm)]
    exact ⟨by rw [hk k (by simp)]; exact ho.top, ho.lok, ho.len, ho.kln, ho.nd, fun j s kj h1 h2 => by
      obtain ⟨gj, h3, h4, h5⟩ := ho.row j s kj h1 h2
      exact ⟨gj, h3, by rw [hk kj (by simp [List.mem_of_getElem? h2])]; exact h4, h5⟩⟩
  refine rBRKb (fun _ => ?_) (fun _ => ?_)
  · refine rTT (rTT (rSLo1 h2 ?_))
    obtain ⟨v', q1, q2⟩ := ho2.pur_drop hf (o := 1) (by omega)
    exact ⟨hsub, 2, v', q1, ⟨_, q2, by simp; omega, fun r h => hr r (List.mem_of_mem_drop h)⟩, rfl⟩
  · obtain ⟨v', q1, q2⟩ := (ho2.is rfl).pur hf
    exact ⟨hsub, 2, v', q1, ⟨_, q2, h7, hr⟩, rfl⟩

theorem OTab.lo' {lo lo' : Nat} {H : Heap} {k g : Nat} {rows : List AVal} {ks : List Nat} {t : List (List Int)} (h : OTab lo H k g rows ks t) (hl : lo' ≤ lo) : OTab lo' H k g rows ks t :=
  ⟨h.top, Nat.le_trans hl h.lok, h.len, h.kln, h.nd, fun j r kj h1 h2 => by obtain ⟨gj, h3, h4, h5⟩ := h.row j r kj h1 h2; exact ⟨gj, h3, h4, Nat.le_trans hl h5⟩⟩
theorem OTab.ge {lo : Nat} {H : Heap} {k g : Nat} {rows : List AVal} {ks : List Nat} {t : List (List Int)} (h : OTab lo H k g rows ks t) : ∀ x ∈ k :: ks, lo ≤ x := by
  intro x hx
  rcases List.mem_cons.1 hx with rfl | hx
  · exact h.lok
  · obtain ⟨j, hj, rfl⟩ := List.getElem_of_mem hx
    obtain ⟨gj, _, _, h5⟩ := h.row j _ _ (List.getElem?_eq_getElem (by rw [← h.kln]; exact hj)) (List.getElem?_eq_getElem hj)
    exact h5
theorem drawAreHeights_ok {code : List Int} {v : AVal} (hv : IsSl IsB v code) (hl : code.length ≤ 1099511627776) {H : Heap} : ACalls Try.prog 83 [v] H fun r H' => TabR r ∧ H' = H := by
  apply ACalls.pure
  apply spec_DrawAreHeights.start
  unfold spec_DrawAreHeights.start_vc
  refine rTT ?_
  refine cells_one hv.one ⟨rfl, by decide, ?_⟩
  refine rBOXc ?_
  intro g
  have hc : Cur 0 (hnew H g [v, I 0, .int .u64 0]) H.length g := ⟨v, code, 0, 0, hget_new _ _ _, hv, hl, by omega, by omega⟩
  refine ACalls.mono (signsV_ok hc (by omega) (by omega) (by omega)) ?_
  rintro r1 H1 ⟨m, cs1, hm, hml, hmr, hH1, hc1⟩
  rw [hset_new] at hH1
  have hs1 : HSub H H1 := by rw [hH1]; exact hsub_new _ _ _
  have hl1 : H1.length = H.length + 1 := by rw [hH1, hlen_new]
  refine ACalls.mono (sgGood_ok hm (by omega) (fun r hr => by have := hmr r hr; omega)) ?_
  rintro r H2 ⟨rfl, rfl⟩
  refine rNOT ?_
  refine rBRKnb (fun hb => ⟨hs1, 1, r1, Pur.refl _ _ _, ⟨m, hm, hml, hmr⟩, rfl⟩) (fun hg => ?_)
  have gl := goodB_len hg
  refine ACalls.mono (heOfo_ok hm (by omega) (goodB_sq hg)) ?_
  rintro r3 H3 ⟨h3, hF3⟩
  have hlen := heights_len m
  rcases h3 with ⟨rfl, ht⟩ | ⟨k, gk, rows, ks, rfl, ho⟩
  · rw [ht] at hlen; simp at hlen
  · have hc3 := hc1.old (hF3.old _ (by omega))
    have hs3 : HSub H H3 := hs1.trans hF3.sub
    have hil : ∀ j gj cs, hget H j = some (gj, cs) → j ≠ H.length := fun j gj cs hj => by have := hlt_of_get hj; omega
    refine ACalls.mono (one_ok hc3 (by omega) (by omega)) ?_
    rintro r4 H4 ⟨b, cs4, rfl, hH4, hc4⟩
    have hs4 : HSub H H4 := by intro j gj ds hj; rw [hH4, hget_set_ne _ _ (fun e => hil j gj ds hj e.symm)]; exact hs3 j gj ds hj
    have hgt : ∀ x ∈ k :: ks, x ≠ H.length := fun x hx => by have := ho.ge x hx; omega
    have ho4 : OTab H2.length H4 k gk rows ks (heightsF m) := ho.frame fun j hj _ => by rw [hH4, hget_set_ne _ _ (by omega)]
    have hr7 : ∀ r ∈ heightsF m, r.length ≤ 7 := fun r hr => by rw [heights_sq hr]; omega
    refine rBRKb (fun _ => ?_) (fun _ => ?_)
    · refine rTT ?_
      refine IsOTab.len (ho4.is rfl) (IsOTab.len (ho4.is rfl) ?_)
      refine rTT (rTT (rTT (rLITc rfl (rLITc rfl (rLITc rfl (rLITc rfl (rLITc rfl (rLITe ?_))))))))
      refine ACalls.mono (pick_ok hc4 (by omega) (by omega)) ?_
      rintro r5 H5 ⟨x, cs5, rfl, hx0, hx1, hH5, hc5⟩
      obtain ⟨xn, rfl⟩ : ∃ xn : Nat, x = xn := ⟨x.toNat, by omega⟩
      have ho5 : OTab H2.length H5 k gk rows ks (heightsF m) := ho4.frame fun j hj _ => by rw [hH5, hget_set_ne _ _ (by omega)]
      obtain ⟨row, hrow⟩ := ex_get (l := heightsF m) (k := xn) (by omega)
      have hrl := heights_sq (getElem_mem' hrow)
      obtain ⟨kj, gj, g1, g2, g3, g4, g5⟩ := ho5.get hrow
      refine rTT (rIXo (by omega) (rTT (rTT (rLDf ho5.top g2 ?_))))
      refine ACalls.mono (pick_ok hc5 (by omega) (by omega)) ?_
      rintro r6 H6 ⟨y, cs6, rfl, hy0, hy1, hH6, hc6⟩
      obtain ⟨yn, rfl⟩ : ∃ yn : Nat, y = yn := ⟨y.toNat, by omega⟩
      have ho6 : OTab H2.length H6 k gk rows ks (heightsF m) := ho5.frame fun j hj _ => by rw [hH6, hget_set_ne _ _ (by omega)]
      have e6 : hget H6 kj = some (gj, row.map I) := by rw [hH6, hget_set_ne _ _ (by omega)]; exact g3
      obtain ⟨z, hz⟩ := ex_get (l := row) (k := yn) (by omega)
      refine ⟨rTT (rTT (rLDf ho6.top g2 rfl)), ?_⟩
      refine rTT (rIXo (by omega) (rTT (rTT (rLDf e6 (by rw [List.getElem?_map, hz]; rfl) ?_))))
      have hl5 := isI_list [1, -1, 2, -2, 4611686018427387904] true
      refine ACalls.mono (among_ok hc6 (by omega) hl5 (by simp) (by simp)) ?_
      rintro r7 H7 ⟨w, cs7, rfl, hw, hH7, hc7⟩
      have ho7 : OTab H2.length H7 k gk rows ks (heightsF m) := ho6.frame fun j hj _ => by rw [hH7, hget_set_ne _ _ (by omega)]
      have e7 : hget H7 kj = some (gj, row.map I) := by rw [hH7, hget_set_ne _ _ (by omega)]; exact e6
      refine ⟨rTT (rTT (rLDf e7 (by rw [List.getElem?_map, hz]; rfl) rfl)), ⟨rTT (rTT (rLDf ho7.top g2 rfl)), ?_⟩⟩
      refine rADDw ?_
      refine rTT (rIXo (by omega) (rTT (rSTp e7 (by simp; omega) rfl ?_)))
      have hset1 : ∀ w, (row.map I).set yn (I w) = (row.set yn w).map I := fun w => by rw [List.map_set]
      rw [hset1]
      have ho8 := (ho7.put hrow g1 e7 (r' := row.set yn (w64 (z + w))) (by simp)).lo' (lo' := H.length) (by omega)
      have hlen8 : ((heightsF m).set xn (row.set yn (w64 (z + w)))).length = (heightsF m).length := by simp
      rw [← hlen8]
      have hs5 : HSub H H5 := by intro j gj ds hj; rw [hH5, hget_set_ne _ _ (fun e => hil j gj ds hj e.symm)]; exact hs4 j gj ds hj
      have hs6 : HSub H H6 := by intro j gj ds hj; rw [hH6, hget_set_ne _ _ (fun e => hil j gj ds hj e.symm)]; exact hs5 j gj ds hj
      have hs7 : HSub H H7 := by intro j gj ds hj; rw [hH7, hget_set_ne _ _ (fun e => hil j gj ds hj e.symm)]; exact hs6 j gj ds hj
      refine drawEnd (A := 10000) (by omega) rfl ?_ ((hc7.old (hget_set_ne _ _ (by omega))).le (by omega)) ho8 hil (by rw [hlen8]; omega) (by rw [hlen8]; omega) ?_ hgt
      · intro j gj' ds hj
        have := hlt_of_get hj
        rw [hget_set_ne _ _ (by omega)]; exact hs7 j gj' ds hj
      · intro r hr
        rcases List.mem_or_eq_of_mem_set hr with h | rfl
        · exact hr7 r h
        · simp; omega
    · exact drawEnd (A := 10000) (by omega) rfl hs4 (hc4.le (by omega)) (ho4.lo' (by omega)) hil (by omega) (by omega) hr7 hgt
theorem drawFromHeights_ok {code : List Int} {v : AVal} (hv : IsSl IsB v code) (hl : code.length ≤ 1099511627776) {H : Heap} : ACalls Try.prog 26 [v] H fun r H' => TabR r ∧ H' = H := by
  apply spec_DrawFromHeights.start
  unfold spec_DrawFromHeights.start_vc
  exact drawAreHeights_ok hv hl

end Go.Proofs.Ytccioplhchmilaa.AL
