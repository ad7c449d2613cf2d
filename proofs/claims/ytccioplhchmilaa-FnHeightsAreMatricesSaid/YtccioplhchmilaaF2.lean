/-
  The law FnHeightsAreMatrices, as a call.
-/
import Derived.Test.YtccioplhchmilaaF1
import Derived.Test.YtccioplhchmilaaB1
set_option linter.unusedVariables false
set_option maxRecDepth 100000
namespace Go.Proofs.Ytccioplhchmilaa.AL
open Go Go.Proofs

/-! laws.FnHeightsAreMatrices (slots: 0 code, 1 more, 2 code, 3 more, 5 m, 6 h, 7 ok, 8 right, 9 fine, 10 back, 11 one, 12 g, 13 k, 14 one, 15 want, 16 two, 17 again, 18 three, 19 a, 20 b, 21 is, 22 three, 23 value, 24 four, 25 x, 26 five, 27 y, 28 six, 29 turned, 30 seven, 31 back, 32 eight, 33 least, 34 nine, 35 low, 36 ten, 37 most, 38 eleven, 39 high, 40 twelve) -/
namespace laws_FnHeightsAreMatrices
def lv : List (Nat × List Nat) := [(12, [1]), (21, [1])]
noncomputable def M12 : List KF := [.sq (cL (cR (cR (cR (cR (cR (cR (cR (bodyOf Try.f4))))))))), .sq (cR (cR (cR (cR (cR (cR (cR (cR (bodyOf Try.f4)))))))))]
def J12 (Q : AVal → Heap → Prop) (v1 : AVal) (H : Heap) : Prop := At Try.prog 4 246 M12 Q (slotsOf [(1, v1)]) H
theorem J12_frz {Q : AVal → Heap → Prop} {v1 w1 : AVal} {H Hf Hk : Heap} {k : Nat} (hs : Split H Hf Hk) (hp : PurL Hf k [(1, v1, w1)]) (h : J12 Q w1 Hk) : J12 Q v1 H := at_frz (ks := M12) hs hp h
noncomputable def M21 : List KF := [.sq (cL (cR (cR (cR (cR (cR (cR (cR (cR (cR (cR (cR (cR (bodyOf Try.f4)))))))))))))), .sq (cR (cR (cR (cR (cR (cR (cR (cR (cR (cR (cR (cR (cR (bodyOf Try.f4))))))))))))))]
def J21 (Q : AVal → Heap → Prop) (v1 : AVal) (H : Heap) : Prop := At Try.prog 4 246 M21 Q (slotsOf [(1, v1)]) H
theorem J21_frz {Q : AVal → Heap → Prop} {v1 w1 : AVal} {H Hf Hk : Heap} {k : Nat} (hs : Split H Hf Hk) (hp : PurL Hf k [(1, v1, w1)]) (h : J21 Q w1 Hk) : J21 Q v1 H := at_frz (ks := M21) hs hp h
def start_vc (Q : AVal → Heap → Prop) (a0 a1 : AVal) (H : Heap) : Prop :=
ACalls Try.prog 6 [a0, a1] H fun x1 H2 =>
BRK x1 (Q (AVal.bool true) H2) (ACalls Try.prog 21 [a0] H2 fun x3 H4 =>
ACalls Try.prog 22 [x3] H4 fun x5 H6 =>
EXTK x5 0 fun x7 =>
EXTK x5 1 fun x8 =>
ACalls Try.prog 23 [x3] H6 fun x9 H10 =>
EXTK x9 0 fun x11 =>
EXTK x9 1 fun x12 =>
EQB .neq x8 x12 fun x13 =>
SPL x13 (Q (AVal.bool false) H10) (ACalls Try.prog 12 [x7, x11] H10 fun x14 H15 =>
NOTK x14 fun x16 =>
BRK x16 (Q (AVal.bool false) H15) (BRK x8 (ACalls Try.prog 24 [x7] H15 fun x17 H18 =>
EXTK x17 0 fun x19 =>
EXTK x17 1 fun x20 =>
NOTK x20 fun x21 =>
SPL x21 (Q (AVal.bool false) H18) (ACalls Try.prog 12 [x19, x3] H18 fun x22 H23 =>
NOTK x22 fun x24 =>
SPL x24 (Q (AVal.bool false) H23) (ACalls Try.prog 25 [x7] H23 fun x25 H26 =>
NOTK x25 fun x27 =>
BRK x27 (Q (AVal.bool false) H26) (laws_FnHeightsAreMatrices.J12 Q a1 H26)))) (laws_FnHeightsAreMatrices.J12 Q a1 H15))))
theorem start_eq (Q : AVal → Heap → Prop) (a0 a1 : AVal) (H : Heap) : vs Try.prog lv 4 246 Try.f4.results.toList Q true 1000 [.sq (bodyOf Try.f4)] (entry [a0, a1]) H = start_vc Q a0 a1 H := by kernel_rfl
theorem start {Q : AVal → Heap → Prop} {a0 a1 : AVal} {H : Heap} (h : start_vc Q a0 a1 H) : ACalls Try.prog 4 [a0, a1] H Q := acalls_vs (lv := lv) mixed Try.func4 rfl (by kernel_rfl) (by kernel_rfl) (start_eq Q a0 a1 H ▸ h)
def join12_vc (Q : AVal → Heap → Prop) (v1 : AVal) (H : Heap) : Prop :=
ACalls Try.prog 26 [v1] H fun x1 H2 =>
ACalls Try.prog 24 [x1] H2 fun x3 H4 =>
EXTK x3 0 fun x5 =>
EXTK x3 1 fun x6 =>
ACalls Try.prog 27 [x1] H4 fun x7 H8 =>
EXTK x7 0 fun x9 =>
EXTK x7 1 fun x10 =>
EQB .neq x6 x10 fun x11 =>
SPL x11 (Q (AVal.bool false) H8) (ACalls Try.prog 12 [x5, x9] H8 fun x12 H13 =>
NOTK x12 fun x14 =>
SPL x14 (Q (AVal.bool false) H13) (ACalls Try.prog 25 [x1] H13 fun x15 H16 =>
EQB .neq x6 x15 fun x17 =>
SPL x17 (Q (AVal.bool false) H16) (ACalls Try.prog 28 [x1] H16 fun x18 H19 =>
EQB .neq x6 x18 fun x20 =>
BRK x20 (Q (AVal.bool false) H19) (BRK x6 (ACalls Try.prog 22 [x5] H19 fun x21 H22 =>
EXTK x21 0 fun x23 =>
EXTK x21 1 fun x24 =>
NOTK x24 fun x25 =>
SPL x25 (Q (AVal.bool false) H22) (ACalls Try.prog 12 [x23, x1] H22 fun x26 H27 =>
NOTK x26 fun x28 =>
BRK x28 (Q (AVal.bool false) H27) (laws_FnHeightsAreMatrices.J21 Q v1 H27))) (laws_FnHeightsAreMatrices.J21 Q v1 H19)))))
theorem join12_eq (Q : AVal → Heap → Prop) (v1 : AVal) (H : Heap) : vs Try.prog lv 4 246 Try.f4.results.toList Q true 1000 M12 (slotsOf [(1, v1)]) H = join12_vc Q v1 H := by kernel_rfl
theorem join12 {Q : AVal → Heap → Prop} {v1 : AVal} {H : Heap} (h : join12_vc Q v1 H) : J12 Q v1 H := at_join_vs (lv := lv) (ks := M12) mixed Try.func4 (join12_eq Q v1 H ▸ h)
def join21_vc (Q : AVal → Heap → Prop) (v1 : AVal) (H : Heap) : Prop :=
ACalls Try.prog 29 [v1] H fun x1 H2 =>
EXTK x1 0 fun x3 =>
EXTK x1 1 fun x4 =>
ACalls Try.prog 30 [x3, x4] H2 fun x5 H6 =>
EXTK x5 0 fun x7 =>
EXTK x5 1 fun x8 =>
ACalls Try.prog 31 [x3, x4] H6 fun x9 H10 =>
EXTK x9 0 fun x11 =>
EXTK x9 1 fun x12 =>
EQB .neq x8 x12 fun x13 =>
SPL x13 (Q (AVal.bool false) H10) (EQB .neq x7 x11 fun x14 =>
BRK x14 (Q (AVal.bool false) H10) (BRK x8 (ACalls Try.prog 32 [x3] H10 fun x15 H16 =>
EXTK x15 0 fun x17 =>
EXTK x15 1 fun x18 =>
ACalls Try.prog 32 [x4] H16 fun x19 H20 =>
EXTK x19 0 fun x21 =>
EXTK x19 1 fun x22 =>
ACalls Try.prog 30 [x21, x17] H20 fun x23 H24 =>
EXTK x23 0 fun x25 =>
EXTK x23 1 fun x26 =>
ACalls Try.prog 30 [x4, x3] H24 fun x27 H28 =>
EXTK x27 0 fun x29 =>
EXTK x27 1 fun x30 =>
LENK x3 fun x31 =>
ACalls Try.prog 33 [x31] H28 fun x32 H33 =>
EXTK x32 0 fun x34 =>
EXTK x32 1 fun x35 =>
ACalls Try.prog 30 [x34, x3] H33 fun x36 H37 =>
EXTK x36 0 fun x38 =>
EXTK x36 1 fun x39 =>
LENK x3 fun x40 =>
ACalls Try.prog 34 [x40] H37 fun x41 H42 =>
EXTK x41 0 fun x43 =>
EXTK x41 1 fun x44 =>
ACalls Try.prog 30 [x3, x43] H42 fun x45 H46 =>
EXTK x45 0 fun x47 =>
EXTK x45 1 fun x48 =>
SPL x18 (SPL x22 (SPL x26 (EQB .eql x25 x7 fun x49 =>
SPL x49 (SPL x30 (SPL x7 (ACalls Try.prog 12 [x3, x4] H46 fun x50 H51 =>
EQB .eql x29 x50 fun x52 =>
SPL x52 (SPL x35 (SPL x39 (SPL x38 (SPL x44 (SPL x48 (Q x47 H51) (Q (AVal.bool false) H51)) (Q (AVal.bool false) H51)) (Q (AVal.bool false) H51)) (Q (AVal.bool false) H51)) (Q (AVal.bool false) H51)) (Q (AVal.bool false) H51)) (ACalls Try.prog 12 [x3, x4] H46 fun x53 H54 =>
EQB .eql (AVal.bool false) x53 fun x55 =>
SPL x55 (SPL x35 (SPL x39 (SPL x38 (SPL x44 (SPL x48 (Q x47 H54) (Q (AVal.bool false) H54)) (Q (AVal.bool false) H54)) (Q (AVal.bool false) H54)) (Q (AVal.bool false) H54)) (Q (AVal.bool false) H54)) (Q (AVal.bool false) H54))) (Q (AVal.bool false) H46)) (Q (AVal.bool false) H46)) (Q (AVal.bool false) H46)) (Q (AVal.bool false) H46)) (Q (AVal.bool false) H46)) (Q (AVal.bool true) H10)))
theorem join21_eq (Q : AVal → Heap → Prop) (v1 : AVal) (H : Heap) : vs Try.prog lv 4 246 Try.f4.results.toList Q true 1000 M21 (slotsOf [(1, v1)]) H = join21_vc Q v1 H := by kernel_rfl
theorem join21 {Q : AVal → Heap → Prop} {v1 : AVal} {H : Heap} (h : join21_vc Q v1 H) : J21 Q v1 H := at_join_vs (lv := lv) (ks := M21) mixed Try.func4 (join21_eq Q v1 H ▸ h)
end laws_FnHeightsAreMatrices


theorem rEXT0 {a : AVal} {l : List AVal} {K : AVal → Prop} (h : K a) : EXTK (.tup (a :: l)) 0 K := ⟨_, rfl, h⟩
theorem rEXT1 {a b : AVal} {l : List AVal} {K : AVal → Prop} (h : K b) : EXTK (.tup (a :: b :: l)) 1 K := ⟨_, rfl, h⟩
theorem rEXT2 {a b c : AVal} {l : List AVal} {K : AVal → Prop} (h : K c) : EXTK (.tup (a :: b :: c :: l)) 2 K := ⟨_, rfl, h⟩
theorem rNEB {a b : Bool} {K : AVal → Prop} (h : K (.bool (a != b))) : EQB .neq (.bool a) (.bool b) K := h
theorem rEQB {a b : Bool} {K : AVal → Prop} (h : K (.bool (a == b))) : EQB .eql (.bool a) (.bool b) K := h
theorem rSPt {b : Bool} {X Y : Prop} (hb : b = true) (h : X) : SPL (.bool b) X Y := rSPLb (fun _ => h) (fun h' => by rw [hb] at h'; cases h')
theorem rSPf {b : Bool} {X Y : Prop} (hb : b = false) (h : Y) : SPL (.bool b) X Y := rSPLb (fun h' => by rw [hb] at h'; cases h') (fun _ => h)
theorem rBRt {b : Bool} {X Y : Prop} (hb : b = true) (h : X) : BRK (.bool b) X Y := rBRKb (fun _ => h) (fun h' => by rw [hb] at h'; cases h')
theorem rBRf {b : Bool} {X Y : Prop} (hb : b = false) (h : Y) : BRK (.bool b) X Y := rBRKb (fun h' => by rw [hb] at h'; cases h') (fun _ => h)

section
variable {code more : List Int} {u v : AVal} {H : Heap}
theorem height_tail2 (hv : IsSl IsB v more) (hl : more.length ≤ 1099511627776) : laws_FnHeightsAreMatrices.J21 (True1 H) v H := by
  apply laws_FnHeightsAreMatrices.join21
  unfold laws_FnHeightsAreMatrices.join21_vc
  refine ACalls.mono (drawIsBelow_ok hv hl) ?_
  rintro r H1 ⟨⟨a, b, va, vb, rfl, ha, hb', sa, sb⟩, rfl⟩
  refine rEXT0 (rEXT1 ?_)
  have la : a.length ≤ 100000 := by have := sa.1; omega
  have lb : b.length ≤ 100000 := by have := sb.1; omega
  have ra : ∀ r ∈ a, r.length ≤ 1000000 := fun r h => by have := sa.2 r h; omega
  have rb : ∀ r ∈ b, r.length ≤ 1000000 := fun r h => by have := sb.2 r h; omega
  refine ACalls.mono (impl_IsBelow_ok ha hb' la lb) ?_
  rintro r2 H2 ⟨rfl, rfl⟩
  refine rEXT0 (rEXT1 ?_)
  refine ACalls.mono (spec_IsBelow_ok ha hb' la lb ra rb) ?_
  rintro r2 H3 ⟨rfl, rfl⟩
  refine rEXT0 (rEXT1 ?_)
  refine rNEB (rSPf (by simp) (rNEB (rBRf (by simp) ?_)))
  refine rBRKb (fun hp => ?_) (fun _ => ⟨rfl, rfl⟩)
  have hp' := hp
  simp only [pairB, Bool.and_eq_true, decide_eq_true_eq] at hp'
  obtain ⟨ga, gb, hab⟩ := hp'
  have Ga := goodB_iff.1 ga
  have Gb := goodB_iff.1 gb
  rw [← hab] at Gb
  rw [hp]
  simp only [cond_true]
  refine ACalls.mono (dualOf_ok ha la) ?_
  rintro r4 H4 ⟨⟨x, rfl, hx⟩, rfl⟩
  rw [ga, cond_true] at hx
  refine rEXT0 (rEXT1 ?_)
  refine ACalls.mono (dualOf_ok hb' lb) ?_
  rintro r4 H5 ⟨⟨y, rfl, hy⟩, rfl⟩
  rw [gb, cond_true] at hy
  refine rEXT0 (rEXT1 ?_)
  have Mx := mir_good Ga
  have My := mir_good Gb
  have p1 : pairB (mirF b) (mirF a) = true := by
    unfold pairB; rw [goodB_of My, goodB_of Mx, My.len, Mx.len]; simp
  refine ACalls.mono (impl_IsBelow_ok hy hx (by rw [My.len]; omega) (by rw [Mx.len]; omega)) ?_
  rintro r6 H6 ⟨rfl, rfl⟩
  refine rEXT0 (rEXT1 ?_)
  rw [p1, cond_true, below_mir Ga Gb]
  have p2 : pairB b a = true := by unfold pairB; rw [ga, gb, hab]; simp
  refine ACalls.mono (impl_IsBelow_ok hb' ha lb la) ?_
  rintro r7 H7 ⟨rfl, rfl⟩
  refine rEXT0 (rEXT1 ?_)
  rw [p2, cond_true]
  refine rLEN ha ?_
  refine ACalls.mono leastSigns_ok ?_
  rintro r8 H8 ⟨⟨z, rfl, hz⟩, rfl⟩
  have hn : decide (1 ≤ (a.length : Int) ∧ (a.length : Int) ≤ 6) = true := by
    have := Ga.n1; have := Ga.n6
    exact decide_eq_true (by omega)
  rw [hn, cond_true, Int.toNat_natCast] at hz
  rw [hn]
  refine rEXT0 (rEXT1 ?_)
  have GL := least_good Ga.n1 Ga.n6
  have p3 : pairB (leastF a.length) a = true := by unfold pairB; rw [goodB_of GL, ga, GL.len]; simp
  refine ACalls.mono (impl_IsBelow_ok hz ha (by rw [GL.len]; omega) la) ?_
  rintro r9 H9 ⟨rfl, rfl⟩
  refine rEXT0 (rEXT1 ?_)
  rw [p3, cond_true, least_below Ga]
  refine rLEN ha ?_
  refine ACalls.mono greatestSigns_ok ?_
  rintro r8 H10 ⟨⟨z2, rfl, hz2⟩, rfl⟩
  rw [hn, cond_true, Int.toNat_natCast] at hz2
  rw [hn]
  refine rEXT0 (rEXT1 ?_)
  have GM := mir_good GL
  have p4 : pairB a (mirF (leastF a.length)) = true := by unfold pairB; rw [goodB_of GM, ga, GM.len]; simp
  refine ACalls.mono (impl_IsBelow_ok ha hz2 la (by rw [GM.len]; omega)) ?_
  rintro r9 H11 ⟨rfl, rfl⟩
  refine rEXT0 (rEXT1 ?_)
  rw [p4, cond_true, below_most Ga]
  rw [ga, gb]
  refine rSPt rfl (rSPt rfl (rSPt rfl (rEQB (rSPt (by simp) (rSPt rfl ?_)))))
  have anti := below_anti Ga Gb
  refine rSPLb (fun h1 => ?_) (fun h1 => ?_)
  · refine ACalls.mono (hRows_ok ha hb' (by omega) ra) ?_
    rintro r10 H12 ⟨rfl, rfl⟩
    have : (isBelowB b a == decide (a = b)) = true := by
      rw [beq_iff_eq, Bool.eq_iff_iff, decide_eq_true_eq, ← anti]
      exact ⟨fun h => ⟨h1, h⟩, fun h => h.2⟩
    refine rEQB (rSPt this (rSPt rfl (rSPt rfl (rSPt rfl (rSPt rfl (rSPt rfl ⟨rfl, rfl⟩))))))
  · refine ACalls.mono (hRows_ok ha hb' (by omega) ra) ?_
    rintro r10 H12 ⟨rfl, rfl⟩
    have : (false == decide (a = b)) = true := by
      rw [beq_iff_eq]
      symm
      rw [decide_eq_false_iff_not, ← anti]
      exact fun h => by rw [h1] at h; cases h.1
    refine rEQB (rSPt this (rSPt rfl (rSPt rfl (rSPt rfl (rSPt rfl (rSPt rfl ⟨rfl, rfl⟩))))))
theorem height_tail1 (hv : IsSl IsB v more) (hl : more.length ≤ 1099511627776) : laws_FnHeightsAreMatrices.J12 (True1 H) v H := by
  apply laws_FnHeightsAreMatrices.join12
  unfold laws_FnHeightsAreMatrices.join12_vc
  refine ACalls.mono (drawFromHeights_ok hv hl) ?_
  rintro r H1 ⟨⟨t, ht, tl, tr⟩, rfl⟩
  have lt : t.length ≤ 100000 := by omega
  have rt : ∀ r ∈ t, r.length ≤ 1000000 := fun r h => by have := tr r h; omega
  refine ACalls.mono (fromHeightsOf_ok ht lt) ?_
  rintro r2 H2 ⟨⟨x, rfl, hx⟩, rfl⟩
  refine rEXT0 (rEXT1 ?_)
  refine ACalls.mono (specFromHeights_ok ht lt rt) ?_
  rintro r2 H3 ⟨⟨y, rfl, hy⟩, rfl⟩
  refine rEXT0 (rEXT1 ?_)
  rw [heGood_eq] at hy ⊢
  refine rNEB (rSPf (by simp) ?_)
  have hxy : (bif heightsB t then heFromF t else []) = (bif heightsB t then fromHeightsF t else []) := by
    cases h : heightsB t with
    | true => rw [cond_true, cond_true, from_eq h]
    | false => rfl
  rw [hxy] at hy
  have hxl : (bif heightsB t then fromHeightsF t else []).length ≤ 1000000 := by
    cases heightsB t with
    | true => simp only [cond_true, fromHeightsF, tabT_len]; omega
    | false => simp
  have hxr : ∀ r ∈ (bif heightsB t then fromHeightsF t else []), r.length ≤ 1000000 := by
    cases heightsB t with
    | true =>
      simp only [cond_true, fromHeightsF]
      intro r hr
      rw [tabT_sq r hr]; omega
    | false => simp
  refine ACalls.mono (hRows_ok hx hy hxl hxr) ?_
  rintro r4 H4 ⟨rfl, rfl⟩
  refine rNOT (rSPf (by simp) ?_)
  refine ACalls.mono (areHeights_ok ht lt) ?_
  rintro r4 H5 ⟨rfl, rfl⟩
  refine rNEB (rSPf (by simp) ?_)
  refine ACalls.mono (specAreHeights_ok ht lt rt) ?_
  rintro r4 H6 ⟨rfl, rfl⟩
  rw [heGood_eq]
  refine rNEB (rBRf (by simp) ?_)
  refine rBRKb (fun hg => ?_) (fun _ => height_tail2 hv hl)
  rw [hg, cond_true] at hx hxl
  obtain ⟨n, m, Gm, rfl⟩ := heightsB_iff.1 hg
  rw [fromHeights_good Gm] at hx hxl
  refine ACalls.mono (heightsOf_ok hx (by rw [Gm.len]; have := Gm.n6; omega)) ?_
  rintro r5 H7 ⟨⟨z, rfl, hz⟩, rfl⟩
  rw [goodB_of Gm, cond_true] at hz
  rw [goodB_of Gm]
  refine rEXT0 (rEXT1 (rNOT (rSPf rfl ?_)))
  refine ACalls.mono (hRows_ok hz ht (by omega) rt) ?_
  rintro r4 H8 ⟨rfl, rfl⟩
  refine rNOT (rBRf (by simp) (height_tail2 hv hl))
theorem heights_law (hu : IsSl IsB u code) (hul : code.length ≤ 9223372036854775807) (hv : IsSl IsB v more) (hl : more.length ≤ 9223372036854775807) :
    ACalls Try.prog 4 [u, v] H (True1 H) := by
  apply laws_FnHeightsAreMatrices.start
  unfold laws_FnHeightsAreMatrices.start_vc
  refine ACalls.mono (big_ok hu hv hul hl) ?_
  rintro r H1 ⟨rfl, rfl⟩
  refine rBRK (fun _ => ⟨rfl, rfl⟩) (fun hbig => ?_)
  have hul : code.length ≤ 1099511627776 := by omega
  have hl : more.length ≤ 1099511627776 := by omega
  refine ACalls.mono (drawHeights_ok hu hul) ?_
  rintro r H1 ⟨⟨m, hm, ml, mr⟩, rfl⟩
  have lm : m.length ≤ 100000 := by omega
  have rm : ∀ r ∈ m, r.length ≤ 1000000 := fun r h => by have := mr r h; omega
  refine ACalls.mono (heightsOf_ok hm lm) ?_
  rintro r2 H2 ⟨⟨x, rfl, hx⟩, rfl⟩
  refine rEXT0 (rEXT1 ?_)
  refine ACalls.mono (specHeightsOf_ok hm lm rm) ?_
  rintro r2 H3 ⟨⟨y, rfl, hy⟩, rfl⟩
  refine rEXT0 (rEXT1 ?_)
  refine rNEB (rSPf (by simp) ?_)
  have hxl : (bif goodB m then heightsF m else []).length ≤ 100000 := by
    cases goodB m with
    | true => simp only [cond_true, heights_len]; omega
    | false => simp
  have hxr : ∀ r ∈ (bif goodB m then heightsF m else []), r.length ≤ 1000000 := by
    cases goodB m with
    | true =>
      simp only [cond_true]
      intro r hr
      rw [heights_sq hr]; omega
    | false => simp
  refine ACalls.mono (hRows_ok hx hy (by omega) hxr) ?_
  rintro r4 H4 ⟨rfl, rfl⟩
  refine rNOT (rBRf (by simp) ?_)
  refine rBRKb (fun hg => ?_) (fun _ => height_tail1 hv hl)
  rw [hg, cond_true] at hx hxl
  have Gm := goodB_iff.1 hg
  have hB : heightsB (heightsF m) = true := heightsB_iff.2 ⟨_, m, Gm, rfl⟩
  refine ACalls.mono (fromHeightsOf_ok hx hxl) ?_
  rintro r5 H5 ⟨⟨z, rfl, hz⟩, rfl⟩
  rw [hB, cond_true, fromHeights_good Gm] at hz
  rw [hB]
  refine rEXT0 (rEXT1 (rNOT (rSPf rfl ?_)))
  refine ACalls.mono (hRows_ok hz hm (by omega) rm) ?_
  rintro r6 H6 ⟨rfl, rfl⟩
  refine rNOT (rSPf (by simp) ?_)
  refine ACalls.mono (areHeights_ok hx hxl) ?_
  rintro r7 H7 ⟨rfl, rfl⟩
  rw [hB]
  exact rNOT (rBRf rfl (height_tail1 hv hl))
end

end Go.Proofs.Ytccioplhchmilaa.AL
