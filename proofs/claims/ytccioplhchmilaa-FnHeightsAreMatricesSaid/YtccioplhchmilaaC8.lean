/-
  Contracts: drawn sign matrices.
-/
import Derived.Test.YtccioplhchmilaaC7
set_option linter.unusedVariables false
set_option maxRecDepth 100000
namespace Go.Proofs.Ytccioplhchmilaa.AL
open Go Go.Proofs

/-! (*spec.l1Cur).sure (slots: 0 c, 1 n, 2 c, 3 n, 5 corners, 6 i, 7 j, 8 k, 9 i, 10 j, 11 step) -/
namespace spec_l1Cur_sure
def lv : List (Nat × List Nat) := [(3, [0, 1, 5, 15, 16]), (6, [0, 1, 5, 6, 15, 16, 20, 21]), (12, [0, 1, 5, 8])]
noncomputable def K3 : List KF := [.lp (cB (cB (cR (cL (cR (cR (bodyOf Try.f101))))))), .bl 0, .sq (cR (cR (cR (bodyOf Try.f101))))]
def L3 (Q : AVal → Heap → Prop) (v0 v1 v5 v15 v16 : AVal) (H : Heap) : Prop := At Try.prog 101 88 K3 Q (slotsOf [(0, v0), (1, v1), (5, v5), (15, v15), (16, v16)]) H
theorem L3_frz {Q : AVal → Heap → Prop} {v0 v1 v5 v15 v16 w0 w1 w5 w15 w16 : AVal} {H Hf Hk : Heap} {k : Nat} (hs : Split H Hf Hk) (hp : PurL Hf k [(0, v0, w0), (1, v1, w1), (5, v5, w5), (15, v15, w15), (16, v16, w16)]) (h : L3 Q w0 w1 w5 w15 w16 Hk) : L3 Q v0 v1 v5 v15 v16 H := at_frz (ks := K3) hs hp h
noncomputable def K6 : List KF := [.lp (cB (cB (cR (cR (cB (cL (cR (cR (cB (cB (cR (cL (cR (cR (bodyOf Try.f101))))))))))))))), .bl 2, .bl 1, .sq (cR (cR (cR (cB (cB (cR (cL (cR (cR (bodyOf Try.f101)))))))))), .lp (cB (cB (cR (cL (cR (cR (bodyOf Try.f101))))))), .bl 0, .sq (cR (cR (cR (bodyOf Try.f101))))]
def L6 (Q : AVal → Heap → Prop) (v0 v1 v5 v6 v15 v16 v20 v21 : AVal) (H : Heap) : Prop := At Try.prog 101 88 K6 Q (slotsOf [(0, v0), (1, v1), (5, v5), (6, v6), (15, v15), (16, v16), (20, v20), (21, v21)]) H
theorem L6_frz {Q : AVal → Heap → Prop} {v0 v1 v5 v6 v15 v16 v20 v21 w0 w1 w5 w6 w15 w16 w20 w21 : AVal} {H Hf Hk : Heap} {k : Nat} (hs : Split H Hf Hk) (hp : PurL Hf k [(0, v0, w0), (1, v1, w1), (5, v5, w5), (6, v6, w6), (15, v15, w15), (16, v16, w16), (20, v20, w20), (21, v21, w21)]) (h : L6 Q w0 w1 w5 w6 w15 w16 w20 w21 Hk) : L6 Q v0 v1 v5 v6 v15 v16 v20 v21 H := at_frz (ks := K6) hs hp h
noncomputable def K12 : List KF := [.lp (cB (cB (cR (cL (cR (cR (cR (bodyOf Try.f101)))))))), .bl 4, .sq (cR (cR (cR (cR (bodyOf Try.f101)))))]
def L12 (Q : AVal → Heap → Prop) (v0 v1 v5 v8 : AVal) (H : Heap) : Prop := At Try.prog 101 88 K12 Q (slotsOf [(0, v0), (1, v1), (5, v5), (8, v8)]) H
theorem L12_frz {Q : AVal → Heap → Prop} {v0 v1 v5 v8 w0 w1 w5 w8 : AVal} {H Hf Hk : Heap} {k : Nat} (hs : Split H Hf Hk) (hp : PurL Hf k [(0, v0, w0), (1, v1, w1), (5, v5, w5), (8, v8, w8)]) (h : L12 Q w0 w1 w5 w8 Hk) : L12 Q v0 v1 v5 v8 H := at_frz (ks := K12) hs hp h
def start_vc (Q : AVal → Heap → Prop) (a0 a1 : AVal) (H : Heap) : Prop :=
ACalls Try.prog 123 [a1] H fun x1 H2 =>
LENK x1 fun x3 =>
spec_l1Cur_sure.L3 Q a0 a1 x1 x3 (AVal.int .i64 0) H2
theorem start_eq (Q : AVal → Heap → Prop) (a0 a1 : AVal) (H : Heap) : vs Try.prog lv 101 88 Try.f101.results.toList Q true 1000 [.sq (bodyOf Try.f101)] (entry [a0, a1]) H = start_vc Q a0 a1 H := by kernel_rfl
theorem start {Q : AVal → Heap → Prop} {a0 a1 : AVal} {H : Heap} (h : start_vc Q a0 a1 H) : ACalls Try.prog 101 [a0, a1] H Q := acalls_vs (lv := lv) mixed Try.func101 rfl (by kernel_rfl) (by kernel_rfl) (start_eq Q a0 a1 H ▸ h)
def step3_vc (Q : AVal → Heap → Prop) (v0 v1 v5 v15 v16 : AVal) (H : Heap) : Prop :=
BINK .lss v16 v15 fun x1 =>
BRK x1 (LENK v5 fun x2 =>
spec_l1Cur_sure.L6 Q v0 v1 v5 v16 v15 v16 x2 (AVal.int .i64 0) H) (BINK .mul (AVal.int .i64 3) v1 fun x3 =>
BINK .mul x3 v1 fun x4 =>
ACalls Try.prog 68 [v0, x4] H fun x5 H6 =>
spec_l1Cur_sure.L12 Q v0 v1 v5 x5 H6)
theorem step3_eq (Q : AVal → Heap → Prop) (v0 v1 v5 v15 v16 : AVal) (H : Heap) : vs Try.prog lv 101 88 Try.f101.results.toList Q true 1000 (.sq (cB (cB (cR (cL (cR (cR (bodyOf Try.f101))))))) :: K3) (slotsOf [(0, v0), (1, v1), (5, v5), (15, v15), (16, v16)]) H = step3_vc Q v0 v1 v5 v15 v16 H := by kernel_rfl
theorem step3 {Q : AVal → Heap → Prop} {v0 v1 v5 v15 v16 : AVal} {H : Heap} (h : step3_vc Q v0 v1 v5 v15 v16 H) : L3 Q v0 v1 v5 v15 v16 H := at_lp_vs (lv := lv) (ks := K3.tail) mixed Try.func101 (step3_eq Q v0 v1 v5 v15 v16 H ▸ h)
def step6_vc (Q : AVal → Heap → Prop) (v0 v1 v5 v6 v15 v16 v20 v21 : AVal) (H : Heap) : Prop :=
BINK .lss v21 v20 fun x1 =>
BRK x1 (TT ∧ TT ∧ IXK 1 v5 v6 fun x2 =>
TT ∧ TT ∧ LDK false 1 H x2 fun x3 =>
ACalls Try.prog 135 [v6, v21] H fun x4 H5 =>
(TT ∧ TT ∧ LDK false 1 H5 x2 fun x6 =>
x6 = x3) ∧
BINK .add x4 (AVal.int .i64 1) fun x7 =>
TT ∧ IXK 1 x3 v21 fun x8 =>
TT ∧ STK 1 H5 x8 x7 fun H9 =>
BINK .add v21 (AVal.int .i64 1) fun x10 =>
spec_l1Cur_sure.L6 Q v0 v1 v5 v6 v15 v16 v20 x10 H9) (BINK .add v16 (AVal.int .i64 1) fun x11 =>
spec_l1Cur_sure.L3 Q v0 v1 v5 v15 x11 H)
theorem step6_eq (Q : AVal → Heap → Prop) (v0 v1 v5 v6 v15 v16 v20 v21 : AVal) (H : Heap) : vs Try.prog lv 101 88 Try.f101.results.toList Q true 1000 (.sq (cB (cB (cR (cR (cB (cL (cR (cR (cB (cB (cR (cL (cR (cR (bodyOf Try.f101))))))))))))))) :: K6) (slotsOf [(0, v0), (1, v1), (5, v5), (6, v6), (15, v15), (16, v16), (20, v20), (21, v21)]) H = step6_vc Q v0 v1 v5 v6 v15 v16 v20 v21 H := by kernel_rfl
theorem step6 {Q : AVal → Heap → Prop} {v0 v1 v5 v6 v15 v16 v20 v21 : AVal} {H : Heap} (h : step6_vc Q v0 v1 v5 v6 v15 v16 v20 v21 H) : L6 Q v0 v1 v5 v6 v15 v16 v20 v21 H := at_lp_vs (lv := lv) (ks := K6.tail) mixed Try.func101 (step6_eq Q v0 v1 v5 v6 v15 v16 v20 v21 H ▸ h)
def step12_vc (Q : AVal → Heap → Prop) (v0 v1 v5 v8 : AVal) (H : Heap) : Prop :=
BINK .gtr v8 (AVal.int .i64 0) fun x1 =>
SPL x1 (BINK .gtr v1 (AVal.int .i64 1) fun x2 =>
BRK x2 (BINK .sub v1 (AVal.int .i64 1) fun x3 =>
ACalls Try.prog 68 [v0, x3] H fun x4 H5 =>
BINK .sub v1 (AVal.int .i64 1) fun x6 =>
ACalls Try.prog 68 [v0, x6] H5 fun x7 H8 =>
ACalls Try.prog 68 [v0, (AVal.int .i64 2)] H8 fun x9 H10 =>
BINK .mul (AVal.int .i64 2) x9 fun x11 =>
BINK .sub x11 (AVal.int .i64 1) fun x12 =>
TT ∧ IXK 1 v5 x4 fun x13 =>
TT ∧ TT ∧ LDK false 1 H10 x13 fun x14 =>
TT ∧ IXK 1 x14 x7 fun x15 =>
TT ∧ TT ∧ LDK false 1 H10 x15 fun x16 =>
BINK .add x16 x12 fun x17 =>
TT ∧ IXK 1 x14 x7 fun x18 =>
TT ∧ STK 1 H10 x18 x17 fun H19 =>
ACalls Try.prog 124 [v5] H19 fun x20 H21 =>
ACalls Try.prog 53 [x20] H21 fun x22 H23 =>
NOTK x22 fun x24 =>
BRK x24 (TT ∧ IXK 1 v5 x4 fun x25 =>
TT ∧ TT ∧ LDK false 1 H23 x25 fun x26 =>
TT ∧ IXK 1 x26 x7 fun x27 =>
TT ∧ TT ∧ LDK false 1 H23 x27 fun x28 =>
BINK .sub x28 x12 fun x29 =>
TT ∧ IXK 1 x26 x7 fun x30 =>
TT ∧ STK 1 H23 x30 x29 fun H31 =>
BINK .sub v8 (AVal.int .i64 1) fun x32 =>
spec_l1Cur_sure.L12 Q v0 v1 v5 x32 H31) (BINK .sub v8 (AVal.int .i64 1) fun x33 =>
spec_l1Cur_sure.L12 Q v0 v1 v5 x33 H23)) (ACalls Try.prog 124 [v5] H fun x34 H35 =>
Q x34 H35)) (ACalls Try.prog 124 [v5] H fun x36 H37 =>
Q x36 H37)
theorem step12_eq (Q : AVal → Heap → Prop) (v0 v1 v5 v8 : AVal) (H : Heap) : vs Try.prog lv 101 88 Try.f101.results.toList Q true 1000 (.sq (cB (cB (cR (cL (cR (cR (cR (bodyOf Try.f101)))))))) :: K12) (slotsOf [(0, v0), (1, v1), (5, v5), (8, v8)]) H = step12_vc Q v0 v1 v5 v8 H := by kernel_rfl
theorem step12 {Q : AVal → Heap → Prop} {v0 v1 v5 v8 : AVal} {H : Heap} (h : step12_vc Q v0 v1 v5 v8 H) : L12 Q v0 v1 v5 v8 H := at_lp_vs (lv := lv) (ks := K12.tail) mixed Try.func101 (step12_eq Q v0 v1 v5 v8 H ▸ h)
end spec_l1Cur_sure


/-- Blocks that were there are as they were, but the cursor's. -/
structure After (A : Int) (i g : Nat) (H H' : Heap) : Prop where
  len : H.length ≤ H'.length
  old : ∀ j, j < H.length → j ≠ i → hget H' j = hget H j
  cur : Cur A H' i g
  new : ∀ j g' cs, H.length ≤ j → hget H' j = some (g', cs) → IFrees cs = true
  lt : i < H.length
theorem Cur.lt {A : Int} {H : Heap} {i g : Nat} (h : Cur A H i g) : i < H.length := by
  obtain ⟨cv, code, a, s, h1, _⟩ := h
  exact hlt_of_get h1
theorem Cur.old {A : Int} {H H' : Heap} {i g : Nat} (h : Cur A H i g) (hh : hget H' i = hget H i) : Cur A H' i g := by
  obtain ⟨cv, code, a, s, h1, h2⟩ := h
  exact ⟨cv, code, a, s, hh.trans h1, h2⟩
theorem After.refl {A : Int} {H : Heap} {i g : Nat} (h : Cur A H i g) : After A i g H H :=
  ⟨Nat.le_refl _, fun _ _ _ => rfl, h, fun j g' cs hj hg => by have := hlt_of_get hg; omega, h.lt⟩
theorem After.le {A B : Int} {H H' : Heap} {i g : Nat} (h : After A i g H H') (hab : A ≤ B) : After B i g H H' := ⟨h.len, h.old, h.cur.le hab, h.new, h.lt⟩
theorem After.set {A B : Int} {H H' : Heap} {i g : Nat} {cs : List AVal} (h : After A i g H H') (hc : Cur B (hset H' i g cs) i g) : After B i g H (hset H' i g cs) :=
  ⟨by rw [hlen_set]; exact h.len, fun j hj hne => by rw [hget_set_ne _ _ (fun e => hne e.symm)]; exact h.old j hj hne, hc, fun j g' ds hj hg => by
    rw [hget_set_ne _ _ (by have := h.lt; omega)] at hg; exact h.new j g' ds hj hg, h.lt⟩
theorem After.fresh {A : Int} {H H' H2 : Heap} {i g : Nat} (h : After A i g H H') (hf : Fresh H' H2) : After A i g H H2 := by
  have hlt := h.lt
  have hl := h.len
  refine ⟨Nat.le_trans h.len hf.len, fun j hj hne => by rw [hf.old j (by omega)]; exact h.old j hj hne, h.cur.old (hf.old i (by omega)), fun j g' cs hj hg => ?_, h.lt⟩
  by_cases hjl : j < H'.length
  · rw [hf.old j hjl] at hg; exact h.new j g' cs hj hg
  · exact hf.new j g' cs (by omega) hg
theorem After.put {A : Int} {H H' : Heap} {i g k : Nat} (h : After A i g H H') (hk : H.length ≤ k) (g' : Nat) {cs : List AVal} (hc : IFrees cs = true) : After A i g H (hset H' k g' cs) := by
  have hlt := h.lt
  refine ⟨by rw [hlen_set]; exact h.len, fun j hj hne => by rw [hget_set_ne _ _ (by omega)]; exact h.old j hj hne, h.cur.old (hget_set_ne _ _ (by omega)), fun j g2 ds hj hg => ?_, h.lt⟩
  by_cases hkj : k = j
  · subst hkj
    have := hlt_of_get hg
    rw [hlen_set] at this
    rw [hget_set _ _ this] at hg
    cases hg; exact hc
  · rw [hget_set_ne _ _ hkj] at hg; exact h.new j g2 ds hj hg
theorem After.chg {A : Int} {H H' H2 : Heap} {i g lo : Nat} (h : After A i g H H') (hlo : H.length ≤ lo) (hc : Chg lo H' H2) : After A i g H H2 := by
  obtain ⟨g', cs, hf, rfl | ⟨j, hj, rfl⟩⟩ := hc
  · exact h.fresh (fresh_new H' g' hf)
  · exact h.put (Nat.le_trans hlo hj) g' hf
theorem After.trans {A B : Int} {H H1 H2 : Heap} {i g : Nat} (h : After A i g H H1) (k : After B i g H1 H2) : After B i g H H2 := by
  have hl := h.len
  refine ⟨Nat.le_trans h.len k.len, fun j hj hne => (k.old j (by omega) hne).trans (h.old j hj hne), k.cur, fun j g' cs hj hg => ?_, h.lt⟩
  by_cases hjl : j < H1.length
  · by_cases hji : j = i
    · have := h.lt; omega
    · rw [k.old j hjl hji] at hg; exact h.new j g' cs hj hg
  · exact k.new j g' cs (by omega) hg
/-- A table beside the cursor stays. -/
theorem IsOTab.step {A B : Int} {lo : Nat} {H H' : Heap} {i g : Nat} {v : AVal} {t : List (List Int)} (h : IsOTab lo H v t) (hi : i < lo) (ha : After B i g H H') : IsOTab lo H' v t :=
  h.frame fun j hj hl => ha.old j hl (by omega)

/-! ### Lending a table -/
theorem lend_otab {P : Program} {f : FuncId} {v v' : AVal} {H : Heap} {t : List (List Int)} (hp : Pur H 2 v v') (h : ∀ H, ACalls P f [v'] H fun r H' => IsOTab H.length H' r t ∧ Fresh H H') :
    ACalls P f [v] H fun r H' => IsOTab H.length H' r t ∧ Fresh H H' := by
  refine ACalls.lend (k := 2) (args' := [v']) ⟨v', [], rfl, hp, rfl⟩ ((h (dead H)).mono ?_)
  rintro r H1 ⟨h1, h2⟩
  rw [dead_length] at h1
  have hn : ∀ i g cs, hget H1 i = some (g, cs) → IFrees cs = true := by
    intro i g cs hi
    by_cases hl : i < H.length
    · rw [h2.old i (by rw [dead_length]; exact hl), hget_dead] at hi; cases hi
    · exact h2.new i g cs (by rw [dead_length]; omega) hi
  have hm : ∀ i, H.length ≤ i → hget (mrg H H1) i = hget H1 i := by
    intro i hi
    rw [hget_mrg]
    cases hb : Nat.blt i H.length with
    | false => rfl
    | true => have := blt_f hb; omega
  refine ⟨?_, hn, h1.frame fun i hi _ => hm i hi, ?_⟩
  · rcases h1 with ⟨rfl, _⟩ | ⟨k, g, rows, ks, rfl, _⟩ <;> rfl
  · have hl : H.length ≤ (mrg H H1).length := by simp [mrg]
    refine ⟨hl, fun i hi => by rw [hget_mrg, blt_t hi]; rfl, fun i g cs hi hg => ?_⟩
    rw [hm i hi] at hg; exact hn i g cs hg
theorem lend_flat {P : Program} {f : FuncId} {args args' : List AVal} {H : Heap} {Q0 : AVal → Prop} {k : Nat} (hp : All2 (Pur H k) args args') (hq : ∀ r, Q0 r → IFree r = true) (h : ∀ H, ACalls P f args' H fun r H' => Q0 r ∧ H' = H) :
    ACalls P f args H fun r H' => Q0 r ∧ H' = H := by
  refine ACalls.lend hp ((h (dead H)).mono ?_)
  rintro r H1 ⟨h1, rfl⟩
  exact ⟨hq r h1, (fun i g cs hi => by rw [hget_dead] at hi; cases hi), h1, mrg_dead H⟩

theorem sgGood_own {lo : Nat} {t : List (List Int)} {v : AVal} {H : Heap} (hv : IsOTab lo H v t) (hl : t.length ≤ 1000000) (hr : ∀ r ∈ t, r.length ≤ 1000000) : ACalls Try.prog 53 [v] H fun r H' => r = .bool (goodB t) ∧ H' = H := by
  obtain ⟨v', h1, h2⟩ := hv.pur (Hf := H) fun _ _ => rfl
  exact lend_flat (args' := [v']) (Q0 := fun r => r = .bool (goodB t)) ⟨v', [], rfl, h1, rfl⟩ (by rintro r rfl; rfl) fun H => sgGood_ok h2 hl hr
theorem sgFrom_own {lo : Nat} {t : List (List Int)} {v : AVal} {H : Heap} (hv : IsOTab lo H v t) (hl : t.length ≤ 1000000) (hs : isSquareB t = true) : ACalls Try.prog 124 [v] H fun r H' => IsOTab H.length H' r (fromT t) ∧ Fresh H H' := by
  obtain ⟨v', h1, h2⟩ := hv.pur (Hf := H) fun _ _ => rfl
  exact lend_otab h1 fun H => sgFrom_ok h2 hl hs
theorem fromT_len (c : List (List Int)) : (fromT c).length = c.length := by simp [fromT]
theorem fromT_sq (c : List (List Int)) : isSquareB (fromT c) = true := by
  simp only [isSquareB, List.all_eq_true, decide_eq_true_eq, fromT_len]
  intro r hr
  simp only [fromT, List.mem_map] at hr
  obtain ⟨i, _, rfl⟩ := hr
  simp [fromRow]

/-! ### Corner sums that are filled in -/
theorem sq_set {t : List (List Int)} (hs : isSquareB t = true) {i : Nat} {r r' : List Int} (hi : t[i]? = some r) (hl : r'.length = r.length) : isSquareB (t.set i r') = true := by
  simp only [isSquareB, List.all_eq_true, decide_eq_true_eq, List.length_set]
  intro s hs'
  rcases List.mem_or_eq_of_mem_set hs' with h | rfl
  · exact sq_len hs h
  · rw [hl]; exact sq_len hs (List.mem_of_getElem? hi)
theorem sure_in {A : Int} {n : Nat} (hn : n ≤ 6) {H0 : Heap} {ic gc : Nat} {Q : AVal → Heap → Prop} {k g : Nat} {rows : List AVal} {ks : List Nat} {i : Nat} (hi : i < n) {w15 w16 : AVal}
    (hq : ∀ (t : List (List Int)) (H : Heap), t.length = n → isSquareB t = true → OTab H0.length H k g rows ks t → After A ic gc H0 H → spec_l1Cur_sure.L6 Q (.ptr ic gc 0) (I n) (.own k g 1 0 n) (I i) w15 w16 (I n) (I n) H) :
    ∀ (m j : Nat) (t : List (List Int)) (H : Heap), j + m = n → t.length = n → isSquareB t = true → OTab H0.length H k g rows ks t → After A ic gc H0 H → spec_l1Cur_sure.L6 Q (.ptr ic gc 0) (I n) (.own k g 1 0 n) (I i) w15 w16 (I n) (I j) H := by
  intro m
  induction m with
  | zero =>
    intro j t H hj h1 h2 ho hA
    have : j = n := by omega
    subst this
    exact hq t H h1 h2 ho hA
  | succ m ih =>
    intro j t H hj h1 h2 ho hA
    obtain ⟨r, hr⟩ := ex_get (l := t) (k := i) (by omega)
    have hrl := sq_len h2 (List.mem_of_getElem? hr)
    obtain ⟨kj, gj, g1, g2, g3, g4, g5⟩ := ho.get hr
    apply spec_l1Cur_sure.step6
    unfold spec_l1Cur_sure.step6_vc
    repeat' (first
    | with_reducible refine rTT ?_
    | with_reducible refine rRFL ?_
    | with_reducible refine rLEN (by assumption) ?_
    | (with_reducible refine rIXk (by assumption) (by assumption) ?_; intro p hp)
    | (with_reducible refine rIX (by assumption) (by omega) (by omega) ?_; intro p a ha hp)
    | with_reducible refine rLDi (by assumption) ?_
    | (with_reducible refine rLD (by assumption) ?_; intro c hc)
    | with_reducible refine rADD (by omega) ?_
    | with_reducible refine rSUB (by omega) ?_
    | with_reducible refine rLSS ?_
    | with_reducible refine rLEQ ?_
    | with_reducible refine rGTR ?_
    | with_reducible refine rGEQ ?_
    | with_reducible refine rEQL ?_
    | with_reducible refine rNEQ ?_
    | with_reducible refine rNOT ?_
    | (with_reducible refine rBRK ?_ ?_ <;> intro hb)
    | (with_reducible refine rBRKn ?_ ?_ <;> intro hb)
    | (with_reducible refine rBRKnb ?_ ?_ <;> intro hb)
    | (with_reducible refine rBRKb ?_ ?_ <;> intro hb)
    | (with_reducible refine rSPL ?_ ?_ <;> intro hb)
    | (with_reducible refine rSPLn ?_ ?_ <;> intro hb)
    | (with_reducible refine rSPLnb ?_ ?_ <;> intro hb)
    | (with_reducible refine rSPLb ?_ ?_ <;> intro hb)
    | (exfalso; omega))
    refine rIXo hi ?_
    repeat' (first
    | with_reducible refine rTT ?_
    | with_reducible refine rRFL ?_
    | with_reducible refine rLEN (by assumption) ?_
    | (with_reducible refine rIXk (by assumption) (by assumption) ?_; intro p hp)
    | (with_reducible refine rIX (by assumption) (by omega) (by omega) ?_; intro p a ha hp)
    | with_reducible refine rLDi (by assumption) ?_
    | (with_reducible refine rLD (by assumption) ?_; intro c hc)
    | with_reducible refine rADD (by omega) ?_
    | with_reducible refine rSUB (by omega) ?_
    | with_reducible refine rLSS ?_
    | with_reducible refine rLEQ ?_
    | with_reducible refine rGTR ?_
    | with_reducible refine rGEQ ?_
    | with_reducible refine rEQL ?_
    | with_reducible refine rNEQ ?_
    | with_reducible refine rNOT ?_
    | (with_reducible refine rBRK ?_ ?_ <;> intro hb)
    | (with_reducible refine rBRKn ?_ ?_ <;> intro hb)
    | (with_reducible refine rBRKnb ?_ ?_ <;> intro hb)
    | (with_reducible refine rBRKb ?_ ?_ <;> intro hb)
    | (with_reducible refine rSPL ?_ ?_ <;> intro hb)
    | (with_reducible refine rSPLn ?_ ?_ <;> intro hb)
    | (with_reducible refine rSPLnb ?_ ?_ <;> intro hb)
    | (with_reducible refine rSPLb ?_ ?_ <;> intro hb)
    | (exfalso; omega))
    refine rLDf ho.top g2 ?_
    refine ACalls.mono l1Least_ok ?_
    rintro r1 H1 ⟨rfl, rfl⟩
    refine ⟨⟨rfl, rfl, rLDf ho.top g2 rfl⟩, ?_⟩
    generalize hx : (if (i : Int) < (j : Int) then (i : Int) else (j : Int)) = x
    have hx1 : x ≤ 1000000 := by rw [← hx]; split <;> omega
    have hx0 : 0 ≤ x := by rw [← hx]; split <;> omega
    repeat' (first
    | with_reducible refine rTT ?_
    | with_reducible refine rRFL ?_
    | with_reducible refine rLEN (by assumption) ?_
    | (with_reducible refine rIXk (by assumption) (by assumption) ?_; intro p hp)
    | (with_reducible refine rIX (by assumption) (by omega) (by omega) ?_; intro p a ha hp)
    | with_reducible refine rLDi (by assumption) ?_
    | (with_reducible refine rLD (by assumption) ?_; intro c hc)
    | with_reducible refine rADD (by omega) ?_
    | with_reducible refine rSUB (by omega) ?_
    | with_reducible refine rLSS ?_
    | with_reducible refine rLEQ ?_
    | with_reducible refine rGTR ?_
    | with_reducible refine rGEQ ?_
    | with_reducible refine rEQL ?_
    | with_reducible refine rNEQ ?_
    | with_reducible refine rNOT ?_
    | (with_reducible refine rBRK ?_ ?_ <;> intro hb)
    | (with_reducible refine rBRKn ?_ ?_ <;> intro hb)
    | (with_reducible refine rBRKnb ?_ ?_ <;> intro hb)
    | (with_reducible refine rBRKb ?_ ?_ <;> intro hb)
    | (with_reducible refine rSPL ?_ ?_ <;> intro hb)
    | (with_reducible refine rSPLn ?_ ?_ <;> intro hb)
    | (with_reducible refine rSPLnb ?_ ?_ <;> intro hb)
    | (with_reducible refine rSPLb ?_ ?_ <;> intro hb)
    | (exfalso; omega))
    refine rIXo (by omega) ?_
    repeat' (first
    | with_reducible refine rTT ?_
    | with_reducible refine rRFL ?_
    | with_reducible refine rLEN (by assumption) ?_
    | (with_reducible refine rIXk (by assumption) (by assumption) ?_; intro p hp)
    | (with_reducible refine rIX (by assumption) (by omega) (by omega) ?_; intro p a ha hp)
    | with_reducible refine rLDi (by assumption) ?_
    | (with_reducible refine rLD (by assumption) ?_; intro c hc)
    | with_reducible refine rADD (by omega) ?_
    | with_reducible refine rSUB (by omega) ?_
    | with_reducible refine rLSS ?_
    | with_reducible refine rLEQ ?_
    | with_reducible refine rGTR ?_
    | with_reducible refine rGEQ ?_
    | with_reducible refine rEQL ?_
    | with_reducible refine rNEQ ?_
    | with_reducible refine rNOT ?_
    | (with_reducible refine rBRK ?_ ?_ <;> intro hb)
    | (with_reducible refine rBRKn ?_ ?_ <;> intro hb)
    | (with_reducible refine rBRKnb ?_ ?_ <;> intro hb)
    | (with_reducible refine rBRKb ?_ ?_ <;> intro hb)
    | (with_reducible refine rSPL ?_ ?_ <;> intro hb)
    | (with_reducible refine rSPLn ?_ ?_ <;> intro hb)
    | (with_reducible refine rSPLnb ?_ ?_ <;> intro hb)
    | (with_reducible refine rSPLb ?_ ?_ <;> intro hb)
    | (exfalso; omega))
    refine rSTp g3 (by simp; omega) rfl ?_
    repeat' (first
    | with_reducible refine rTT ?_
    | with_reducible refine rRFL ?_
    | with_reducible refine rLEN (by assumption) ?_
    | (with_reducible refine rIXk (by assumption) (by assumption) ?_; intro p hp)
    | (with_reducible refine rIX (by assumption) (by omega) (by omega) ?_; intro p a ha hp)
    | with_reducible refine rLDi (by assumption) ?_
    | (with_reducible refine rLD (by assumption) ?_; intro c hc)
    | with_reducible refine rADD (by omega) ?_
    | with_reducible refine rSUB (by omega) ?_
    | with_reducible refine rLSS ?_
    | with_reducible refine rLEQ ?_
    | with_reducible refine rGTR ?_
    | with_reducible refine rGEQ ?_
    | with_reducible refine rEQL ?_
    | with_reducible refine rNEQ ?_
    | with_reducible refine rNOT ?_
    | (with_reducible refine rBRK ?_ ?_ <;> intro hb)
    | (with_reducible refine rBRKn ?_ ?_ <;> intro hb)
    | (with_reducible refine rBRKnb ?_ ?_ <;> intro hb)
    | (with_reducible refine rBRKb ?_ ?_ <;> intro hb)
    | (with_reducible refine rSPL ?_ ?_ <;> intro hb)
    | (with_reducible refine rSPLn ?_ ?_ <;> intro hb)
    | (with_reducible refine rSPLnb ?_ ?_ <;> intro hb)
    | (with_reducible refine rSPLb ?_ ?_ <;> intro hb)
    | (exfalso; omega))
    have hset1 : (r.map I).set j (I (x + 1)) = (r.set j (x + 1)).map I := by rw [List.map_set]
    rw [hset1]
    refine ih (j + 1) (t.set i (r.set j (x + 1))) _ (by omega) (by simpa using h1) (sq_set h2 hr (by simp)) (ho.put hr g1 g3 (by simp)) (hA.put g4 _ (ifrees_map _))

theorem sure_fill {A : Int} {n : Nat} (hn : n ≤ 6) {H0 : Heap} {ic gc : Nat} {Q : AVal → Heap → Prop} {k g : Nat} {rows : List AVal} {ks : List Nat}
    (hq : ∀ (t : List (List Int)) (H : Heap), t.length = n → isSquareB t = true → OTab H0.length H k g rows ks t → After A ic gc H0 H → spec_l1Cur_sure.L3 Q (.ptr ic gc 0) (I n) (.own k g 1 0 n) (I n) (I n) H) :
    ∀ (m i : Nat) (t : List (List Int)) (H : Heap), i + m = n → t.length = n → isSquareB t = true → OTab H0.length H k g rows ks t → After A ic gc H0 H → spec_l1Cur_sure.L3 Q (.ptr ic gc 0) (I n) (.own k g 1 0 n) (I n) (I i) H := by
  intro m
  induction m with
  | zero =>
    intro i t H hi h1 h2 ho hA
    have : i = n := by omega
    subst this
    exact hq t H h1 h2 ho hA
  | succ m ih =>
    intro i t H hi h1 h2 ho hA
    apply spec_l1Cur_sure.step3
    unfold spec_l1Cur_sure.step3_vc
    repeat' (first
    | with_reducible refine rTT ?_
    | with_reducible refine rRFL ?_
    | with_reducible refine rLEN (by assumption) ?_
    | (with_reducible refine rIXk (by assumption) (by assumption) ?_; intro p hp)
    | (with_reducible refine rIX (by assumption) (by omega) (by omega) ?_; intro p a ha hp)
    | with_reducible refine rLDi (by assumption) ?_
    | (with_reducible refine rLD (by assumption) ?_; intro c hc)
    | with_reducible refine rADD (by omega) ?_
    | with_reducible refine rSUB (by omega) ?_
    | with_reducible refine rLSS ?_
    | with_reducible refine rLEQ ?_
    | with_reducible refine rGTR ?_
    | with_reducible refine rGEQ ?_
    | with_reducible refine rEQL ?_
    | with_reducible refine rNEQ ?_
    | with_reducible refine rNOT ?_
    | (with_reducible refine rBRK ?_ ?_ <;> intro hb)
    | (with_reducible refine rBRKn ?_ ?_ <;> intro hb)
    | (with_reducible refine rBRKnb ?_ ?_ <;> intro hb)
    | (with_reducible refine rBRKb ?_ ?_ <;> intro hb)
    | (with_reducible refine rSPL ?_ ?_ <;> intro hb)
    | (with_reducible refine rSPLn ?_ ?_ <;> intro hb)
    | (with_reducible refine rSPLnb ?_ ?_ <;> intro hb)
    | (with_reducible refine rSPLb ?_ ?_ <;> intro hb)
    | (exfalso; omega))
    show spec_l1Cur_sure.L6 Q _ _ _ _ _ _ (I n) _ _
    refine sure_in hn (i := i) (by omega) (fun t' H' g1 g2 g3 g4 => ?_) n 0 t H (by omega) h1 h2 ho hA
    apply spec_l1Cur_sure.step6
    unfold spec_l1Cur_sure.step6_vc
    repeat' (first
    | with_reducible refine rTT ?_
    | with_reducible refine rRFL ?_
    | with_reducible refine rLEN (by assumption) ?_
    | (with_reducible refine rIXk (by assumption) (by assumption) ?_; intro p hp)
    | (with_reducible refine rIX (by assumption) (by omega) (by omega) ?_; intro p a ha hp)
    | with_reducible refine rLDi (by assumption) ?_
    | (with_reducible refine rLD (by assumption) ?_; intro c hc)
    | with_reducible refine rADD (by omega) ?_
    | with_reducible refine rSUB (by omega) ?_
    | with_reducible refine rLSS ?_
    | with_reducible refine rLEQ ?_
    | with_reducible refine rGTR ?_
    | with_reducible refine rGEQ ?_
    | with_reducible refine rEQL ?_
    | with_reducible refine rNEQ ?_
    | with_reducible refine rNOT ?_
    | (with_reducible refine rBRK ?_ ?_ <;> intro hb)
    | (with_reducible refine rBRKn ?_ ?_ <;> intro hb)
    | (with_reducible refine rBRKnb ?_ ?_ <;> intro hb)
    | (with_reducible refine rBRKb ?_ ?_ <;> intro hb)
    | (with_reducible refine rSPL ?_ ?_ <;> intro hb)
    | (with_reducible refine rSPLn ?_ ?_ <;> intro hb)
    | (with_reducible refine rSPLnb ?_ ?_ <;> intro hb)
    | (with_reducible refine rSPLb ?_ ?_ <;> intro hb)
    | (exfalso; omega))
    exact ih (i + 1) t' H' (by omega) g1 g2 g3 g4

theorem IsOTab.lo {a b : Nat} {H : Heap} {v : AVal} {t : List (List Int)} (h : IsOTab b H v t) (hab : a ≤ b) : IsOTab a H v t := by
  rcases h with h | ⟨k, g, rows, ks, hv, h⟩
  · exact .inl h
  · refine .inr ⟨k, g, rows, ks, hv, h.top, Nat.le_trans hab h.lok, h.len, h.kln, h.nd, fun j r kj h1 h2 => ?_⟩
    obtain ⟨gj, h3, h4, h5⟩ := h.row j r kj h1 h2
    exact ⟨gj, h3, h4, Nat.le_trans hab h5⟩
def Sure (A : Int) (n : Nat) (ic gc : Nat) (H0 : Heap) (r : AVal) (H : Heap) : Prop := ∃ t, IsOTab H0.length H r t ∧ t.length = n ∧ isSquareB t = true ∧ After A ic gc H0 H
theorem sure_end {A B : Int} {n : Nat} (hn : n ≤ 6) {H0 H : Heap} {ic gc k g : Nat} {rows : List AVal} {ks : List Nat} {t : List (List Int)} (h1 : t.length = n) (h2 : isSquareB t = true) (ho : OTab H0.length H k g rows ks t) (hA : After B ic gc H0 H) (hB : B ≤ A) :
    ACalls Try.prog 124 [.own k g 1 0 n] H (Sure A n ic gc H0) := by
  refine ACalls.mono (sgFrom_own (lo := H0.length) (t := t) (.inr ⟨k, g, rows, ks, by rw [h1], ho⟩) (by omega) h2) ?_
  rintro r H' ⟨h3, h4⟩
  exact ⟨fromT t, h3.lo hA.len, by rw [fromT_len]; exact h1, fromT_sq t, (hA.fresh h4).le hB⟩
theorem OTab.is {lo : Nat} {H : Heap} {k g n : Nat} {rows : List AVal} {ks : List Nat} {t : List (List Int)} (ho : OTab lo H k g rows ks t) (h : t.length = n) : IsOTab lo H (.own k g 1 0 n) t := .inr ⟨k, g, rows, ks, by rw [h], ho⟩
theorem After.draw {A B : Int} {i g : Nat} {H H1 H2 : Heap} {n : Int} {r : AVal} (h : After A i g H H1) (hd : Drawn B i g H1 n r H2) : ∃ x, r = I x ∧ 0 ≤ x ∧ (x < n ∨ x = 0) ∧ After B i g H H2 ∧ (∀ j, j ≠ i → hget H2 j = hget H1 j) ∧ H2.length = H1.length := by
  obtain ⟨x, cs, h1, h2, h3, rfl, h5⟩ := hd
  exact ⟨x, h1, h2, h3, h.set h5, fun j hj => hget_set_ne _ _ (fun e => hj e.symm), hlen_set _ _ _ _⟩
theorem sure_loop {A : Int} (hA1 : A ≤ 100000000) {n : Nat} (hn : n ≤ 6) {H0 : Heap} {ic gc k g : Nat} {rows : List AVal} {ks : List Nat} : ∀ (m : Nat) (kk B : Int) (t : List (List Int)) (H : Heap), kk ≤ m → m ≤ 120 → B + 6 * m ≤ A → t.length = n → isSquareB t = true → OTab H0.length H k g rows ks t → After B ic gc H0 H →
    spec_l1Cur_sure.L12 (Sure A n ic gc H0) (.ptr ic gc 0) (I n) (.own k g 1 0 n) (I kk) H := by
  intro m
  induction m with
  | zero =>
    intro kk B t H hk hm hB h1 h2 ho hA
    apply spec_l1Cur_sure.step12
    unfold spec_l1Cur_sure.step12_vc
    repeat' (first
    | with_reducible refine rTT ?_
    | with_reducible refine rRFL ?_
    | with_reducible refine rLEN (by assumption) ?_
    | (with_reducible refine rIXk (by assumption) (by assumption) ?_; intro p hp)
    | (with_reducible refine rIX (by assumption) (by omega) (by omega) ?_; intro p a ha hp)
    | with_reducible refine rLDi (by assumption) ?_
    | (with_reducible refine rLD (by assumption) ?_; intro c hc)
    | with_reducible refine rADD (by omega) ?_
    | with_reducible refine rSUB (by omega) ?_
    | with_reducible refine rLSS ?_
    | with_reducible refine rLEQ ?_
    | with_reducible refine rGTR ?_
    | with_reducible refine rGEQ ?_
    | with_reducible refine rEQL ?_
    | with_reducible refine rNEQ ?_
    | with_reducible refine rNOT ?_
    | (with_reducible refine rBRK ?_ ?_ <;> intro hb)
    | (with_reducible refine rBRKn ?_ ?_ <;> intro hb)
    | (with_reducible refine rBRKnb ?_ ?_ <;> intro hb)
    | (with_reducible refine rBRKb ?_ ?_ <;> intro hb)
    | (with_reducible refine rSPL ?_ ?_ <;> intro hb)
    | (with_reducible refine rSPLn ?_ ?_ <;> intro hb)
    | (with_reducible refine rSPLnb ?_ ?_ <;> intro hb)
    | (with_reducible refine rSPLb ?_ ?_ <;> intro hb)
    | (exfalso; omega))
    exact sure_end hn h1 h2 ho hA (by omega)
  | succ m ih =>
    intro kk B t H hk hm hB h1 h2 ho hA
    have hlt := hA.lt
    apply spec_l1Cur_sure.step12
    unfold spec_l1Cur_sure.step12_vc
    repeat' (first
    | with_reducible refine rTT ?_
    | with_reducible refine rRFL ?_
    | with_reducible refine rLEN (by assumption) ?_
    | (with_reducible refine rIXk (by assumption) (by assumption) ?_; intro p hp)
    | (with_reducible refine rIX (by assumption) (by omega) (by omega) ?_; intro p a ha hp)
    | with_reducible refine rLDi (by assumption) ?_
    | (with_reducible refine rLD (by assumption) ?_; intro c hc)
    | with_reducible refine rADD (by omega) ?_
    | with_reducible refine rSUB (by omega) ?_
    | with_reducible refine rLSS ?_
    | with_reducible refine rLEQ ?_
    | with_reducible refine rGTR ?_
    | with_reducible refine rGEQ ?_
    | with_reducible refine rEQL ?_
    | with_reducible refine rNEQ ?_
    | with_reducible refine rNOT ?_
    | (with_reducible refine rBRK ?_ ?_ <;> intro hb)
    | (with_reducible refine rBRKn ?_ ?_ <;> intro hb)
    | (with_reducible refine rBRKnb ?_ ?_ <;> intro hb)
    | (with_reducible refine rBRKb ?_ ?_ <;> intro hb)
    | (with_reducible refine rSPL ?_ ?_ <;> intro hb)
    | (with_reducible refine rSPLn ?_ ?_ <;> intro hb)
    | (with_reducible refine rSPLnb ?_ ?_ <;> intro hb)
    | (with_reducible refine rSPLb ?_ ?_ <;> intro hb)
    | (exfalso; omega))
    · refine ACalls.mono (pick_ok hA.cur (by omega) (by omega)) ?_
      intro r1 H1 hd1
      obtain ⟨x, rfl, hx0, hx1, hA1', hf1, hl1⟩ := hA.draw hd1
      have ho1 := ho.frame (H' := H1) fun j hj _ => hf1 j (by omega)
      repeat' (first
    | with_reducible refine rTT ?_
    | with_reducible refine rRFL ?_
    | with_reducible refine rLEN (by assumption) ?_
    | (with_reducible refine rIXk (by assumption) (by assumption) ?_; intro p hp)
    | (with_reducible refine rIX (by assumption) (by omega) (by omega) ?_; intro p a ha hp)
    | with_reducible refine rLDi (by assumption) ?_
    | (with_reducible refine rLD (by assumption) ?_; intro c hc)
    | with_reducible refine rADD (by omega) ?_
    | with_reducible refine rSUB (by omega) ?_
    | with_reducible refine rLSS ?_
    | with_reducible refine rLEQ ?_
    | with_reducible refine rGTR ?_
    | with_reducible refine rGEQ ?_
    | with_reducible refine rEQL ?_
    | with_reducible refine rNEQ ?_
    | with_reducible refine rNOT ?_
    | (with_reducible refine rBRK ?_ ?_ <;> intro hb)
    | (with_reducible refine rBRKn ?_ ?_ <;> intro hb)
    | (with_reducible refine rBRKnb ?_ ?_ <;> intro hb)
    | (with_reducible refine rBRKb ?_ ?_ <;> intro hb)
    | (with_reducible refine rSPL ?_ ?_ <;> intro hb)
    | (with_reducible refine rSPLn ?_ ?_ <;> intro hb)
    | (with_reducible refine rSPLnb ?_ ?_ <;> intro hb)
    | (with_reducible refine rSPLb ?_ ?_ <;> intro hb)
    | (exfalso; omega))
      refine ACalls.mono (pick_ok hA1'.cur (by omega) (by omega)) ?_
      intro r2 H2 hd2
      obtain ⟨y, rfl, hy0, hy1, hA2', hf2, hl2⟩ := hA1'.draw hd2
      have ho2 := ho1.frame (H' := H2) fun j hj _ => hf2 j (by omega)
      refine ACalls.mono (pick_ok hA2'.cur (by omega) (by omega)) ?_
      intro r3 H3 hd3
      obtain ⟨z, rfl, hz0, hz1, hA3', hf3, hl3⟩ := hA2'.draw hd3
      have ho3 := ho2.frame (H' := H3) fun j hj _ => hf3 j (by omega)
      refine rMUL (by omega) ?_
      repeat' (first
    | with_reducible refine rTT ?_
    | with_reducible refine rRFL ?_
    | with_reducible refine rLEN (by assumption) ?_
    | (with_reducible refine rIXk (by assumption) (by assumption) ?_; intro p hp)
    | (with_reducible refine rIX (by assumption) (by omega) (by omega) ?_; intro p a ha hp)
    | with_reducible refine rLDi (by assumption) ?_
    | (with_reducible refine rLD (by assumption) ?_; intro c hc)
    | with_reducible refine rADD (by omega) ?_
    | with_reducible refine rSUB (by omega) ?_
    | with_reducible refine rLSS ?_
    | with_reducible refine rLEQ ?_
    | with_reducible refine rGTR ?_
    | with_reducible refine rGEQ ?_
    | with_reducible refine rEQL ?_
    | with_reducible refine rNEQ ?_
    | with_reducible refine rNOT ?_
    | (with_reducible refine rBRK ?_ ?_ <;> intro hb)
    | (with_reducible refine rBRKn ?_ ?_ <;> intro hb)
    | (with_reducible refine rBRKnb ?_ ?_ <;> intro hb)
    | (with_reducible refine rBRKb ?_ ?_ <;> intro hb)
    | (with_reducible refine rSPL ?_ ?_ <;> intro hb)
    | (with_reducible refine rSPLn ?_ ?_ <;> intro hb)
    | (with_reducible refine rSPLnb ?_ ?_ <;> intro hb)
    | (with_reducible refine rSPLb ?_ ?_ <;> intro hb)
    | (exfalso; omega))
      obtain ⟨xn, rfl⟩ : ∃ xn : Nat, x = xn := ⟨x.toNat, by omega⟩
      obtain ⟨yn, rfl⟩ : ∃ yn : Nat, y = yn := ⟨y.toNat, by omega⟩
      obtain ⟨row, hrow⟩ := ex_get (l := t) (k := xn) (by omega)
      have hrl := sq_len h2 (List.mem_of_getElem? hrow)
      obtain ⟨kj, gj, g1, g2, g3, g4, g5⟩ := ho3.get hrow
      obtain ⟨e, he⟩ := ex_get (l := row) (k := yn) (by omega)
      refine rIXo (by omega) ?_
      repeat' (first
    | with_reducible refine rTT ?_
    | with_reducible refine rRFL ?_
    | with_reducible refine rLEN (by assumption) ?_
    | (with_reducible refine rIXk (by assumption) (by assumption) ?_; intro p hp)
    | (with_reducible refine rIX (by assumption) (by omega) (by omega) ?_; intro p a ha hp)
    | with_reducible refine rLDi (by assumption) ?_
    | (with_reducible refine rLD (by assumption) ?_; intro c hc)
    | with_reducible refine rADD (by omega) ?_
    | with_reducible refine rSUB (by omega) ?_
    | with_reducible refine rLSS ?_
    | with_reducible refine rLEQ ?_
    | with_reducible refine rGTR ?_
    | with_reducible refine rGEQ ?_
    | with_reducible refine rEQL ?_
    | with_reducible refine rNEQ ?_
    | with_reducible refine rNOT ?_
    | (with_reducible refine rBRK ?_ ?_ <;> intro hb)
    | (with_reducible refine rBRKn ?_ ?_ <;> intro hb)
    | (with_reducible refine rBRKnb ?_ ?_ <;> intro hb)
    | (with_reducible refine rBRKb ?_ ?_ <;> intro hb)
    | (with_reducible refine rSPL ?_ ?_ <;> intro hb)
    | (with_reducible refine rSPLn ?_ ?_ <;> intro hb)
    | (with_reducible refine rSPLnb ?_ ?_ <;> intro hb)
    | (with_reducible refine rSPLb ?_ ?_ <;> intro hb)
    | (exfalso; omega))
      refine rLDf ho3.top g2 ?_
      repeat' (first
    | with_reducible refine rTT ?_
    | with_reducible refine rRFL ?_
    | with_reducible refine rLEN (by assumption) ?_
    | (with_reducible refine rIXk (by assumption) (by assumption) ?_; intro p hp)
    | (with_reducible refine rIX (by assumption) (by omega) (by omega) ?_; intro p a ha hp)
    | with_reducible refine rLDi (by assumption) ?_
    | (with_reducible refine rLD (by assumption) ?_; intro c hc)
    | with_reducible refine rADD (by omega) ?_
    | with_reducible refine rSUB (by omega) ?_
    | with_reducible refine rLSS ?_
    | with_reducible refine rLEQ ?_
    | with_reducible refine rGTR ?_
    | with_reducible refine rGEQ ?_
    | with_reducible refine rEQL ?_
    | with_reducible refine rNEQ ?_
    | with_reducible refine rNOT ?_
    | (with_reducible refine rBRK ?_ ?_ <;> intro hb)
    | (with_reducible refine rBRKn ?_ ?_ <;> intro hb)
    | (with_reducible refine rBRKnb ?_ ?_ <;> intro hb)
    | (with_reducible refine rBRKb ?_ ?_ <;> intro hb)
    | (with_reducible refine rSPL ?_ ?_ <;> intro hb)
    | (with_reducible refine rSPLn ?_ ?_ <;> intro hb)
    | (with_reducible refine rSPLnb ?_ ?_ <;> intro hb)
    | (with_reducible refine rSPLb ?_ ?_ <;> intro hb)
    | (exfalso; omega))
      refine rIXo (by omega) ?_
      repeat' (first
    | with_reducible refine rTT ?_
    | with_reducible refine rRFL ?_
    | with_reducible refine rLEN (by assumption) ?_
    | (with_reducible refine rIXk (by assumption) (by assumption) ?_; intro p hp)
    | (with_reducible refine rIX (by assumption) (by omega) (by omega) ?_; intro p a ha hp)
    | with_reducible refine rLDi (by assumption) ?_
    | (with_reducible refine rLD (by assumption) ?_; intro c hc)
    | with_reducible refine rADD (by omega) ?_
    | with_reducible refine rSUB (by omega) ?_
    | with_reducible refine rLSS ?_
    | with_reducible refine rLEQ ?_
    | with_reducible refine rGTR ?_
    | with_reducible refine rGEQ ?_
    | with_reducible refine rEQL ?_
    | with_reducible refine rNEQ ?_
    | with_reducible refine rNOT ?_
    | (with_reducible refine rBRK ?_ ?_ <;> intro hb)
    | (with_reducible refine rBRKn ?_ ?_ <;> intro hb)
    | (with_reducible refine rBRKnb ?_ ?_ <;> intro hb)
    | (with_reducible refine rBRKb ?_ ?_ <;> intro hb)
    | (with_reducible refine rSPL ?_ ?_ <;> intro hb)
    | (with_reducible refine rSPLn ?_ ?_ <;> intro hb)
    | (with_reducible refine rSPLnb ?_ ?_ <;> intro hb)
    | (with_reducible refine rSPLb ?_ ?_ <;> intro hb)
    | (exfalso; omega))
      refine rLDf g3 (by rw [List.getElem?_map, he]; rfl) ?_
      refine rADDw ?_
      repeat' (first
    | with_reducible refine rTT ?_
    | with_reducible refine rRFL ?_
    | with_reducible refine rLEN (by assumption) ?_
    | (with_reducible refine rIXk (by assumption) (by assumption) ?_; intro p hp)
    | (with_reducible refine rIX (by assumption) (by omega) (by omega) ?_; intro p a ha hp)
    | with_reducible refine rLDi (by assumption) ?_
    | (with_reducible refine rLD (by assumption) ?_; intro c hc)
    | with_reducible refine rADD (by omega) ?_
    | with_reducible refine rSUB (by omega) ?_
    | with_reducible refine rLSS ?_
    | with_reducible refine rLEQ ?_
    | with_reducible refine rGTR ?_
    | with_reducible refine rGEQ ?_
    | with_reducible refine rEQL ?_
    | with_reducible refine rNEQ ?_
    | with_reducible refine rNOT ?_
    | (with_reducible refine rBRK ?_ ?_ <;> intro hb)
    | (with_reducible refine rBRKn ?_ ?_ <;> intro hb)
    | (with_reducible refine rBRKnb ?_ ?_ <;> intro hb)
    | (with_reducible refine rBRKb ?_ ?_ <;> intro hb)
    | (with_reducible refine rSPL ?_ ?_ <;> intro hb)
    | (with_reducible refine rSPLn ?_ ?_ <;> intro hb)
    | (with_reducible refine rSPLnb ?_ ?_ <;> intro hb)
    | (with_reducible refine rSPLb ?_ ?_ <;> intro hb)
    | (exfalso; omega))
      refine rIXo (by omega) ?_
      repeat' (first
    | with_reducible refine rTT ?_
    | with_reducible refine rRFL ?_
    | with_reducible refine rLEN (by assumption) ?_
    | (with_reducible refine rIXk (by assumption) (by assumption) ?_; intro p hp)
    | (with_reducible refine rIX (by assumption) (by omega) (by omega) ?_; intro p a ha hp)
    | with_reducible refine rLDi (by assumption) ?_
    | (with_reducible refine rLD (by assumption) ?_; intro c hc)
    | with_reducible refine rADD (by omega) ?_
    | with_reducible refine rSUB (by omega) ?_
    | with_reducible refine rLSS ?_
    | with_reducible refine rLEQ ?_
    | with_reducible refine rGTR ?_
    | with_reducible refine rGEQ ?_
    | with_reducible refine rEQL ?_
    | with_reducible refine rNEQ ?_
    | with_reducible refine rNOT ?_
    | (with_reducible refine rBRK ?_ ?_ <;> intro hb)
    | (with_reducible refine rBRKn ?_ ?_ <;> intro hb)
    | (with_reducible refine rBRKnb ?_ ?_ <;> intro hb)
    | (with_reducible refine rBRKb ?_ ?_ <;> intro hb)
    | (with_reducible refine rSPL ?_ ?_ <;> intro hb)
    | (with_reducible refine rSPLn ?_ ?_ <;> intro hb)
    | (with_reducible refine rSPLnb ?_ ?_ <;> intro hb)
    | (with_reducible refine rSPLb ?_ ?_ <;> intro hb)
    | (exfalso; omega))
      refine rSTp g3 (by simp; omega) rfl ?_
      repeat' (first
    | with_reducible refine rTT ?_
    | with_reducible refine rRFL ?_
    | with_reducible refine rLEN (by assumption) ?_
    | (with_reducible refine rIXk (by assumption) (by assumption) ?_; intro p hp)
    | (with_reducible refine rIX (by assumption) (by omega) (by omega) ?_; intro p a ha hp)
    | with_reducible refine rLDi (by assumption) ?_
    | (with_reducible refine rLD (by assumption) ?_; intro c hc)
    | with_reducible refine rADD (by omega) ?_
    | with_reducible refine rSUB (by omega) ?_
    | with_reducible refine rLSS ?_
    | with_reducible refine rLEQ ?_
    | with_reducible refine rGTR ?_
    | with_reducible refine rGEQ ?_
    | with_reducible refine rEQL ?_
    | with_reducible refine rNEQ ?_
    | with_reducible refine rNOT ?_
    | (with_reducible refine rBRK ?_ ?_ <;> intro hb)
    | (with_reducible refine rBRKn ?_ ?_ <;> intro hb)
    | (with_reducible refine rBRKnb ?_ ?_ <;> intro hb)
    | (with_reducible refine rBRKb ?_ ?_ <;> intro hb)
    | (with_reducible refine rSPL ?_ ?_ <;> intro hb)
    | (with_reducible refine rSPLn ?_ ?_ <;> intro hb)
    | (with_reducible refine rSPLnb ?_ ?_ <;> intro hb)
    | (with_reducible refine rSPLb ?_ ?_ <;> intro hb)
    | (exfalso; omega))
      have hset1 : ∀ w, (row.map I).set yn (I w) = (row.set yn w).map I := fun w => by rw [List.map_set]
      rw [hset1]
      have ho4 := ho3.put hrow g1 g3 (r' := row.set yn (w64 (e + (2 * z - 1)))) (by simp)
      have h2' := sq_set h2 hrow (r' := row.set yn (w64 (e + (2 * z - 1)))) (by simp)
      have h1' : (t.set xn (row.set yn (w64 (e + (2 * z - 1))))).length = n := by simpa using h1
      have hA4 := hA3'.put g4 gj (ifrees_map (row.set yn (w64 (e + (2 * z - 1)))))
      refine ACalls.mono (sgFrom_own (ho4.is h1') (by omega) h2') ?_
      rintro r5 H5 ⟨h5, hF5⟩
      refine ACalls.mono (sgGood_own h5 (by rw [fromT_len]; omega) (fun r hr => by rw [sq_len (fromT_sq _) hr, fromT_len]; omega)) ?_
      rintro r6 H6 ⟨rfl, rfl⟩
      have ho5 := ho4.frame (H' := H6) fun j _ hj => hF5.old j hj
      have hA5 := hA4.fresh hF5
      repeat' (first
    | with_reducible refine rTT ?_
    | with_reducible refine rRFL ?_
    | with_reducible refine rLEN (by assumption) ?_
    | (with_reducible refine rIXk (by assumption) (by assumption) ?_; intro p hp)
    | (with_reducible refine rIX (by assumption) (by omega) (by omega) ?_; intro p a ha hp)
    | with_reducible refine rLDi (by assumption) ?_
    | (with_reducible refine rLD (by assumption) ?_; intro c hc)
    | with_reducible refine rADD (by omega) ?_
    | with_reducible refine rSUB (by omega) ?_
    | with_reducible refine rLSS ?_
    | with_reducible refine rLEQ ?_
    | with_reducible refine rGTR ?_
    | with_reducible refine rGEQ ?_
    | with_reducible refine rEQL ?_
    | with_reducible refine rNEQ ?_
    | with_reducible refine rNOT ?_
    | (with_reducible refine rBRK ?_ ?_ <;> intro hb)
    | (with_reducible refine rBRKn ?_ ?_ <;> intro hb)
    | (with_reducible refine rBRKnb ?_ ?_ <;> intro hb)
    | (with_reducible refine rBRKb ?_ ?_ <;> intro hb)
    | (with_reducible refine rSPL ?_ ?_ <;> intro hb)
    | (with_reducible refine rSPLn ?_ ?_ <;> intro hb)
    | (with_reducible refine rSPLnb ?_ ?_ <;> intro hb)
    | (with_reducible refine rSPLb ?_ ?_ <;> intro hb)
    | (exfalso; omega))
      · have hrow' : (t.set xn (row.set yn (w64 (e + (2 * z - 1)))))[xn]? = some (row.set yn (w64 (e + (2 * z - 1)))) := List.getElem?_set_self (List.getElem?_eq_some_iff.1 hrow).1
        obtain ⟨kj', gj', q1, q2, q3, q4, q5⟩ := ho5.get hrow'
        refine rIXo (by omega) ?_
        repeat' (first
    | with_reducible refine rTT ?_
    | with_reducible refine rRFL ?_
    | with_reducible refine rLEN (by assumption) ?_
    | (with_reducible refine rIXk (by assumption) (by assumption) ?_; intro p hp)
    | (with_reducible refine rIX (by assumption) (by omega) (by omega) ?_; intro p a ha hp)
    | with_reducible refine rLDi (by assumption) ?_
    | (with_reducible refine rLD (by assumption) ?_; intro c hc)
    | with_reducible refine rADD (by omega) ?_
    | with_reducible refine rSUB (by omega) ?_
    | with_reducible refine rLSS ?_
    | with_reducible refine rLEQ ?_
    | with_reducible refine rGTR ?_
    | with_reducible refine rGEQ ?_
    | with_reducible refine rEQL ?_
    | with_reducible refine rNEQ ?_
    | with_reducible refine rNOT ?_
    | (with_reducible refine rBRK ?_ ?_ <;> intro hb)
    | (with_reducible refine rBRKn ?_ ?_ <;> intro hb)
    | (with_reducible refine rBRKnb ?_ ?_ <;> intro hb)
    | (with_reducible refine rBRKb ?_ ?_ <;> intro hb)
    | (with_reducible refine rSPL ?_ ?_ <;> intro hb)
    | (with_reducible refine rSPLn ?_ ?_ <;> intro hb)
    | (with_reducible refine rSPLnb ?_ ?_ <;> intro hb)
    | (with_reducible refine rSPLb ?_ ?_ <;> intro hb)
    | (exfalso; omega))
        refine rLDf ho5.top q2 ?_
        repeat' (first
    | with_reducible refine rTT ?_
    | with_reducible refine rRFL ?_
    | with_reducible refine rLEN (by assumption) ?_
    | (with_reducible refine rIXk (by assumption) (by assumption) ?_; intro p hp)
    | (with_reducible refine rIX (by assumption) (by omega) (by omega) ?_; intro p a ha hp)
    | with_reducible refine rLDi (by assumption) ?_
    | (with_reducible refine rLD (by assumption) ?_; intro c hc)
    | with_reducible refine rADD (by omega) ?_
    | with_reducible refine rSUB (by omega) ?_
    | with_reducible refine rLSS ?_
    | with_reducible refine rLEQ ?_
    | with_reducible refine rGTR ?_
    | with_reducible refine rGEQ ?_
    | with_reducible refine rEQL ?_
    | with_reducible refine rNEQ ?_
    | with_reducible refine rNOT ?_
    | (with_reducible refine rBRK ?_ ?_ <;> intro hb)
    | (with_reducible refine rBRKn ?_ ?_ <;> intro hb)
    | (with_reducible refine rBRKnb ?_ ?_ <;> intro hb)
    | (with_reducible refine rBRKb ?_ ?_ <;> intro hb)
    | (with_reducible refine rSPL ?_ ?_ <;> intro hb)
    | (with_reducible refine rSPLn ?_ ?_ <;> intro hb)
    | (with_reducible refine rSPLnb ?_ ?_ <;> intro hb)
    | (with_reducible refine rSPLb ?_ ?_ <;> intro hb)
    | (exfalso; omega))
        refine rIXo (by simp; omega) ?_
        repeat' (first
    | with_reducible refine rTT ?_
    | with_reducible refine rRFL ?_
    | with_reducible refine rLEN (by assumption) ?_
    | (with_reducible refine rIXk (by assumption) (by assumption) ?_; intro p hp)
    | (with_reducible refine rIX (by assumption) (by omega) (by omega) ?_; intro p a ha hp)
    | with_reducible refine rLDi (by assumption) ?_
    | (with_reducible refine rLD (by assumption) ?_; intro c hc)
    | with_reducible refine rADD (by omega) ?_
    | with_reducible refine rSUB (by omega) ?_
    | with_reducible refine rLSS ?_
    | with_reducible refine rLEQ ?_
    | with_reducible refine rGTR ?_
    | with_reducible refine rGEQ ?_
    | with_reducible refine rEQL ?_
    | with_reducible refine rNEQ ?_
    | with_reducible refine rNOT ?_
    | (with_reducible refine rBRK ?_ ?_ <;> intro hb)
    | (with_reducible refine rBRKn ?_ ?_ <;> intro hb)
    | (with_reducible refine rBRKnb ?_ ?_ <;> intro hb)
    | (with_reducible refine rBRKb ?_ ?_ <;> intro hb)
    | (with_reducible refine rSPL ?_ ?_ <;> intro hb)
    | (with_reducible refine rSPLn ?_ ?_ <;> intro hb)
    | (with_reducible refine rSPLnb ?_ ?_ <;> intro hb)
    | (with_reducible refine rSPLb ?_ ?_ <;> intro hb)
    | (exfalso; omega))
        refine rLDf q3 (by rw [List.getElem?_map, List.getElem?_set_self (by omega)]; rfl) ?_
        refine rSUBw ?_
        repeat' (first
    | with_reducible refine rTT ?_
    | with_reducible refine rRFL ?_
    | with_reducible refine rLEN (by assumption) ?_
    | (with_reducible refine rIXk (by assumption) (by assumption) ?_; intro p hp)
    | (with_reducible refine rIX (by assumption) (by omega) (by omega) ?_; intro p a ha hp)
    | with_reducible refine rLDi (by assumption) ?_
    | (with_reducible refine rLD (by assumption) ?_; intro c hc)
    | with_reducible refine rADD (by omega) ?_
    | with_reducible refine rSUB (by omega) ?_
    | with_reducible refine rLSS ?_
    | with_reducible refine rLEQ ?_
    | with_reducible refine rGTR ?_
    | with_reducible refine rGEQ ?_
    | with_reducible refine rEQL ?_
    | with_reducible refine rNEQ ?_
    | with_reducible refine rNOT ?_
    | (with_reducible refine rBRK ?_ ?_ <;> intro hb)
    | (with_reducible refine rBRKn ?_ ?_ <;> intro hb)
    | (with_reducible refine rBRKnb ?_ ?_ <;> intro hb)
    | (with_reducible refine rBRKb ?_ ?_ <;> intro hb)
    | (with_reducible refine rSPL ?_ ?_ <;> intro hb)
    | (with_reducible refine rSPLn ?_ ?_ <;> intro hb)
    | (with_reducible refine rSPLnb ?_ ?_ <;> intro hb)
    | (with_reducible refine rSPLb ?_ ?_ <;> intro hb)
    | (exfalso; omega))
        refine rIXo (by simp; omega) ?_
        repeat' (first
    | with_reducible refine rTT ?_
    | with_reducible refine rRFL ?_
    | with_reducible refine rLEN (by assumption) ?_
    | (with_reducible refine rIXk (by assumption) (by assumption) ?_; intro p hp)
    | (with_reducible refine rIX (by assumption) (by omega) (by omega) ?_; intro p a ha hp)
    | with_reducible refine rLDi (by assumption) ?_
    | (with_reducible refine rLD (by assumption) ?_; intro c hc)
    | with_reducible refine rADD (by omega) ?_
    | with_reducible refine rSUB (by omega) ?_
    | with_reducible refine rLSS ?_
    | with_reducible refine rLEQ ?_
    | with_reducible refine rGTR ?_
    | with_reducible refine rGEQ ?_
    | with_reducible refine rEQL ?_
    | with_reducible refine rNEQ ?_
    | with_reducible refine rNOT ?_
    | (with_reducible refine rBRK ?_ ?_ <;> intro hb)
    | (with_reducible refine rBRKn ?_ ?_ <;> intro hb)
    | (with_reducible refine rBRKnb ?_ ?_ <;> intro hb)
    | (with_reducible refine rBRKb ?_ ?_ <;> intro hb)
    | (with_reducible refine rSPL ?_ ?_ <;> intro hb)
    | (with_reducible refine rSPLn ?_ ?_ <;> intro hb)
    | (with_reducible refine rSPLnb ?_ ?_ <;> intro hb)
    | (with_reducible refine rSPLb ?_ ?_ <;> intro hb)
    | (exfalso; omega))
        refine rSTp q3 (by simp; omega) rfl ?_
        repeat' (first
    | with_reducible refine rTT ?_
    | with_reducible refine rRFL ?_
    | with_reducible refine rLEN (by assumption) ?_
    | (with_reducible refine rIXk (by assumption) (by assumption) ?_; intro p hp)
    | (with_reducible refine rIX (by assumption) (by omega) (by omega) ?_; intro p a ha hp)
    | with_reducible refine rLDi (by assumption) ?_
    | (with_reducible refine rLD (by assumption) ?_; intro c hc)
    | with_reducible refine rADD (by omega) ?_
    | with_reducible refine rSUB (by omega) ?_
    | with_reducible refine rLSS ?_
    | with_reducible refine rLEQ ?_
    | with_reducible refine rGTR ?_
    | with_reducible refine rGEQ ?_
    | with_reducible refine rEQL ?_
    | with_reducible refine rNEQ ?_
    | with_reducible refine rNOT ?_
    | (with_reducible refine rBRK ?_ ?_ <;> intro hb)
    | (with_reducible refine rBRKn ?_ ?_ <;> intro hb)
    | (with_reducible refine rBRKnb ?_ ?_ <;> intro hb)
    | (with_reducible refine rBRKb ?_ ?_ <;> intro hb)
    | (with_reducible refine rSPL ?_ ?_ <;> intro hb)
    | (with_reducible refine rSPLn ?_ ?_ <;> intro hb)
    | (with_reducible refine rSPLnb ?_ ?_ <;> intro hb)
    | (with_reducible refine rSPLb ?_ ?_ <;> intro hb)
    | (exfalso; omega))
        have hset2 : ∀ (l : List Int) w, (l.map I).set yn (I w) = (l.set yn w).map I := fun l w => by rw [List.map_set]
        rw [hset2]
        refine ih (kk - 1) (B + 2 + 2 + 2) _ _ (by omega) (by omega) (by omega) ?_ (sq_set h2' hrow' (by simp)) (ho5.put hrow' q1 q3 (by simp)) (hA5.put q4 _ (ifrees_map _))
        simpa using h1
      · exact ih (kk - 1) (B + 2 + 2 + 2) _ _ (by omega) (by omega) (by omega) h1' h2' ho5 hA5
    · exact sure_end hn h1 h2 ho hA (by omega)
    · exact sure_end hn h1 h2 ho hA (by omega)

theorem zeros_sq (n : Nat) : isSquareB (zeros n) = true := by
  simp only [isSquareB, List.all_eq_true, decide_eq_true_eq]
  intro r hr
  simp only [zeros, List.mem_replicate] at hr
  rw [hr.2]; simp [zeros]
theorem sure_ok {A : Int} {H : Heap} {i g n : Nat} (h : Cur A H i g) (hA : A ≤ 10000000) (h1 : 1 ≤ n) (hn : n ≤ 6) : ACalls Try.prog 101 [.ptr i g 0, I n] H (Sure (A + 1000) n i g H) := by
  apply spec_l1Cur_sure.start
  unfold spec_l1Cur_sure.start_vc
  refine ACalls.mono (sgZero_ok (by omega)) ?_
  rintro r H1 ⟨h2, h3⟩
  rcases h2 with ⟨_, ht⟩ | ⟨k, g', rows, ks, rfl, ho⟩
  · have := congrArg List.length ht
    simp [zeros] at this; omega
  · have hz : (zeros n).length = n := by simp [zeros]
    rw [hz]
    show LENK (.own k g' 1 0 n) _
    show spec_l1Cur_sure.L3 _ _ _ _ (I n) _ _
    refine sure_fill (A := A) hn (fun t H2 g1 g2 g3 g4 => ?_) n 0 (zeros n) H1 (by omega) hz (zeros_sq n) ho ((After.refl h).fresh h3)
    apply spec_l1Cur_sure.step3
    unfold spec_l1Cur_sure.step3_vc
    repeat' (first
    | with_reducible refine rTT ?_
    | with_reducible refine rRFL ?_
    | with_reducible refine rLEN (by assumption) ?_
    | (with_reducible refine rIXk (by assumption) (by assumption) ?_; intro p hp)
    | (with_reducible refine rIX (by assumption) (by omega) (by omega) ?_; intro p a ha hp)
    | with_reducible refine rLDi (by assumption) ?_
    | (with_reducible refine rLD (by assumption) ?_; intro c hc)
    | with_reducible refine rADD (by omega) ?_
    | with_reducible refine rSUB (by omega) ?_
    | with_reducible refine rLSS ?_
    | with_reducible refine rLEQ ?_
    | with_reducible refine rGTR ?_
    | with_reducible refine rGEQ ?_
    | with_reducible refine rEQL ?_
    | with_reducible refine rNEQ ?_
    | with_reducible refine rNOT ?_
    | (with_reducible refine rBRK ?_ ?_ <;> intro hb)
    | (with_reducible refine rBRKn ?_ ?_ <;> intro hb)
    | (with_reducible refine rBRKnb ?_ ?_ <;> intro hb)
    | (with_reducible refine rBRKb ?_ ?_ <;> intro hb)
    | (with_reducible refine rSPL ?_ ?_ <;> intro hb)
    | (with_reducible refine rSPLn ?_ ?_ <;> intro hb)
    | (with_reducible refine rSPLnb ?_ ?_ <;> intro hb)
    | (with_reducible refine rSPLb ?_ ?_ <;> intro hb)
    | (exfalso; omega))
    refine rMUL (by omega) ?_
    have hnn : (3 * (n : Int)) * n ≤ 108 := by
      have : n = 1 ∨ n = 2 ∨ n = 3 ∨ n = 4 ∨ n = 5 ∨ n = 6 := by omega
      rcases this with rfl | rfl | rfl | rfl | rfl | rfl <;> decide
    have hnp : 0 ≤ (3 * (n : Int)) * n := Int.mul_nonneg (by omega) (by omega)
    refine rMUL (by omega) ?_
    refine ACalls.mono (pick_ok g4.cur (by omega) (by omega)) ?_
    intro r1 H3 hd
    obtain ⟨x, rfl, hx0, hx1, hA1', hf1, hl1⟩ := g4.draw hd
    have hlt := g4.lt
    refine sure_loop (by omega) hn 108 x (A + 2) t H3 (by omega) (by omega) (by omega) g1 g2 (g3.frame fun j hj _ => hf1 j (by omega)) hA1'

end Go.Proofs.Ytccioplhchmilaa.AL
