/-
  Rules for what bodies ask, of values that are lists of numbers, tables and so on.
-/
import Derived.Test.YtccioplhchmilaaA13
set_option linter.unusedVariables false
set_option linter.unusedSimpArgs false
namespace Go.Proofs.Ytccioplhchmilaa.AL
open Go Go.RowKit

/-! ### Numbers -/
abbrev I (n : Int) : AVal := .int .i64 n
abbrev R64 (n : Int) : Prop := -9223372036854775808 ≤ n ∧ n ≤ 9223372036854775807
def w64 (n : Int) : Int := IntKind.i64.wrap n
theorem w64_in {n : Int} (h : R64 n) : w64 n = n := by
  unfold w64 IntKind.wrap
  simp only [IntKind.bits, IntKind.signed]
  simp
  omega
theorem w64_range (n : Int) : R64 (w64 n) := by
  unfold w64 IntKind.wrap
  simp only [IntKind.bits, IntKind.signed]
  simp
  constructor <;> (split <;> omega)

theorem rADD {a b : Int} {K : AVal → Prop} (h : R64 (a + b)) (k : K (I (a + b))) : BINK .add (I a) (I b) K := by
  simp only [BINK, ariK, true_and]; rw [show IntKind.i64.wrap (a + b) = a + b from w64_in h]; exact k
theorem rSUB {a b : Int} {K : AVal → Prop} (h : R64 (a - b)) (k : K (I (a - b))) : BINK .sub (I a) (I b) K := by
  simp only [BINK, ariK, true_and]; rw [show IntKind.i64.wrap (a - b) = a - b from w64_in h]; exact k
theorem rMUL {a b : Int} {K : AVal → Prop} (h : R64 (a * b)) (k : K (I (a * b))) : BINK .mul (I a) (I b) K := by
  simp only [BINK, ariK, true_and]; rw [show IntKind.i64.wrap (a * b) = a * b from w64_in h]; exact k
theorem rADDw {a b : Int} {K : AVal → Prop} (k : K (I (w64 (a + b)))) : BINK .add (I a) (I b) K := by
  simp only [BINK, ariK, true_and]; exact k
theorem rSUBw {a b : Int} {K : AVal → Prop} (k : K (I (w64 (a - b)))) : BINK .sub (I a) (I b) K := by
  simp only [BINK, ariK, true_and]; exact k
theorem rMULw {a b : Int} {K : AVal → Prop} (k : K (I (w64 (a * b)))) : BINK .mul (I a) (I b) K := by
  simp only [BINK, ariK, true_and]; exact k
theorem rQUO {a b : Int} {K : AVal → Prop} (hb : b ≠ 0) (h : R64 (a.tdiv b)) (k : K (I (a.tdiv b))) : BINK .quo (I a) (I b) K := by
  simp only [BINK, ariK, true_and]; rw [show IntKind.i64.wrap (a.tdiv b) = a.tdiv b from w64_in h]; exact ⟨hb, k⟩
theorem rREM {a b : Int} {K : AVal → Prop} (hb : b ≠ 0) (k : K (I (a.tmod b))) : BINK .rem (I a) (I b) K := by
  simp only [BINK, ariK, true_and]; exact ⟨hb, k⟩
theorem rLSS {k' : IntKind} {a b : Int} {K : AVal → Prop} (k : K (.bool (decide (a < b)))) : BINK .lss (.int k' a) (.int k' b) K := by
  simp only [BINK, ariK, true_and]; exact k
theorem rLEQ {k' : IntKind} {a b : Int} {K : AVal → Prop} (k : K (.bool (decide (a ≤ b)))) : BINK .leq (.int k' a) (.int k' b) K := by
  simp only [BINK, ariK, true_and]; exact k
theorem rGTR {k' : IntKind} {a b : Int} {K : AVal → Prop} (k : K (.bool (decide (b < a)))) : BINK .gtr (.int k' a) (.int k' b) K := by
  simp only [BINK, ariK, true_and]; exact k
theorem rGEQ {k' : IntKind} {a b : Int} {K : AVal → Prop} (k : K (.bool (decide (b ≤ a)))) : BINK .geq (.int k' a) (.int k' b) K := by
  simp only [BINK, ariK, true_and]; exact k
theorem rEQL {k' : IntKind} {a b : Int} {K : AVal → Prop} (k : K (.bool (decide (a = b)))) : BINK .eql (.int k' a) (.int k' b) K := by
  simp only [BINK, ariK, true_and]; exact k
theorem rNEQ {k' : IntKind} {a b : Int} {K : AVal → Prop} (k : K (.bool (decide (a ≠ b)))) : BINK .neq (.int k' a) (.int k' b) K := by
  simp only [BINK, ariK, true_and]
  have : (a != b) = decide (a ≠ b) := by by_cases h : a = b <;> simp [h]
  rw [this]; exact k
theorem rNEG {a : Int} {K : AVal → Prop} (h : R64 (0 - a)) (k : K (I (0 - a))) : NEGK (I a) K := by
  simp only [NEGK]; rw [show IntKind.i64.wrap (0 - a) = 0 - a from w64_in h]; exact k
theorem rNOT {b : Bool} {K : AVal → Prop} (k : K (.bool (!b))) : NOTK (.bool b) K := k

/-! ### Cases -/
theorem rBRKb {b : Bool} {X Y : Prop} (hx : b = true → X) (hy : b = false → Y) : BRK (.bool b) X Y := by cases b with | true => exact hx rfl | false => exact hy rfl
theorem rBRK {p : Prop} [Decidable p] {X Y : Prop} (hx : p → X) (hy : ¬ p → Y) : BRK (.bool (decide p)) X Y := rBRKb (fun h => hx (of_decide_eq_true h)) (fun h => hy (of_decide_eq_false h))
theorem rBRKnb {b : Bool} {X Y : Prop} (hx : b = false → X) (hy : b = true → Y) : BRK (.bool (!b)) X Y := rBRKb (fun h => hx (by simpa using h)) (fun h => hy (by simpa using h))
theorem rBRKn {p : Prop} [Decidable p] {X Y : Prop} (hx : ¬ p → X) (hy : p → Y) : BRK (.bool (!decide p)) X Y := rBRKnb (fun h => hx (of_decide_eq_false h)) (fun h => hy (of_decide_eq_true h))
theorem rSPLb {b : Bool} {X Y : Prop} (hx : b = true → X) (hy : b = false → Y) : SPL (.bool b) X Y := by cases b with | true => exact hx rfl | false => exact hy rfl
theorem rSPL {p : Prop} [Decidable p] {X Y : Prop} (hx : p → X) (hy : ¬ p → Y) : SPL (.bool (decide p)) X Y := rSPLb (fun h => hx (of_decide_eq_true h)) (fun h => hy (of_decide_eq_false h))
theorem rSPLnb {b : Bool} {X Y : Prop} (hx : b = false → X) (hy : b = true → Y) : SPL (.bool (!b)) X Y := rSPLb (fun h => hx (by simpa using h)) (fun h => hy (by simpa using h))
theorem rSPLn {p : Prop} [Decidable p] {X Y : Prop} (hx : ¬ p → X) (hy : p → Y) : SPL (.bool (!decide p)) X Y := rSPLnb (fun h => hx (of_decide_eq_false h)) (fun h => hy (of_decide_eq_true h))
theorem rTT {X : Prop} (h : X) : TT ∧ X := ⟨rfl, h⟩
theorem rRFL {a : Go.Operand} {X : Prop} (h : X) : (a = a) ∧ X := ⟨rfl, h⟩

theorem drop_some {α : Type} {l : List α} {k : Nat} {a : α} (h : l[k]? = some a) : l.drop k = a :: l.drop (k + 1) := by
  obtain ⟨hk, rfl⟩ := List.getElem?_eq_some_iff.1 h
  exact List.drop_eq_getElem_cons hk
theorem take_some {α : Type} {l : List α} {k : Nat} {a : α} (h : l[k]? = some a) : l.take (k + 1) = l.take k ++ [a] := by
  rw [List.take_add_one, h]; rfl
theorem take_someI {α : Type} {l : List α} {k : Nat} {a : α} (h : l[(k : Int).toNat]? = some a) : l.take (k + 1) = l.take k ++ [a] := take_some (by simpa using h)
theorem ex_get {α : Type} {l : List α} {k : Nat} (h : k < l.length) : ∃ a, l[k]? = some a := ⟨_, List.getElem?_eq_getElem h⟩
theorem drop_someI {α : Type} {l : List α} {k : Nat} {a : α} (h : l[(k : Int).toNat]? = some a) : l.drop k = a :: l.drop (k + 1) := drop_some (by simpa using h)

/-! ### Slices that are only read -/
def IsI (v : AVal) (n : Int) : Prop := v = I n
def IsSl {α : Type} (R : AVal → α → Prop) (v : AVal) (l : List α) : Prop :=
  (v = .nilS ∧ l = []) ∨ ∃ x cs, v = .sl x l.length cs ∧ cs.length = l.length ∧ ∀ (i : Nat) (c : AVal) (a : α), cs[i]? = some c → l[i]? = some a → R c a
abbrev IsInts : AVal → List Int → Prop := IsSl IsI
abbrev IsTab : AVal → List (List Int) → Prop := IsSl IsInts
abbrev IsTabs : AVal → List (List (List Int)) → Prop := IsSl IsTab
/-- Where an element stands. -/
def Pt {α : Type} (R : AVal → α → Prop) (p : AVal) (a : α) : Prop := ∃ cs i c, p = .pel cs i ∧ cs[i]? = some c ∧ R c a
section
variable {α : Type} {R : AVal → α → Prop} {v : AVal} {l : List α}
theorem rLEN {K : AVal → Prop} (h : IsSl R v l) (k : K (I l.length)) : LENK v K := by
  rcases h with ⟨rfl, rfl⟩ | ⟨x, cs, rfl, _⟩
  · exact k
  · exact k
theorem rIX {K : AVal → Prop} (h : IsSl R v l) {i : Int} (h0 : 0 ≤ i) (h1 : i < l.length) (k : ∀ (p : AVal) (a : α), l[i.toNat]? = some a → Pt R p a → K p) : IXK 1 v (I i) K := by
  rcases h with ⟨rfl, rfl⟩ | ⟨x, cs, rfl, hc, hr⟩
  · simp at h1; omega
  · refine ⟨h0, h1, ?_⟩
    have hi : i.toNat < l.length := by omega
    refine k _ l[i.toNat] (List.getElem?_eq_getElem hi) ⟨cs, i.toNat * 1, cs[i.toNat]'(by omega), rfl, by simp, hr i.toNat _ _ (by simp) (List.getElem?_eq_getElem hi)⟩
theorem rIXk {K : AVal → Prop} (h : IsSl R v l) {i : Nat} {a : α} (ha : l[i]? = some a) (k : ∀ (p : AVal), Pt R p a → K p) : IXK 1 v (I (i : Int)) K := by
  have hi := (List.getElem?_eq_some_iff.1 ha).1
  refine rIX h (by omega) (by omega) fun p b hb hp => ?_
  simp only [Int.toNat_natCast] at hb
  rw [ha] at hb; cases hb
  exact k p hp
theorem rLD {H : Heap} {p : AVal} {a : α} {K : AVal → Prop} (h : Pt R p a) (k : ∀ c, R c a → K c) : LDK false 1 H p K := by
  obtain ⟨cs, i, c, rfl, hc, hr⟩ := h
  exact ⟨c, hc, k c hr⟩
theorem rLDi {H : Heap} {p : AVal} {a : Int} {K : AVal → Prop} (h : Pt IsI p a) (k : K (I a)) : LDK false 1 H p K := rLD h fun c hc => by cases hc; exact k
theorem isSl_nil : IsSl R .nilS ([] : List α) := .inl ⟨rfl, rfl⟩
theorem isSl_mk {x : Bool} {n : Nat} {cs : List AVal} (hn : n = l.length) (hc : cs.length = l.length) (hr : ∀ (i : Nat) (c : AVal) (a : α), cs[i]? = some c → l[i]? = some a → R c a) : IsSl R (.sl x n cs) l := .inr ⟨x, cs, by rw [hn], hc, hr⟩
theorem isInts_map (x : Bool) (l : List Int) : IsInts (.sl x l.length (l.map I)) l := isSl_mk rfl (by simp) (fun i c a hc ha => by
  rw [List.getElem?_map, ha] at hc; cases hc; rfl)
end

/-! ### Heaps -/
theorem hget_new (H : Heap) (g : Nat) (cs : List AVal) : hget (hnew H g cs) H.length = some (g, cs) := by
  rw [hget_hnew]; simp
theorem hget_old {H : Heap} {i : Nat} (g : Nat) (cs : List AVal) (h : i < H.length) : hget (hnew H g cs) i = hget H i := by
  rw [hget_hnew, if_pos h]
theorem hset_new (H : Heap) (g g' : Nat) (cs ds : List AVal) : hset (hnew H g cs) H.length g' ds = hnew H g' ds := by
  simp [hset, hnew]
theorem hlen_new (H : Heap) (g : Nat) (cs : List AVal) : (hnew H g cs).length = H.length + 1 := by simp [hnew]
theorem hset_old {H : Heap} {i : Nat} (g g' : Nat) (cs ds : List AVal) (h : i < H.length) : hset (hnew H g cs) i g' ds = hnew (hset H i g' ds) g cs := by
  simp [hset, hnew, List.set_append, h]
theorem hlt_of_get {H : Heap} {i g : Nat} {cs : List AVal} (h : hget H i = some (g, cs)) : i < H.length := by
  unfold hget at h
  cases hb : H[i]? with
  | none => rw [hb] at h; cases h
  | some b => exact (List.getElem?_eq_some_iff.1 hb).1
theorem hsub_new (H : Heap) (g : Nat) (cs : List AVal) : HSub H (hnew H g cs) := fun i g' ds h => by rw [hget_old g cs (hlt_of_get h)]; exact h
theorem hget_set {H : Heap} {i : Nat} (g : Nat) (cs : List AVal) (h : i < H.length) : hget (hset H i g cs) i = some (g, cs) := by
  simp [hget, hset, h]
theorem hget_set_ne {H : Heap} {i j : Nat} (g : Nat) (cs : List AVal) (h : i ≠ j) : hget (hset H i g cs) j = hget H j := by
  simp [hget, hset, List.getElem?_set_ne h]
theorem hlen_set (H : Heap) (i g : Nat) (cs : List AVal) : (hset H i g cs).length = H.length := by simp [hset]
theorem hset_set (H : Heap) (i g g' : Nat) (cs ds : List AVal) : hset (hset H i g cs) i g' ds = hset H i g' ds := by simp [hset]

/-! ### A slice that is being built -/
def Bld (H0 : Heap) (v : AVal) (H : Heap) (l : List AVal) : Prop :=
  (l = [] ∧ (v = .nilS ∨ v = .sl true 0 []) ∧ H = H0) ∨ ∃ g, v = .own H0.length g 1 0 l.length ∧ H = hnew H0 g l
theorem bld_nil (H : Heap) : Bld H .nilS H [] := .inl ⟨rfl, .inl rfl, rfl⟩
theorem bld_lit (H : Heap) : Bld H (.sl true 0 []) H [] := .inl ⟨rfl, .inr rfl, rfl⟩
/-- An empty literal. -/
theorem rLIT0 {H : Heap} {K : AVal → Heap → Prop} (k : K (.sl true 0 []) H) : BSK 1 [] H K := .inr k
theorem rLIT1 {H : Heap} {c : AVal} {K : AVal → Heap → Prop} (hc : c.one = true) (k : K (.sl true 1 [c]) H) : BSK 1 [c] H K := by
  have : allCells 1 [c] fun cs => (∀ g, K (.own H.length g 1 0 1) (hnew H g cs)) ∨ K (.sl true 1 cs) H := by
    simp only [allCells, cellsOfV]
    cases c <;> first | exact ⟨hc, rfl, .inr k⟩ | cases hc
  exact this
theorem rAPK1 {H0 H : Heap} {v c : AVal} {l : List AVal} {b : Bool} {K : AVal → Heap → Prop} (h : Bld H0 v H l) (hl : l.length < 1000000000) (k : ∀ v' H', Bld H0 v' H' (l ++ [c]) → K v' H') :
    APK 1 H v (.sl b 1 [c]) K := by
  unfold APK elemsOf
  refine ⟨rfl, ?_⟩
  rcases h with ⟨rfl, rfl | rfl, rfl⟩ | ⟨g, rfl, rfl⟩
  · exact ⟨by omega, (fun h => by cases h), fun _ g => k _ _ (.inr ⟨g, rfl, rfl⟩)⟩
  · exact ⟨rfl, by omega, (fun h => by cases h), fun _ g => k _ _ (.inr ⟨g, by simp, by simp⟩)⟩
  · refine ⟨rfl, rfl, by omega, l, hget_new _ _ _, by omega, fun g' => ?_⟩
    rw [hset_new]
    refine k _ _ (.inr ⟨g', by simp, by simp⟩)
theorem Bld.sub {H0 H : Heap} {v : AVal} {l : List AVal} (h : Bld H0 v H l) : HSub H0 H := by
  rcases h with ⟨_, _, rfl⟩ | ⟨g, _, rfl⟩
  · exact HSub.refl _
  · exact hsub_new _ _ _
theorem hget_nw_new (H : Heap) (g : Nat) (cs : List AVal) : hget (nw H (hnew H g cs)) H.length = some (g, cs) := by
  rw [hget_nw, show Nat.blt H.length H.length = false from by cases h : Nat.blt H.length H.length with | false => rfl | true => exact absurd (blt_f h) (Nat.lt_irrefl _), cond_false, hget_new]
/-- What has been built, as a value. -/
theorem Bld.pur {α : Type} {R : AVal → α → Prop} {xs : List α} {H0 H : Heap} {v : AVal} {l : List AVal} (h : Bld H0 v H l) (hl : l.length = xs.length) (hr : ∀ (i : Nat) (c : AVal) (a : α), l[i]? = some c → xs[i]? = some a → R c a) :
    ∃ v', Pur (nw H0 H) 1 v v' ∧ IsSl R v' xs := by
  rcases h with ⟨rfl, rfl | rfl, rfl⟩ | ⟨g, rfl, rfl⟩
  · exact ⟨.nilS, Pur.refl _ _ _, .inl ⟨rfl, (List.eq_nil_of_length_eq_zero (by simpa using hl.symm))⟩⟩
  · exact ⟨.sl true 0 [], Pur.refl _ _ _, isSl_mk (by simpa using hl) hl hr⟩
  · refine ⟨.sl false l.length l, .inr ⟨l, l, hget_nw_new _ _ _, by omega, rfl, ?_⟩, isSl_mk hl hl hr⟩
    rw [List.drop_zero, List.take_of_length_le (by omega)]
    exact All2.refl (fun v => rfl) l
theorem Bld.done {α : Type} {R : AVal → α → Prop} {xs : List α} {H0 H : Heap} {v : AVal} {l : List AVal} {Q : AVal → Heap → Prop} (h : Bld H0 v H l) (hl : l.length = xs.length) (hr : ∀ (i : Nat) (c : AVal) (a : α), l[i]? = some c → xs[i]? = some a → R c a)
    (hq : ∀ r, IsSl R r xs → Q r H0) : HSub H0 H ∧ ∃ k r', Pur (nw H0 H) k v r' ∧ Q r' H0 := by
  obtain ⟨v', h1, h2⟩ := h.pur hl hr
  exact ⟨h.sub, 1, v', h1, hq v' h2⟩
theorem Bld.ints {H0 H : Heap} {v : AVal} {xs : List Int} {Q : AVal → Heap → Prop} (h : Bld H0 v H (xs.map I)) (hq : ∀ r, IsInts r xs → Q r H0) : HSub H0 H ∧ ∃ k r', Pur (nw H0 H) k v r' ∧ Q r' H0 :=
  h.done (by simp) (fun i c a hc ha => by rw [List.getElem?_map, ha] at hc; cases hc; rfl) hq

theorem IsSl.one {α : Type} {R : AVal → α → Prop} {v : AVal} {l : List α} (h : IsSl R v l) : v.one = true := by
  rcases h with ⟨rfl, _⟩ | ⟨x, cs, rfl, _⟩ <;> rfl
theorem rBOX {v : AVal} {H : Heap} {K : AVal → Heap → Prop} (hv : v.one = true) (k : ∀ g, K (.ptr H.length g 0) (hnew H g [v])) : BOXK v H K := by
  unfold BOXK cellsOfV
  cases v <;> first | exact ⟨hv, k⟩ | cases hv
theorem rLDp {H : Heap} {i g : Nat} {v : AVal} {K : AVal → Prop} (h : hget H i = some (g, [v])) (k : K v) : LDK false 1 H (.ptr i g 0) K := ⟨_, h, v, rfl, k⟩
theorem rLDf {H : Heap} {i g o : Nat} {cs : List AVal} {v : AVal} {K : AVal → Prop} (h : hget H i = some (g, cs)) (hc : cs[o]? = some v) (k : K v) : LDK false 1 H (.ptr i g o) K := ⟨_, h, v, hc, k⟩

theorem rNILp {i g o : Nat} {K : AVal → Prop} (k : K (.ptr i g o)) : NILK (.ptr i g o) K := k
theorem rFADp {i g o f : Nat} {K : AVal → Prop} (k : K (.ptr i g (o + f))) : FADK f (.ptr i g o) K := k
theorem rSTp {H : Heap} {i g o : Nat} {cs : List AVal} {v : AVal} {K : Heap → Prop} (h : hget H i = some (g, cs)) (ho : o < cs.length) (hv : v.one = true) (k : K (hset H i g (cs.set o v))) : STK 1 H (.ptr i g o) v K := by
  refine ⟨cs, h, ?_⟩
  cases v <;> first | exact ⟨rfl, hv, ho, k⟩ | cases hv
theorem hset_self {H : Heap} {i g : Nat} {cs : List AVal} (h : hget H i = some (g, cs)) : hset H i g cs = H := by
  unfold hset
  refine List.ext_getElem? fun j => ?_
  by_cases hj : i = j
  · subst hj
    have hl := hlt_of_get h
    rw [List.getElem?_set_self hl]
    unfold hget at h
    rw [List.getElem?_eq_getElem hl] at h ⊢
    simpa using h.symm
  · rw [List.getElem?_set_ne hj]
theorem rICVi {n : Int} {k : IntKind} {K : AVal → Prop} (h : R64 n) (k' : K (I n)) : ICVK .i64 (.int k n) K := by
  simp only [ICVK]; rw [show IntKind.i64.wrap n = n from w64_in h]; exact k'
theorem and255 (n : Int) : 0 ≤ IntKind.u64.wrap (BitVec.ofInt IntKind.u64.bits n &&& BitVec.ofInt IntKind.u64.bits 255).toNat ∧ IntKind.u64.wrap (BitVec.ofInt IntKind.u64.bits n &&& BitVec.ofInt IntKind.u64.bits 255).toNat ≤ 255 := by
  have h : (BitVec.ofInt IntKind.u64.bits n &&& BitVec.ofInt IntKind.u64.bits 255).toNat ≤ 255 := by
    rw [BitVec.toNat_and]
    refine Nat.le_trans Nat.and_le_right ?_
    decide
  generalize (BitVec.ofInt IntKind.u64.bits n &&& BitVec.ofInt IntKind.u64.bits 255).toNat = x at h
  unfold IntKind.wrap
  simp only [IntKind.bits, IntKind.signed]
  simp
  omega

/-! ### Slots of the head of a loop -/
def PurL (H : Heap) (k : Nat) : List (Nat × AVal × AVal) → Prop
  | [] => True
  | p :: ps => Pur H k p.2.1 p.2.2 ∧ PurL H k ps
theorem pur_slots {H : Heap} {k : Nat} : ∀ {l : List (Nat × AVal × AVal)}, PurL H k l → ∀ i, Pur H k (slotsOf (l.map fun p => (p.1, p.2.1)) i) (slotsOf (l.map fun p => (p.1, p.2.2)) i)
  | [], _, i => Pur.refl _ _ _
  | p :: ps, h, i => by
    simp only [List.map_cons, slotsOf]
    cases Nat.beq i p.1 with
    | true => exact h.1
    | false => exact pur_slots h.2 i
theorem at_frz {P : Program} {f : FuncId} {N : Nat} {Q : AVal → Heap → Prop} {ks : List KF} {H Hf Hk : Heap} {k : Nat} {l : List (Nat × AVal × AVal)} (hs : Split H Hf Hk) (hp : PurL Hf k l) (h : At P f N ks Q (slotsOf (l.map fun p => (p.1, p.2.2))) Hk) :
    At P f N ks Q (slotsOf (l.map fun p => (p.1, p.2.1))) H := At.freeze hs k (pur_slots hp) h

end Go.Proofs.Ytccioplhchmilaa.AL
