/-
  Contracts of functions, and what they rest on: Rules for what bodies ask, of values that are lists of numbers, tables and so on. Contracts: small functions on numbers and lists. Contracts: sign matrices, as the program and as the reference tells them. Contracts: equal lists and tables; sign matrices, as the reference tells them. Contracts: turned tables and sign matrices, as the reference tells them. Contracts: what the reference draws. Tables that are owned: their rows stand in blocks of their own. Contracts: tables of zeros, and the matrix of corner sums. Contracts: drawn sign matrices. Contracts: drawn tables.
-/
import Derived.Test.YtccioplhchmilaaA13
import Derived.Test.YtccioplhchmilaaProg
set_option linter.unusedVariables false
set_option linter.unusedSimpArgs false
namespace Go.Proofs.Ytccioplhchmilaa.AL
open Go Go.RowKit

/-! ### Numbers -/
abbrev I (n : Int) : AVal := .int .i64 n
abbrev R64 (n : Int) : Prop := -9223372036854775808 ≤ n ∧ n ≤ 9223372036854775807
def w64 (n : Int) : Int := IntKind.i64.wrap n
theorem w64_in {n : Int} (h : R64 n) : w64 n = n := by
  unfold w64 IntKind.wrap
  simp only [IntKind.bits, IntKind.signed]
  simp
  omega
theorem w64_range (n : Int) : R64 (w64 n) := by
  unfold w64 IntKind.wrap
  simp only [IntKind.bits, IntKind.signed]
  simp
  constructor <;> (split <;> omega)

theorem rADD {a b : Int} {K : AVal → Prop} (h : R64 (a + b)) (k : K (I (a + b))) : BINK .add (I a) (I b) K := by
  simp only [BINK, ariK, true_and]; rw [show IntKind.i64.wrap (a + b) = a + b from w64_in h]; exact k
theorem rSUB {a b : Int} {K : AVal → Prop} (h : R64 (a - b)) (k : K (I (a - b))) : BINK .sub (I a) (I b) K := by
  simp only [BINK, ariK, true_and]; rw [show IntKind.i64.wrap (a - b) = a - b from w64_in h]; exact k
theorem rMUL {a b : Int} {K : AVal → Prop} (h : R64 (a * b)) (k : K (I (a * b))) : BINK .mul (I a) (I b) K := by
  simp only [BINK, ariK, true_and]; rw [show IntKind.i64.wrap (a * b) = a * b from w64_in h]; exact k
theorem rADDw {a b : Int} {K : AVal → Prop} (k : K (I (w64 (a + b)))) : BINK .add (I a) (I b) K := by
  simp only [BINK, ariK, true_and]; exact k
theorem rSUBw {a b : Int} {K : AVal → Prop} (k : K (I (w64 (a - b)))) : BINK .sub (I a) (I b) K := by
  simp only [BINK, ariK, true_and]; exact k
theorem rMULw {a b : Int} {K : AVal → Prop} (k : K (I (w64 (a * b)))) : BINK .mul (I a) (I b) K := by
  simp only [BINK, ariK, true_and]; exact k
theorem rQUO {a b : Int} {K : AVal → Prop} (hb : b ≠ 0) (h : R64 (a.tdiv b)) (k : K (I (a.tdiv b))) : BINK .quo (I a) (I b) K := by
  simp only [BINK, ariK, true_and]; rw [show IntKind.i64.wrap (a.tdiv b) = a.tdiv b from w64_in h]; exact ⟨hb, k⟩
theorem rREM {a b : Int} {K : AVal → Prop} (hb : b ≠ 0) (k : K (I (a.tmod b))) : BINK .rem (I a) (I b) K := by
  simp only [BINK, ariK, true_and]; exact ⟨hb, k⟩
theorem rLSS {k' : IntKind} {a b : Int} {K : AVal → Prop} (k : K (.bool (decide (a < b)))) : BINK .lss (.int k' a) (.int k' b) K := by
  simp only [BINK, ariK, true_and]; exact k
theorem rLEQ {k' : IntKind} {a b : Int} {K : AVal → Prop} (k : K (.bool (decide (a ≤ b)))) : BINK .leq (.int k' a) (.int k' b) K := by
  simp only [BINK, ariK, true_and]; exact k
theorem rGTR {k' : IntKind} {a b : Int} {K : AVal → Prop} (k : K (.bool (decide (b < a)))) : BINK .gtr (.int k' a) (.int k' b) K := by
  simp only [BINK, ariK, true_and]; exact k
theorem rGEQ {k' : IntKind} {a b : Int} {K : AVal → Prop} (k : K (.bool (decide (b ≤ a)))) : BINK .geq (.int k' a) (.int k' b) K := by
  simp only [BINK, ariK, true_and]; exact k
theorem rEQL {k' : IntKind} {a b : Int} {K : AVal → Prop} (k : K (.bool (decide (a = b)))) : BINK .eql (.int k' a) (.int k' b) K := by
  simp only [BINK, ariK, true_and]; exact k
theorem rNEQ {k' : IntKind} {a b : Int} {K : AVal → Prop} (k : K (.bool (decide (a ≠ b)))) : BINK .neq (.int k' a) (.int k' b) K := by
  simp only [BINK, ariK, true_and]
  have : (a != b) = decide (a ≠ b) := by by_cases h : a = b <;> simp [h]
  rw [this]; exact k
theorem rNEG {a : Int} {K : AVal → Prop} (h : R64 (0 - a)) (k : K (I (0 - a))) : NEGK (I a) K := by
  simp only [NEGK]; rw [show IntKind.i64.wrap (0 - a) = 0 - a from w64_in h]; exact k
theorem rNOT {b : Bool} {K : AVal → Prop} (k : K (.bool (!b))) : NOTK (.bool b) K := k

/-! ### Cases -/
theorem rBRKb {b : Bool} {X Y : Prop} (hx : b = true → X) (hy : b = false → Y) : BRK (.bool b) X Y := by cases b with | true => exact hx rfl | false => exact hy rfl
theorem rBRK {p : Prop} [Decidable p] {X Y : Prop} (hx : p → X) (hy : ¬ p → Y) : BRK (.bool (decide p)) X Y := rBRKb (fun h => hx (of_decide_eq_true h)) (fun h => hy (of_decide_eq_false h))
theorem rBRKnb {b : Bool} {X Y : Prop} (hx : b = false → X) (hy : b = true → Y) : BRK (.bool (!b)) X Y := rBRKb (fun h => hx (by simpa using h)) (fun h => hy (by simpa using h))
theorem rBRKn {p : Prop} [Decidable p] {X Y : Prop} (hx : ¬ p → X) (hy : p → Y) : BRK (.bool (!decide p)) X Y := rBRKnb (fun h => hx (of_decide_eq_false h)) (fun h => hy (of_decide_eq_true h))
theorem rSPLb {b : Bool} {X Y : Prop} (hx : b = true → X) (hy : b = false → Y) : SPL (.bool b) X Y := by cases b with | true => exact hx rfl | false => exact hy rfl
theorem rSPL {p : Prop} [Decidable p] {X Y : Prop} (hx : p → X) (hy : ¬ p → Y) : SPL (.bool (decide p)) X Y := rSPLb (fun h => hx (of_decide_eq_true h)) (fun h => hy (of_decide_eq_false h))
theorem rSPLnb {b : Bool} {X Y : Prop} (hx : b = false → X) (hy : b = true → Y) : SPL (.bool (!b)) X Y := rSPLb (fun h => hx (by simpa using h)) (fun h => hy (by simpa using h))
theorem rSPLn {p : Prop} [Decidable p] {X Y : Prop} (hx : ¬ p → X) (hy : p → Y) : SPL (.bool (!decide p)) X Y := rSPLnb (fun h => hx (of_decide_eq_false h)) (fun h => hy (of_decide_eq_true h))
theorem rTT {X : Prop} (h : X) : TT ∧ X := ⟨rfl, h⟩
theorem rRFL {a : Go.Operand} {X : Prop} (h : X) : (a = a) ∧ X := ⟨rfl, h⟩

theorem drop_some {α : Type} {l : List α} {k : Nat} {a : α} (h : l[k]? = some a) : l.drop k = a :: l.drop (k + 1) := by
  obtain ⟨hk, rfl⟩ := List.getElem?_eq_some_iff.1 h
  exact List.drop_eq_getElem_cons hk
theorem take_some {α : Type} {l : List α} {k : Nat} {a : α} (h : l[k]? = some a) : l.take (k + 1) = l.take k ++ [a] := by
  rw [List.take_add_one, h]; rfl
theorem take_someI {α : Type} {l : List α} {k : Nat} {a : α} (h : l[(k : Int).toNat]? = some a) : l.take (k + 1) = l.take k ++ [a] := take_some (by simpa using h)
theorem ex_get {α : Type} {l : List α} {k : Nat} (h : k < l.length) : ∃ a, l[k]? = some a := ⟨_, List.getElem?_eq_getElem h⟩
theorem drop_someI {α : Type} {l : List α} {k : Nat} {a : α} (h : l[(k : Int).toNat]? = some a) : l.drop k = a :: l.drop (k + 1) := drop_some (by simpa using h)

/-! ### Slices that are only read -/
def IsI (v : AVal) (n : Int) : Prop := v = I n
def IsSl {α : Type} (R : AVal → α → Prop) (v : AVal) (l : List α) : Prop :=
  (v = .nilS ∧ l = []) ∨ ∃ x cs, v = .sl x l.length cs ∧ cs.length = l.length ∧ ∀ (i : Nat) (c : AVal) (a : α), cs[i]? = some c → l[i]? = some a → R c a
abbrev IsInts : AVal → List Int → Prop := IsSl IsI
abbrev IsTab : AVal → List (List Int) → Prop := IsSl IsInts
abbrev IsTabs : AVal → List (List (List Int)) → Prop := IsSl IsTab
/-- Where an element stands. -/
def Pt {α : Type} (R : AVal → α → Prop) (p : AVal) (a : α) : Prop := ∃ cs i c, p = .pel cs i ∧ cs[i]? = some c ∧ R c a
section
variable {α : Type} {R : AVal → α → Prop} {v : AVal} {l : List α}
theorem rLEN {K : AVal → Prop} (h : IsSl R v l) (k : K (I l.length)) : LENK v K := by
  rcases h with ⟨rfl, rfl⟩ | ⟨x, cs, rfl, _⟩
  · exact k
  · exact k
theorem rIX {K : AVal → Prop} (h : IsSl R v l) {i : Int} (h0 : 0 ≤ i) (h1 : i < l.length) (k : ∀ (p : AVal) (a : α), l[i.toNat]? = some a → Pt R p a → K p) : IXK 1 v (I i) K := by
  rcases h with ⟨rfl, rfl⟩ | ⟨x, cs, rfl, hc, hr⟩
  · simp at h1; omega
  · refine ⟨h0, h1, ?_⟩
    have hi : i.toNat < l.length := by omega
    refine k _ l[i.toNat] (List.getElem?_eq_getElem hi) ⟨cs, i.toNat * 1, cs[i.toNat]'(by omega), rfl, by simp, hr i.toNat _ _ (by simp) (List.getElem?_eq_getElem hi)⟩
theorem rIXk {K : AVal → Prop} (h : IsSl R v l) {i : Nat} {a : α} (ha : l[i]? = some a) (k : ∀ (p : AVal), Pt R p a → K p) : IXK 1 v (I (i : Int)) K := by
  have hi := (List.getElem?_eq_some_iff.1 ha).1
  refine rIX h (by omega) (by omega) fun p b hb hp => ?_
  simp only [Int.toNat_natCast] at hb
  rw [ha] at hb; cases hb
  exact k p hp
theorem rLD {H : Heap} {p : AVal} {a : α} {K : AVal → Prop} (h : Pt R p a) (k : ∀ c, R c a → K c) : LDK false 1 H p K := by
  obtain ⟨cs, i, c, rfl, hc, hr⟩ := h
  exact ⟨c, hc, k c hr⟩
theorem rLDi {H : Heap} {p : AVal} {a : Int} {K : AVal → Prop} (h : Pt IsI p a) (k : K (I a)) : LDK false 1 H p K := rLD h fun c hc => by cases hc; exact k
theorem isSl_nil : IsSl R .nilS ([] : List α) := .inl ⟨rfl, rfl⟩
theorem isSl_mk {x : Bool} {n : Nat} {cs : List AVal} (hn : n = l.length) (hc : cs.length = l.length) (hr : ∀ (i : Nat) (c : AVal) (a : α), cs[i]? = some c → l[i]? = some a → R c a) : IsSl R (.sl x n cs) l := .inr ⟨x, cs, by rw [hn], hc, hr⟩
theorem isInts_map (x : Bool) (l : List Int) : IsInts (.sl x l.length (l.map I)) l := isSl_mk rfl (by simp) (fun i c a hc ha => by
  rw [List.getElem?_map, ha] at hc; cases hc; rfl)
end

/-! ### Heaps -/
theorem hget_new (H : Heap) (g : Nat) (cs : List AVal) : hget (hnew H g cs) H.length = some (g, cs) := by
  rw [hget_hnew]; simp
theorem hget_old {H : Heap} {i : Nat} (g : Nat) (cs : List AVal) (h : i < H.length) : hget (hnew H g cs) i = hget H i := by
  rw [hget_hnew, if_pos h]
theorem hset_new (H : Heap) (g g' : Nat) (cs ds : List AVal) : hset (hnew H g cs) H.length g' ds = hnew H g' ds := by
  simp [hset, hnew]
theorem hlen_new (H : Heap) (g : Nat) (cs : List AVal) : (hnew H g cs).length = H.length + 1 := by simp [hnew]
theorem hset_old {H : Heap} {i : Nat} (g g' : Nat) (cs ds : List AVal) (h : i < H.length) : hset (hnew H g cs) i g' ds = hnew (hset H i g' ds) g cs := by
  simp [hset, hnew, List.set_append, h]
theorem hlt_of_get {H : Heap} {i g : Nat} {cs : List AVal} (h : hget H i = some (g, cs)) : i < H.length := by
  unfold hget at h
  cases hb : H[i]? with
  | none => rw [hb] at h; cases h
  | some b => exact (List.getElem?_eq_some_iff.1 hb).1
theorem hsub_new (H : Heap) (g : Nat) (cs : List AVal) : HSub H (hnew H g cs) := fun i g' ds h => by rw [hget_old g cs (hlt_of_get h)]; exact h
theorem hget_set {H : Heap} {i : Nat} (g : Nat) (cs : List AVal) (h : i < H.length) : hget (hset H i g cs) i = some (g, cs) := by
  simp [hget, hset, h]
theorem hget_set_ne {H : Heap} {i j : Nat} (g : Nat) (cs : List AVal) (h : i ≠ j) : hget (hset H i g cs) j = hget H j := by
  simp [hget, hset, List.getElem?_set_ne h]
theorem hlen_set (H : Heap) (i g : Nat) (cs : List AVal) : (hset H i g cs).length = H.length := by simp [hset]
theorem hset_set (H : Heap) (i g g' : Nat) (cs ds : List AVal) : hset (hset H i g cs) i g' ds = hset H i g' ds := by simp [hset]

/-! ### A slice that is being built -/
def Bld (H0 : Heap) (v : AVal) (H : Heap) (l : List AVal) : Prop :=
  (l = [] ∧ (v = .nilS ∨ v = .sl true 0 []) ∧ H = H0) ∨ ∃ g, v = .own H0.length g 1 0 l.length ∧ H = hnew H0 g l
theorem bld_nil (H : Heap) : Bld H .nilS H [] := .inl ⟨rfl, .inl rfl, rfl⟩
theorem bld_lit (H : Heap) : Bld H (.sl true 0 []) H [] := .inl ⟨rfl, .inr rfl, rfl⟩
/-- An empty literal. -/
theorem rLIT0 {H : Heap} {K : AVal → Heap → Prop} (k : K (.sl true 0 []) H) : BSK 1 [] H K := .inr k
theorem rLIT1 {H : Heap} {c : AVal} {K : AVal → Heap → Prop} (hc : c.one = true) (k : K (.sl true 1 [c]) H) : BSK 1 [c] H K := by
  have : allCells 1 [c] fun cs => (∀ g, K (.own H.length g 1 0 1) (hnew H g cs)) ∨ K (.sl true 1 cs) H := by
    simp only [allCells, cellsOfV]
    cases c <;> first | exact ⟨hc, rfl, .inr k⟩ | cases hc
  exact this
theorem rAPK1 {H0 H : Heap} {v c : AVal} {l : List AVal} {b : Bool} {K : AVal → Heap → Prop} (h : Bld H0 v H l) (hl : l.length < 1000000000) (k : ∀ v' H', Bld H0 v' H' (l ++ [c]) → K v' H') :
    APK 1 H v (.sl b 1 [c]) K := by
  unfold APK elemsOf
  refine ⟨rfl, ?_⟩
  rcases h with ⟨rfl, rfl | rfl, rfl⟩ | ⟨g, rfl, rfl⟩
  · exact ⟨by omega, (fun h => by cases h), fun _ g => k _ _ (.inr ⟨g, rfl, rfl⟩)⟩
  · exact ⟨rfl, by omega, (fun h => by cases h), fun _ g => k _ _ (.inr ⟨g, by simp, by simp⟩)⟩
  · refine ⟨rfl, rfl, by omega, l, hget_new _ _ _, by omega, fun g' => ?_⟩
    rw [hset_new]
    refine k _ _ (.inr ⟨g', by simp, by simp⟩)
theorem Bld.sub {H0 H : Heap} {v : AVal} {l : List AVal} (h : Bld H0 v H l) : HSub H0 H := by
  rcases h with ⟨_, _, rfl⟩ | ⟨g, _, rfl⟩
  · exact HSub.refl _
  · exact hsub_new _ _ _
theorem hget_nw_new (H : Heap) (g : Nat) (cs : List AVal) : hget (nw H (hnew H g cs)) H.length = some (g, cs) := by
  rw [hget_nw, show Nat.blt H.length H.length = false from by cases h : Nat.blt H.length H.length with | false => rfl | true => exact absurd (blt_f h) (Nat.lt_irrefl _), cond_false, hget_new]
/-- What has been built, as a value. -/
theorem Bld.pur {α : Type} {R : AVal → α → Prop} {xs : List α} {H0 H : Heap} {v : AVal} {l : List AVal} (h : Bld H0 v H l) (hl : l.length = xs.length) (hr : ∀ (i : Nat) (c : AVal) (a : α), l[i]? = some c → xs[i]? = some a → R c a) :
    ∃ v', Pur (nw H0 H) 1 v v' ∧ IsSl R v' xs := by
  rcases h with ⟨rfl, rfl | rfl, rfl⟩ | ⟨g, rfl, rfl⟩
  · exact ⟨.nilS, Pur.refl _ _ _, .inl ⟨rfl, (List.eq_nil_of_length_eq_zero (by simpa using hl.symm))⟩⟩
  · exact ⟨.sl true 0 [], Pur.refl _ _ _, isSl_mk (by simpa using hl) hl hr⟩
  · refine ⟨.sl false l.length l, .inr ⟨l, l, hget_nw_new _ _ _, by omega, rfl, ?_⟩, isSl_mk hl hl hr⟩
    rw [List.drop_zero, List.take_of_length_le (by omega)]
    exact All2.refl (fun v => rfl) l
theorem Bld.done {α : Type} {R : AVal → α → Prop} {xs : List α} {H0 H : Heap} {v : AVal} {l : List AVal} {Q : AVal → Heap → Prop} (h : Bld H0 v H l) (hl : l.length = xs.length) (hr : ∀ (i : Nat) (c : AVal) (a : α), l[i]? = some c → xs[i]? = some a → R c a)
    (hq : ∀ r, IsSl R r xs → Q r H0) : HSub H0 H ∧ ∃ k r', Pur (nw H0 H) k v r' ∧ Q r' H0 := by
  obtain ⟨v', h1, h2⟩ := h.pur hl hr
  exact ⟨h.sub, 1, v', h1, hq v' h2⟩
theorem Bld.ints {H0 H : Heap} {v : AVal} {xs : List Int} {Q : AVal → Heap → Prop} (h : Bld H0 v H (xs.map I)) (hq : ∀ r, IsInts r xs → Q r H0) : HSub H0 H ∧ ∃ k r', Pur (nw H0 H) k v r' ∧ Q r' H0 :=
  h.done (by simp) (fun i c a hc ha => by rw [List.getElem?_map, ha] at hc; cases hc; rfl) hq

theorem IsSl.one {α : Type} {R : AVal → α → Prop} {v : AVal} {l : List α} (h : IsSl R v l) : v.one = true := by
  rcases h with ⟨rfl, _⟩ | ⟨x, cs, rfl, _⟩ <;> rfl
theorem rBOX {v : AVal} {H : Heap} {K : AVal → Heap → Prop} (hv : v.one = true) (k : ∀ g, K (.ptr H.length g 0) (hnew H g [v])) : BOXK v H K := by
  unfold BOXK cellsOfV
  cases v <;> first | exact ⟨hv, k⟩ | cases hv
theorem rLDp {H : Heap} {i g : Nat} {v : AVal} {K : AVal → Prop} (h : hget H i = some (g, [v])) (k : K v) : LDK false 1 H (.ptr i g 0) K := ⟨_, h, v, rfl, k⟩
theorem rLDf {H : Heap} {i g o : Nat} {cs : List AVal} {v : AVal} {K : AVal → Prop} (h : hget H i = some (g, cs)) (hc : cs[o]? = some v) (k : K v) : LDK false 1 H (.ptr i g o) K := ⟨_, h, v, hc, k⟩

theorem rNILp {i g o : Nat} {K : AVal → Prop} (k : K (.ptr i g o)) : NILK (.ptr i g o) K := k
theorem rFADp {i g o f : Nat} {K : AVal → Prop} (k : K (.ptr i g (o + f))) : FADK f (.ptr i g o) K := k
theorem rSTp {H : Heap} {i g o : Nat} {cs : List AVal} {v : AVal} {K : Heap → Prop} (h : hget H i = some (g, cs)) (ho : o < cs.length) (hv : v.one = true) (k : K (hset H i g (cs.set o v))) : STK 1 H (.ptr i g o) v K := by
  refine ⟨cs, h, ?_⟩
  cases v <;> first | exact ⟨rfl, hv, ho, k⟩ | cases hv
theorem hset_self {H : Heap} {i g : Nat} {cs : List AVal} (h : hget H i = some (g, cs)) : hset H i g cs = H := by
  unfold hset
  refine List.ext_getElem? fun j => ?_
  by_cases hj : i = j
  · subst hj
    have hl := hlt_of_get h
    rw [List.getElem?_set_self hl]
    unfold hget at h
    rw [List.getElem?_eq_getElem hl] at h ⊢
    simpa using h.symm
  · rw [List.getElem?_set_ne hj]
theorem rICVi {n : Int} {k : IntKind} {K : AVal → Prop} (h : R64 n) (k' : K (I n)) : ICVK .i64 (.int k n) K := by
  simp only [ICVK]; rw [show IntKind.i64.wrap n = n from w64_in h]; exact k'
theorem and255 (n : Int) : 0 ≤ IntKind.u64.wrap (BitVec.ofInt IntKind.u64.bits n &&& BitVec.ofInt IntKind.u64.bits 255).toNat ∧ IntKind.u64.wrap (BitVec.ofInt IntKind.u64.bits n &&& BitVec.ofInt IntKind.u64.bits 255).toNat ≤ 255 := by
  have h : (BitVec.ofInt IntKind.u64.bits n &&& BitVec.ofInt IntKind.u64.bits 255).toNat ≤ 255 := by
    rw [BitVec.toNat_and]
    refine Nat.le_trans Nat.and_le_right ?_
    decide
  generalize (BitVec.ofInt IntKind.u64.bits n &&& BitVec.ofInt IntKind.u64.bits 255).toNat = x at h
  unfold IntKind.wrap
  simp only [IntKind.bits, IntKind.signed]
  simp
  omega

/-! ### Slots of the head of a loop -/
def PurL (H : Heap) (k : Nat) : List (Nat × AVal × AVal) → Prop
  | [] => True
  | p :: ps => Pur H k p.2.1 p.2.2 ∧ PurL H k ps
theorem pur_slots {H : Heap} {k : Nat} : ∀ {l : List (Nat × AVal × AVal)}, PurL H k l → ∀ i, Pur H k (slotsOf (l.map fun p => (p.1, p.2.1)) i) (slotsOf (l.map fun p => (p.1, p.2.2)) i)
  | [], _, i => Pur.refl _ _ _
  | p :: ps, h, i => by
    simp only [List.map_cons, slotsOf]
    cases Nat.beq i p.1 with
    | true => exact h.1
    | false => exact pur_slots h.2 i
theorem at_frz {P : Program} {f : FuncId} {N : Nat} {Q : AVal → Heap → Prop} {ks : List KF} {H Hf Hk : Heap} {k : Nat} {l : List (Nat × AVal × AVal)} (hs : Split H Hf Hk) (hp : PurL Hf k l) (h : At P f N ks Q (slotsOf (l.map fun p => (p.1, p.2.2))) Hk) :
    At P f N ks Q (slotsOf (l.map fun p => (p.1, p.2.1))) H := At.freeze hs k (pur_slots hp) h

theorem rIXo {b g n i : Nat} {K : AVal → Prop} (h : i < n) (k : K (.ptr b g i)) : IXK 1 (.own b g 1 0 n) (I (i : Int)) K := by
  refine ⟨rfl, by omega, by omega, ?_⟩
  simpa using k
theorem rLENo {b g es off n : Nat} {K : AVal → Prop} (k : K (I n)) : LENK (.own b g es off n) K := k
theorem rEXT0 {a : AVal} {l : List AVal} {K : AVal → Prop} (h : K a) : EXTK (.tup (a :: l)) 0 K := ⟨_, rfl, h⟩
theorem rEXT1 {a b : AVal} {l : List AVal} {K : AVal → Prop} (h : K b) : EXTK (.tup (a :: b :: l)) 1 K := ⟨_, rfl, h⟩
theorem rEXT2 {a b c : AVal} {l : List AVal} {K : AVal → Prop} (h : K c) : EXTK (.tup (a :: b :: c :: l)) 2 K := ⟨_, rfl, h⟩
theorem rNEB {a b : Bool} {K : AVal → Prop} (h : K (.bool (a != b))) : EQB .neq (.bool a) (.bool b) K := h
theorem rEQB {a b : Bool} {K : AVal → Prop} (h : K (.bool (a == b))) : EQB .eql (.bool a) (.bool b) K := h
theorem rSPt {b : Bool} {X Y : Prop} (hb : b = true) (h : X) : SPL (.bool b) X Y := rSPLb (fun _ => h) (fun h' => by rw [hb] at h'; cases h')
theorem rSPf {b : Bool} {X Y : Prop} (hb : b = false) (h : Y) : SPL (.bool b) X Y := rSPLb (fun h' => by rw [hb] at h'; cases h') (fun _ => h)
theorem rBRt {b : Bool} {X Y : Prop} (hb : b = true) (h : X) : BRK (.bool b) X Y := rBRKb (fun _ => h) (fun h' => by rw [hb] at h'; cases h')
theorem rBRf {b : Bool} {X Y : Prop} (hb : b = false) (h : Y) : BRK (.bool b) X Y := rBRKb (fun h' => by rw [hb] at h'; cases h') (fun _ => h)

/-! Reading what is asked again. -/
theorem rIXq {α : Type} {R : AVal → α → Prop} {v : AVal} {l : List α} {K : AVal → Prop} (h : IsSl R v l) {i : Nat} {a : α} (ha : l[i]? = some a) (k : ∀ cs o c, cs[o]? = some c → R c a → K (.pel cs o)) : IXK 1 v (I (i : Int)) K := by
  refine rIXk h ha fun p hp => ?_
  obtain ⟨cs, o, c, rfl, h1, h2⟩ := hp
  exact k cs o c h1 h2
theorem rIXqi {v : AVal} {l : List Int} {K : AVal → Prop} (h : IsInts v l) {i : Nat} {a : Int} (ha : l[i]? = some a) (k : ∀ cs o, cs[o]? = some (I a) → K (.pel cs o)) : IXK 1 v (I (i : Int)) K :=
  rIXq h ha fun cs o c h1 h2 => by cases h2; exact k cs o h1
theorem rLDq {H : Heap} {cs : List AVal} {o : Nat} {c : AVal} {K : AVal → Prop} (h : cs[o]? = some c) (k : K c) : LDK false 1 H (.pel cs o) K := ⟨c, h, k⟩

end Go.Proofs.Ytccioplhchmilaa.AL

set_option linter.unusedVariables false
set_option maxRecDepth 100000
namespace Go.Proofs.Ytccioplhchmilaa.AL
open Go Go.Proofs

theorem mixed : Try.prog.follows .mixedOrders = true := by kernel_rfl

/-! impl.within (slots: 0 n, 1 low, 2 high, 3 n, 4 low, 5 high) -/
namespace impl_within
def lv : List (Nat × List Nat) := []
def start_vc (Q : AVal → Heap → Prop) (a0 a1 a2 : AVal) (H : Heap) : Prop :=
 BINK .leq a1 a0 fun x1 =>
 SPL x1 (BINK .leq a0 a2 fun x2 =>
 Q x2 H) (Q (AVal.bool false) H)
theorem start_eq (Q : AVal → Heap → Prop) (a0 a1 a2 : AVal) (H : Heap) : vs Try.prog lv 102 15 Try.f102.results.toList Q true 1000 [.sq (bodyOf Try.f102)] (entry [a0, a1, a2]) H = start_vc Q a0 a1 a2 H := by kernel_rfl
theorem start {Q : AVal → Heap → Prop} {a0 a1 a2 : AVal} {H : Heap} (h : start_vc Q a0 a1 a2 H) : ACalls Try.prog 102 [a0, a1, a2] H Q := acalls_vs (lv := lv) mixed Try.func102 rfl (by kernel_rfl) (by kernel_rfl) (start_eq Q a0 a1 a2 H ▸ h)
end impl_within

/-! impl.bit (slots: 0 b, 1 b) -/
namespace impl_bit
def lv : List (Nat × List Nat) := []
def start_vc (Q : AVal → Heap → Prop) (a0 : AVal) (H : Heap) : Prop :=
 BRK a0 (Q (AVal.int .i64 1) H) (Q (AVal.int .i64 0) H)
theorem start_eq (Q : AVal → Heap → Prop) (a0 : AVal) (H : Heap) : vs Try.prog lv 130 4 Try.f130.results.toList Q true 1000 [.sq (bodyOf Try.f130)] (entry [a0]) H = start_vc Q a0 H := by kernel_rfl
theorem start {Q : AVal → Heap → Prop} {a0 : AVal} {H : Heap} (h : start_vc Q a0 H) : ACalls Try.prog 130 [a0] H Q := acalls_vs (lv := lv) mixed Try.func130 rfl (by kernel_rfl) (by kernel_rfl) (start_eq Q a0 H ▸ h)
end impl_bit

/-! impl.sum (slots: 0 list, 1 list, 3 all, 4 _, 5 n) -/
namespace impl_sum
def lv : List (Nat × List Nat) := [(3, [3, 6, 7, 8])]
noncomputable def K3 : List KF := [.lp (cB (cB (cR (cL (cR (cR (bodyOf Try.f136))))))), .bl 0, .sq (cR (cR (cR (bodyOf Try.f136))))]
def L3 (Q : AVal → Heap → Prop) (v3 v6 v7 v8 : AVal) (H : Heap) : Prop := At Try.prog 136 17 K3 Q (slotsOf [(3, v3), (6, v6), (7, v7), (8, v8)]) H
theorem L3_frz {Q : AVal → Heap → Prop} {v3 v6 v7 v8 w3 w6 w7 w8 : AVal} {H Hf Hk : Heap} {k : Nat} (hs : Split H Hf Hk) (hp : PurL Hf k [(3, v3, w3), (6, v6, w6), (7, v7, w7), (8, v8, w8)]) (h : L3 Q w3 w6 w7 w8 Hk) : L3 Q v3 v6 v7 v8 H := at_frz (ks := K3) hs hp h
def start_vc (Q : AVal → Heap → Prop) (a0 : AVal) (H : Heap) : Prop :=
 LENK a0 fun x1 =>
 impl_sum.L3 Q (AVal.int .i64 0) a0 x1 (AVal.int .i64 0) H
theorem start_eq (Q : AVal → Heap → Prop) (a0 : AVal) (H : Heap) : vs Try.prog lv 136 17 Try.f136.results.toList Q true 1000 [.sq (bodyOf Try.f136)] (entry [a0]) H = start_vc Q a0 H := by kernel_rfl
theorem start {Q : AVal → Heap → Prop} {a0 : AVal} {H : Heap} (h : start_vc Q a0 H) : ACalls Try.prog 136 [a0] H Q := acalls_vs (lv := lv) mixed Try.func136 rfl (by kernel_rfl) (by kernel_rfl) (start_eq Q a0 H ▸ h)
def step3_vc (Q : AVal → Heap → Prop) (v3 v6 v7 v8 : AVal) (H : Heap) : Prop :=
 BINK .lss v8 v7 fun x1 =>
 BRK x1 (TT ∧ IXK 1 v6 v8 fun x2 =>
 TT ∧ TT ∧ LDK false 1 H x2 fun x3 =>
 BINK .add v3 x3 fun x4 =>
 BINK .add v8 (AVal.int .i64 1) fun x5 =>
 impl_sum.L3 Q x4 v6 v7 x5 H) (Q v3 H)
theorem step3_eq (Q : AVal → Heap → Prop) (v3 v6 v7 v8 : AVal) (H : Heap) : vs Try.prog lv 136 17 Try.f136.results.toList Q true 1000 (.sq (cB (cB (cR (cL (cR (cR (bodyOf Try.f136))))))) :: K3) (slotsOf [(3, v3), (6, v6), (7, v7), (8, v8)]) H = step3_vc Q v3 v6 v7 v8 H := by kernel_rfl
theorem step3 {Q : AVal → Heap → Prop} {v3 v6 v7 v8 : AVal} {H : Heap} (h : step3_vc Q v3 v6 v7 v8 H) : L3 Q v3 v6 v7 v8 H := at_lp_vs (lv := lv) (ks := K3.tail) mixed Try.func136 (step3_eq Q v3 v6 v7 v8 H ▸ h)
end impl_sum

/-! impl.isSide (slots: 0 n, 1 n) -/
namespace impl_isSide
def lv : List (Nat × List Nat) := []
def start_vc (Q : AVal → Heap → Prop) (a0 : AVal) (H : Heap) : Prop :=
 ACalls Try.prog 102 [a0, (AVal.int .i64 1), (AVal.int .i64 6)] H fun x1 H2 =>
 Q x1 H2
theorem start_eq (Q : AVal → Heap → Prop) (a0 : AVal) (H : Heap) : vs Try.prog lv 80 5 Try.f80.results.toList Q true 1000 [.sq (bodyOf Try.f80)] (entry [a0]) H = start_vc Q a0 H := by kernel_rfl
theorem start {Q : AVal → Heap → Prop} {a0 : AVal} {H : Heap} (h : start_vc Q a0 H) : ACalls Try.prog 80 [a0] H Q := acalls_vs (lv := lv) mixed Try.func80 rfl (by kernel_rfl) (by kernel_rfl) (start_eq Q a0 H ▸ h)
end impl_isSide

/-! impl.alternate (slots: 0 list, 1 list, 3 s, 4 _, 5 n) -/
namespace impl_alternate
def lv : List (Nat × List Nat) := [(3, [3, 6, 7, 8])]
noncomputable def K3 : List KF := [.lp (cB (cB (cR (cL (cR (cR (bodyOf Try.f93))))))), .bl 0, .sq (cR (cR (cR (bodyOf Try.f93))))]
def L3 (Q : AVal → Heap → Prop) (v3 v6 v7 v8 : AVal) (H : Heap) : Prop := At Try.prog 93 26 K3 Q (slotsOf [(3, v3), (6, v6), (7, v7), (8, v8)]) H
theorem L3_frz {Q : AVal → Heap → Prop} {v3 v6 v7 v8 w3 w6 w7 w8 : AVal} {H Hf Hk : Heap} {k : Nat} (hs : Split H Hf Hk) (hp : PurL Hf k [(3, v3, w3), (6, v6, w6), (7, v7, w7), (8, v8, w8)]) (h : L3 Q w3 w6 w7 w8 Hk) : L3 Q v3 v6 v7 v8 H := at_frz (ks := K3) hs hp h
def start_vc (Q : AVal → Heap → Prop) (a0 : AVal) (H : Heap) : Prop :=
 LENK a0 fun x1 =>
 impl_alternate.L3 Q (AVal.int .i64 0) a0 x1 (AVal.int .i64 0) H
theorem start_eq (Q : AVal → Heap → Prop) (a0 : AVal) (H : Heap) : vs Try.prog lv 93 26 Try.f93.results.toList Q true 1000 [.sq (bodyOf Try.f93)] (entry [a0]) H = start_vc Q a0 H := by kernel_rfl
theorem start {Q : AVal → Heap → Prop} {a0 : AVal} {H : Heap} (h : start_vc Q a0 H) : ACalls Try.prog 93 [a0] H Q := acalls_vs (lv := lv) mixed Try.func93 rfl (by kernel_rfl) (by kernel_rfl) (start_eq Q a0 H ▸ h)
def step3_vc (Q : AVal → Heap → Prop) (v3 v6 v7 v8 : AVal) (H : Heap) : Prop :=
 BINK .lss v8 v7 fun x1 =>
 BRK x1 (TT ∧ IXK 1 v6 v8 fun x2 =>
 TT ∧ TT ∧ LDK false 1 H x2 fun x3 =>
 BINK .add v3 x3 fun x4 =>
 ACalls Try.prog 102 [x3, (AVal.int .i64 (-1)), (AVal.int .i64 1)] H fun x5 H6 =>
 NOTK x5 fun x7 =>
 SPL x7 (Q (AVal.bool false) H6) (ACalls Try.prog 102 [x4, (AVal.int .i64 0), (AVal.int .i64 1)] H6 fun x8 H9 =>
 NOTK x8 fun x10 =>
 BRK x10 (Q (AVal.bool false) H9) (BINK .add v8 (AVal.int .i64 1) fun x11 =>
 impl_alternate.L3 Q x4 v6 v7 x11 H9))) (BINK .eql v3 (AVal.int .i64 1) fun x12 =>
 Q x12 H)
theorem step3_eq (Q : AVal → Heap → Prop) (v3 v6 v7 v8 : AVal) (H : Heap) : vs Try.prog lv 93 26 Try.f93.results.toList Q true 1000 (.sq (cB (cB (cR (cL (cR (cR (bodyOf Try.f93))))))) :: K3) (slotsOf [(3, v3), (6, v6), (7, v7), (8, v8)]) H = step3_vc Q v3 v6 v7 v8 H := by kernel_rfl
theorem step3 {Q : AVal → Heap → Prop} {v3 v6 v7 v8 : AVal} {H : Heap} (h : step3_vc Q v3 v6 v7 v8 H) : L3 Q v3 v6 v7 v8 H := at_lp_vs (lv := lv) (ks := K3.tail) mixed Try.func93 (step3_eq Q v3 v6 v7 v8 H ▸ h)
end impl_alternate

/-! impl.column (slots: 0 m, 1 j, 2 m, 3 j, 5 out, 6 _, 7 row) -/
namespace impl_column
def lv : List (Nat × List Nat) := [(3, [1, 5, 9, 10, 11])]
noncomputable def K3 : List KF := [.lp (cB (cB (cR (cL (cR (cR (bodyOf Try.f94))))))), .bl 0, .sq (cR (cR (cR (bodyOf Try.f94))))]
def L3 (Q : AVal → Heap → Prop) (v1 v5 v9 v10 v11 : AVal) (H : Heap) : Prop := At Try.prog 94 24 K3 Q (slotsOf [(1, v1), (5, v5), (9, v9), (10, v10), (11, v11)]) H
theorem L3_frz {Q : AVal → Heap → Prop} {v1 v5 v9 v10 v11 w1 w5 w9 w10 w11 : AVal} {H Hf Hk : Heap} {k : Nat} (hs : Split H Hf Hk) (hp : PurL Hf k [(1, v1, w1), (5, v5, w5), (9, v9, w9), (10, v10, w10), (11, v11, w11)]) (h : L3 Q w1 w5 w9 w10 w11 Hk) : L3 Q v1 v5 v9 v10 v11 H := at_frz (ks := K3) hs hp h
def start_vc (Q : AVal → Heap → Prop) (a0 a1 : AVal) (H : Heap) : Prop :=
 TT ∧ TT ∧ TT ∧ BSK 1 [] H fun x1 H2 =>
 LENK a0 fun x3 =>
 impl_column.L3 Q a1 x1 a0 x3 (AVal.int .i64 0) H2
theorem start_eq (Q : AVal → Heap → Prop) (a0 a1 : AVal) (H : Heap) : vs Try.prog lv 94 24 Try.f94.results.toList Q true 1000 [.sq (bodyOf Try.f94)] (entry [a0, a1]) H = start_vc Q a0 a1 H := by kernel_rfl
theorem start {Q : AVal → Heap → Prop} {a0 a1 : AVal} {H : Heap} (h : start_vc Q a0 a1 H) : ACalls Try.prog 94 [a0, a1] H Q := acalls_vs (lv := lv) mixed Try.func94 rfl (by kernel_rfl) (by kernel_rfl) (start_eq Q a0 a1 H ▸ h)
def step3_vc (Q : AVal → Heap → Prop) (v1 v5 v9 v10 v11 : AVal) (H : Heap) : Prop :=
 BINK .lss v11 v10 fun x1 =>
 BRK x1 (TT ∧ IXK 1 v9 v11 fun x2 =>
 TT ∧ TT ∧ LDK false 1 H x2 fun x3 =>
 TT ∧ IXK 1 x3 v1 fun x4 =>
 TT ∧ TT ∧ LDK false 1 H x4 fun x5 =>
 TT ∧ TT ∧ TT ∧ BSK 1 [x5] H fun x6 H7 =>
 TT ∧ TT ∧ APK 1 H7 v5 x6 fun x8 H9 =>
 BINK .add v11 (AVal.int .i64 1) fun x10 =>
 impl_column.L3 Q v1 x8 v9 v10 x10 H9) (Q v5 H)
theorem step3_eq (Q : AVal → Heap → Prop) (v1 v5 v9 v10 v11 : AVal) (H : Heap) : vs Try.prog lv 94 24 Try.f94.results.toList Q true 1000 (.sq (cB (cB (cR (cL (cR (cR (bodyOf Try.f94))))))) :: K3) (slotsOf [(1, v1), (5, v5), (9, v9), (10, v10), (11, v11)]) H = step3_vc Q v1 v5 v9 v10 v11 H := by kernel_rfl
theorem step3 {Q : AVal → Heap → Prop} {v1 v5 v9 v10 v11 : AVal} {H : Heap} (h : step3_vc Q v1 v5 v9 v10 v11 H) : L3 Q v1 v5 v9 v10 v11 H := at_lp_vs (lv := lv) (ks := K3.tail) mixed Try.func94 (step3_eq Q v1 v5 v9 v10 v11 H ▸ h)
end impl_column


theorem within_ok {n lo hi : Int} {H : Heap} : ACalls Try.prog 102 [I n, I lo, I hi] H fun r H' => r = .bool (decide (lo ≤ n ∧ n ≤ hi)) ∧ H' = H := by
  apply impl_within.start
  unfold impl_within.start_vc
  repeat' (with_reducible first
 | refine rTT ?_
 | refine rRFL ?_
 | refine rLEN (by assumption) ?_
 | (refine rIXk (by assumption) (by assumption) ?_; intro p hp)
 | (refine rIX (by assumption) (by omega) (by omega) ?_; intro p a ha hp)
 | refine rLDi (by assumption) ?_
 | (refine rLD (by assumption) ?_; intro c hc)
 | refine rADD (by omega) ?_
 | refine rSUB (by omega) ?_
 | refine rLSS ?_
 | refine rLEQ ?_
 | refine rGTR ?_
 | refine rGEQ ?_
 | refine rEQL ?_
 | refine rNEQ ?_
 | refine rNOT ?_
 | (refine rBRK ?_ ?_ <;> intro hb)
 | (refine rBRKn ?_ ?_ <;> intro hb)
 | (refine rBRKnb ?_ ?_ <;> intro hb)
 | (refine rBRKb ?_ ?_ <;> intro hb)
 | (refine rSPL ?_ ?_ <;> intro hb)
 | (refine rSPLn ?_ ?_ <;> intro hb)
 | (refine rSPLnb ?_ ?_ <;> intro hb)
 | (refine rSPLb ?_ ?_ <;> intro hb)
 | (exfalso; omega))
  · exact ⟨by simp [hb], rfl⟩
  · exact ⟨by simp [hb], rfl⟩

theorem isSide_ok {n : Int} {H : Heap} : ACalls Try.prog 80 [I n] H fun r H' => r = .bool (decide (1 ≤ n ∧ n ≤ 6)) ∧ H' = H := by
  apply impl_isSide.start
  unfold impl_isSide.start_vc
  exact within_ok

def sumW (l : List Int) : Int := l.foldl (fun s x => w64 (s + x)) 0
theorem sum_loop {l : List Int} {v : AVal} (hv : IsInts v l) (hl : l.length ≤ 1000000000) {H : Heap} {Q : AVal → Heap → Prop} : ∀ (n k : Nat) (s : Int), k + n = l.length → Q (I ((l.drop k).foldl (fun s x => w64 (s + x)) s)) H →
    impl_sum.L3 Q (I s) v (I l.length) (I k) H := by
  intro n
  induction n with
  | zero =>
    intro k s hk hq
    apply impl_sum.step3
    unfold impl_sum.step3_vc
    repeat' (with_reducible first
 | refine rTT ?_
 | refine rRFL ?_
 | refine rLEN (by assumption) ?_
 | (refine rIXk (by assumption) (by assumption) ?_; intro p hp)
 | (refine rIX (by assumption) (by omega) (by omega) ?_; intro p a ha hp)
 | refine rLDi (by assumption) ?_
 | (refine rLD (by assumption) ?_; intro c hc)
 | refine rADD (by omega) ?_
 | refine rSUB (by omega) ?_
 | refine rLSS ?_
 | refine rLEQ ?_
 | refine rGTR ?_
 | refine rGEQ ?_
 | refine rEQL ?_
 | refine rNEQ ?_
 | refine rNOT ?_
 | (refine rBRK ?_ ?_ <;> intro hb)
 | (refine rBRKn ?_ ?_ <;> intro hb)
 | (refine rBRKnb ?_ ?_ <;> intro hb)
 | (refine rBRKb ?_ ?_ <;> intro hb)
 | (refine rSPL ?_ ?_ <;> intro hb)
 | (refine rSPLn ?_ ?_ <;> intro hb)
 | (refine rSPLnb ?_ ?_ <;> intro hb)
 | (refine rSPLb ?_ ?_ <;> intro hb)
 | (exfalso; omega))
    rw [List.drop_eq_nil_of_le (by omega)] at hq
    exact hq
  | succ n ih =>
    intro k s hk hq
    apply impl_sum.step3
    unfold impl_sum.step3_vc
    repeat' (with_reducible first
 | refine rTT ?_
 | refine rRFL ?_
 | refine rLEN (by assumption) ?_
 | (refine rIXk (by assumption) (by assumption) ?_; intro p hp)
 | (refine rIX (by assumption) (by omega) (by omega) ?_; intro p a ha hp)
 | refine rLDi (by assumption) ?_
 | (refine rLD (by assumption) ?_; intro c hc)
 | refine rADD (by omega) ?_
 | refine rSUB (by omega) ?_
 | refine rLSS ?_
 | refine rLEQ ?_
 | refine rGTR ?_
 | refine rGEQ ?_
 | refine rEQL ?_
 | refine rNEQ ?_
 | refine rNOT ?_
 | (refine rBRK ?_ ?_ <;> intro hb)
 | (refine rBRKn ?_ ?_ <;> intro hb)
 | (refine rBRKnb ?_ ?_ <;> intro hb)
 | (refine rBRKb ?_ ?_ <;> intro hb)
 | (refine rSPL ?_ ?_ <;> intro hb)
 | (refine rSPLn ?_ ?_ <;> intro hb)
 | (refine rSPLnb ?_ ?_ <;> intro hb)
 | (refine rSPLb ?_ ?_ <;> intro hb)
 | (exfalso; omega))
    refine rADDw ?_
    repeat' (with_reducible first
 | refine rTT ?_
 | refine rRFL ?_
 | refine rLEN (by assumption) ?_
 | (refine rIXk (by assumption) (by assumption) ?_; intro p hp)
 | (refine rIX (by assumption) (by omega) (by omega) ?_; intro p a ha hp)
 | refine rLDi (by assumption) ?_
 | (refine rLD (by assumption) ?_; intro c hc)
 | refine rADD (by omega) ?_
 | refine rSUB (by omega) ?_
 | refine rLSS ?_
 | refine rLEQ ?_
 | refine rGTR ?_
 | refine rGEQ ?_
 | refine rEQL ?_
 | refine rNEQ ?_
 | refine rNOT ?_
 | (refine rBRK ?_ ?_ <;> intro hb)
 | (refine rBRKn ?_ ?_ <;> intro hb)
 | (refine rBRKnb ?_ ?_ <;> intro hb)
 | (refine rBRKb ?_ ?_ <;> intro hb)
 | (refine rSPL ?_ ?_ <;> intro hb)
 | (refine rSPLn ?_ ?_ <;> intro hb)
 | (refine rSPLnb ?_ ?_ <;> intro hb)
 | (refine rSPLb ?_ ?_ <;> intro hb)
 | (exfalso; omega))
    rw [drop_someI ha] at hq
    exact ih (k + 1) _ (by omega) hq
theorem sum_ok {l : List Int} {v : AVal} (hv : IsInts v l) (hl : l.length ≤ 1000000000) {H : Heap} : ACalls Try.prog 136 [v] H fun r H' => r = I (sumW l) ∧ H' = H := by
  apply impl_sum.start
  unfold impl_sum.start_vc
  repeat' (with_reducible first
 | refine rTT ?_
 | refine rRFL ?_
 | refine rLEN (by assumption) ?_
 | (refine rIXk (by assumption) (by assumption) ?_; intro p hp)
 | (refine rIX (by assumption) (by omega) (by omega) ?_; intro p a ha hp)
 | refine rLDi (by assumption) ?_
 | (refine rLD (by assumption) ?_; intro c hc)
 | refine rADD (by omega) ?_
 | refine rSUB (by omega) ?_
 | refine rLSS ?_
 | refine rLEQ ?_
 | refine rGTR ?_
 | refine rGEQ ?_
 | refine rEQL ?_
 | refine rNEQ ?_
 | refine rNOT ?_
 | (refine rBRK ?_ ?_ <;> intro hb)
 | (refine rBRKn ?_ ?_ <;> intro hb)
 | (refine rBRKnb ?_ ?_ <;> intro hb)
 | (refine rBRKb ?_ ?_ <;> intro hb)
 | (refine rSPL ?_ ?_ <;> intro hb)
 | (refine rSPLn ?_ ?_ <;> intro hb)
 | (refine rSPLnb ?_ ?_ <;> intro hb)
 | (refine rSPLb ?_ ?_ <;> intro hb)
 | (exfalso; omega))
  exact sum_loop hv hl l.length 0 0 (by omega) ⟨by simp [sumW], rfl⟩

/-- the sums of the first numbers are 0 or 1, and that of all is 1 -/
def alternateG : List Int → Int → Bool
  | [], s => decide (s = 1)
  | n :: l, s => let s' := w64 (s + n); decide (-1 ≤ n ∧ n ≤ 1) && decide (0 ≤ s' ∧ s' ≤ 1) && alternateG l s'
def alternateB (l : List Int) : Bool := alternateG l 0
theorem alternate_loop {l : List Int} {v : AVal} (hv : IsInts v l) (hl : l.length ≤ 1000000000) {H : Heap} {Q : AVal → Heap → Prop} : ∀ (n k : Nat) (s : Int), k + n = l.length → Q (.bool (alternateG (l.drop k) s)) H →
    impl_alternate.L3 Q (I s) v (I l.length) (I k) H := by
  intro n
  induction n with
  | zero =>
    intro k s hk hq
    apply impl_alternate.step3
    unfold impl_alternate.step3_vc
    repeat' (with_reducible first
 | refine rTT ?_
 | refine rRFL ?_
 | refine rLEN (by assumption) ?_
 | (refine rIXk (by assumption) (by assumption) ?_; intro p hp)
 | (refine rIX (by assumption) (by omega) (by omega) ?_; intro p a ha hp)
 | refine rLDi (by assumption) ?_
 | (refine rLD (by assumption) ?_; intro c hc)
 | refine rADD (by omega) ?_
 | refine rSUB (by omega) ?_
 | refine rLSS ?_
 | refine rLEQ ?_
 | refine rGTR ?_
 | refine rGEQ ?_
 | refine rEQL ?_
 | refine rNEQ ?_
 | refine rNOT ?_
 | (refine rBRK ?_ ?_ <;> intro hb)
 | (refine rBRKn ?_ ?_ <;> intro hb)
 | (refine rBRKnb ?_ ?_ <;> intro hb)
 | (refine rBRKb ?_ ?_ <;> intro hb)
 | (refine rSPL ?_ ?_ <;> intro hb)
 | (refine rSPLn ?_ ?_ <;> intro hb)
 | (refine rSPLnb ?_ ?_ <;> intro hb)
 | (refine rSPLb ?_ ?_ <;> intro hb)
 | (exfalso; omega))
    rw [List.drop_eq_nil_of_le (by omega)] at hq
    exact hq
  | succ n ih =>
    intro k s hk hq
    apply impl_alternate.step3
    unfold impl_alternate.step3_vc
    repeat' (with_reducible first
 | refine rTT ?_
 | refine rRFL ?_
 | refine rLEN (by assumption) ?_
 | (refine rIXk (by assumption) (by assumption) ?_; intro p hp)
 | (refine rIX (by assumption) (by omega) (by omega) ?_; intro p a ha hp)
 | refine rLDi (by assumption) ?_
 | (refine rLD (by assumption) ?_; intro c hc)
 | refine rADD (by omega) ?_
 | refine rSUB (by omega) ?_
 | refine rLSS ?_
 | refine rLEQ ?_
 | refine rGTR ?_
 | refine rGEQ ?_
 | refine rEQL ?_
 | refine rNEQ ?_
 | refine rNOT ?_
 | (refine rBRK ?_ ?_ <;> intro hb)
 | (refine rBRKn ?_ ?_ <;> intro hb)
 | (refine rBRKnb ?_ ?_ <;> intro hb)
 | (refine rBRKb ?_ ?_ <;> intro hb)
 | (refine rSPL ?_ ?_ <;> intro hb)
 | (refine rSPLn ?_ ?_ <;> intro hb)
 | (refine rSPLnb ?_ ?_ <;> intro hb)
 | (refine rSPLb ?_ ?_ <;> intro hb)
 | (exfalso; omega))
    rw [drop_someI ha] at hq
    refine rADDw ?_
    refine within_ok.mono ?_
    rintro r H' ⟨rfl, rfl⟩
    repeat' (with_reducible first
 | refine rTT ?_
 | refine rRFL ?_
 | refine rLEN (by assumption) ?_
 | (refine rIXk (by assumption) (by assumption) ?_; intro p hp)
 | (refine rIX (by assumption) (by omega) (by omega) ?_; intro p a ha hp)
 | refine rLDi (by assumption) ?_
 | (refine rLD (by assumption) ?_; intro c hc)
 | refine rADD (by omega) ?_
 | refine rSUB (by omega) ?_
 | refine rLSS ?_
 | refine rLEQ ?_
 | refine rGTR ?_
 | refine rGEQ ?_
 | refine rEQL ?_
 | refine rNEQ ?_
 | refine rNOT ?_
 | (refine rBRK ?_ ?_ <;> intro hb)
 | (refine rBRKn ?_ ?_ <;> intro hb)
 | (refine rBRKnb ?_ ?_ <;> intro hb)
 | (refine rBRKb ?_ ?_ <;> intro hb)
 | (refine rSPL ?_ ?_ <;> intro hb)
 | (refine rSPLn ?_ ?_ <;> intro hb)
 | (refine rSPLnb ?_ ?_ <;> intro hb)
 | (refine rSPLb ?_ ?_ <;> intro hb)
 | (exfalso; omega))
    · simp only [alternateG, decide_eq_false hb, Bool.false_and] at hq; exact hq
    · refine within_ok.mono ?_
      rintro r H' ⟨rfl, rfl⟩
      repeat' (with_reducible first
 | refine rTT ?_
 | refine rRFL ?_
 | refine rLEN (by assumption) ?_
 | (refine rIXk (by assumption) (by assumption) ?_; intro p hp)
 | (refine rIX (by assumption) (by omega) (by omega) ?_; intro p a ha hp)
 | refine rLDi (by assumption) ?_
 | (refine rLD (by assumption) ?_; intro c hc)
 | refine rADD (by omega) ?_
 | refine rSUB (by omega) ?_
 | refine rLSS ?_
 | refine rLEQ ?_
 | refine rGTR ?_
 | refine rGEQ ?_
 | refine rEQL ?_
 | refine rNEQ ?_
 | refine rNOT ?_
 | (refine rBRK ?_ ?_ <;> intro hb)
 | (refine rBRKn ?_ ?_ <;> intro hb)
 | (refine rBRKnb ?_ ?_ <;> intro hb)
 | (refine rBRKb ?_ ?_ <;> intro hb)
 | (refine rSPL ?_ ?_ <;> intro hb)
 | (refine rSPLn ?_ ?_ <;> intro hb)
 | (refine rSPLnb ?_ ?_ <;> intro hb)
 | (refine rSPLb ?_ ?_ <;> intro hb)
 | (exfalso; omega))
      · simp only [alternateG, decide_eq_false hb, Bool.and_false, Bool.false_and] at hq; exact hq
      · simp only [alternateG, decide_eq_true ‹-1 ≤ a ∧ a ≤ 1›, decide_eq_true ‹0 ≤ w64 (s + a) ∧ w64 (s + a) ≤ 1›, Bool.true_and] at hq
        exact ih (k + 1) _ (by omega) hq
theorem alternate_ok {l : List Int} {v : AVal} (hv : IsInts v l) (hl : l.length ≤ 1000000000) {H : Heap} : ACalls Try.prog 93 [v] H fun r H' => r = .bool (alternateB l) ∧ H' = H := by
  apply impl_alternate.start
  unfold impl_alternate.start_vc
  repeat' (with_reducible first
 | refine rTT ?_
 | refine rRFL ?_
 | refine rLEN (by assumption) ?_
 | (refine rIXk (by assumption) (by assumption) ?_; intro p hp)
 | (refine rIX (by assumption) (by omega) (by omega) ?_; intro p a ha hp)
 | refine rLDi (by assumption) ?_
 | (refine rLD (by assumption) ?_; intro c hc)
 | refine rADD (by omega) ?_
 | refine rSUB (by omega) ?_
 | refine rLSS ?_
 | refine rLEQ ?_
 | refine rGTR ?_
 | refine rGEQ ?_
 | refine rEQL ?_
 | refine rNEQ ?_
 | refine rNOT ?_
 | (refine rBRK ?_ ?_ <;> intro hb)
 | (refine rBRKn ?_ ?_ <;> intro hb)
 | (refine rBRKnb ?_ ?_ <;> intro hb)
 | (refine rBRKb ?_ ?_ <;> intro hb)
 | (refine rSPL ?_ ?_ <;> intro hb)
 | (refine rSPLn ?_ ?_ <;> intro hb)
 | (refine rSPLnb ?_ ?_ <;> intro hb)
 | (refine rSPLb ?_ ?_ <;> intro hb)
 | (exfalso; omega))
  exact alternate_loop hv hl l.length 0 0 (by omega) ⟨by simp [alternateB], rfl⟩

/-! ### A column -/
def col (t : List (List Int)) (j : Nat) : List Int := t.map fun r => r.getD j 0
theorem column_loop {t : List (List Int)} {j : Nat} {v : AVal} (hv : IsTab v t) (hl : t.length ≤ 1000000) (hj : ∀ r ∈ t, j < r.length) {H0 : Heap} {Q : AVal → Heap → Prop} (hq : ∀ v' H', Bld H0 v' H' ((col t j).map I) → Q v' H') : ∀ (n k : Nat) (vo : AVal) (H : Heap), k + n = t.length → Bld H0 vo H ((col (t.take k) j).map I) →
    impl_column.L3 Q (I j) vo v (I t.length) (I k) H := by
  intro n
  induction n with
  | zero =>
    intro k vo H hk hb0
    apply impl_column.step3
    unfold impl_column.step3_vc
    repeat' (with_reducible first
 | refine rTT ?_
 | refine rRFL ?_
 | refine rLEN (by assumption) ?_
 | (refine rIXk (by assumption) (by assumption) ?_; intro p hp)
 | (refine rIX (by assumption) (by omega) (by omega) ?_; intro p a ha hp)
 | refine rLDi (by assumption) ?_
 | (refine rLD (by assumption) ?_; intro c hc)
 | refine rADD (by omega) ?_
 | refine rSUB (by omega) ?_
 | refine rLSS ?_
 | refine rLEQ ?_
 | refine rGTR ?_
 | refine rGEQ ?_
 | refine rEQL ?_
 | refine rNEQ ?_
 | refine rNOT ?_
 | (refine rBRK ?_ ?_ <;> intro hb)
 | (refine rBRKn ?_ ?_ <;> intro hb)
 | (refine rBRKnb ?_ ?_ <;> intro hb)
 | (refine rBRKb ?_ ?_ <;> intro hb)
 | (refine rSPL ?_ ?_ <;> intro hb)
 | (refine rSPLn ?_ ?_ <;> intro hb)
 | (refine rSPLnb ?_ ?_ <;> intro hb)
 | (refine rSPLb ?_ ?_ <;> intro hb)
 | (exfalso; omega))
    rw [List.take_of_length_le (by omega)] at hb0
    exact hq _ _ hb0
  | succ n ih =>
    intro k vo H hk hb0
    apply impl_column.step3
    unfold impl_column.step3_vc
    repeat' (with_reducible first
 | refine rTT ?_
 | refine rRFL ?_
 | refine rLEN (by assumption) ?_
 | (refine rIXk (by assumption) (by assumption) ?_; intro p hp)
 | (refine rIX (by assumption) (by omega) (by omega) ?_; intro p a ha hp)
 | refine rLDi (by assumption) ?_
 | (refine rLD (by assumption) ?_; intro c hc)
 | refine rADD (by omega) ?_
 | refine rSUB (by omega) ?_
 | refine rLSS ?_
 | refine rLEQ ?_
 | refine rGTR ?_
 | refine rGEQ ?_
 | refine rEQL ?_
 | refine rNEQ ?_
 | refine rNOT ?_
 | (refine rBRK ?_ ?_ <;> intro hb)
 | (refine rBRKn ?_ ?_ <;> intro hb)
 | (refine rBRKnb ?_ ?_ <;> intro hb)
 | (refine rBRKb ?_ ?_ <;> intro hb)
 | (refine rSPL ?_ ?_ <;> intro hb)
 | (refine rSPLn ?_ ?_ <;> intro hb)
 | (refine rSPLnb ?_ ?_ <;> intro hb)
 | (refine rSPLb ?_ ?_ <;> intro hb)
 | (exfalso; omega))
    have ha' : t[k]? = some a := by simpa using ha
    have hja := hj a (List.mem_of_getElem? ha')
    repeat' (with_reducible first
 | refine rTT ?_
 | refine rRFL ?_
 | refine rLEN (by assumption) ?_
 | (refine rIXk (by assumption) (by assumption) ?_; intro p hp)
 | (refine rIX (by assumption) (by omega) (by omega) ?_; intro p a ha hp)
 | refine rLDi (by assumption) ?_
 | (refine rLD (by assumption) ?_; intro c hc)
 | refine rADD (by omega) ?_
 | refine rSUB (by omega) ?_
 | refine rLSS ?_
 | refine rLEQ ?_
 | refine rGTR ?_
 | refine rGEQ ?_
 | refine rEQL ?_
 | refine rNEQ ?_
 | refine rNOT ?_
 | (refine rBRK ?_ ?_ <;> intro hb)
 | (refine rBRKn ?_ ?_ <;> intro hb)
 | (refine rBRKnb ?_ ?_ <;> intro hb)
 | (refine rBRKb ?_ ?_ <;> intro hb)
 | (refine rSPL ?_ ?_ <;> intro hb)
 | (refine rSPLn ?_ ?_ <;> intro hb)
 | (refine rSPLnb ?_ ?_ <;> intro hb)
 | (refine rSPLb ?_ ?_ <;> intro hb)
 | (exfalso; omega))
    refine rLIT1 rfl ?_
    repeat' (with_reducible first
 | refine rTT ?_
 | refine rRFL ?_
 | refine rLEN (by assumption) ?_
 | (refine rIXk (by assumption) (by assumption) ?_; intro p hp)
 | (refine rIX (by assumption) (by omega) (by omega) ?_; intro p a ha hp)
 | refine rLDi (by assumption) ?_
 | (refine rLD (by assumption) ?_; intro c hc)
 | refine rADD (by omega) ?_
 | refine rSUB (by omega) ?_
 | refine rLSS ?_
 | refine rLEQ ?_
 | refine rGTR ?_
 | refine rGEQ ?_
 | refine rEQL ?_
 | refine rNEQ ?_
 | refine rNOT ?_
 | (refine rBRK ?_ ?_ <;> intro hb)
 | (refine rBRKn ?_ ?_ <;> intro hb)
 | (refine rBRKnb ?_ ?_ <;> intro hb)
 | (refine rBRKb ?_ ?_ <;> intro hb)
 | (refine rSPL ?_ ?_ <;> intro hb)
 | (refine rSPLn ?_ ?_ <;> intro hb)
 | (refine rSPLnb ?_ ?_ <;> intro hb)
 | (refine rSPLb ?_ ?_ <;> intro hb)
 | (exfalso; omega))
    refine rAPK1 hb0 (by simp [col]; omega) fun v' H' hb1 => ?_
    repeat' (with_reducible first
 | refine rTT ?_
 | refine rRFL ?_
 | refine rLEN (by assumption) ?_
 | (refine rIXk (by assumption) (by assumption) ?_; intro p hp)
 | (refine rIX (by assumption) (by omega) (by omega) ?_; intro p a ha hp)
 | refine rLDi (by assumption) ?_
 | (refine rLD (by assumption) ?_; intro c hc)
 | refine rADD (by omega) ?_
 | refine rSUB (by omega) ?_
 | refine rLSS ?_
 | refine rLEQ ?_
 | refine rGTR ?_
 | refine rGEQ ?_
 | refine rEQL ?_
 | refine rNEQ ?_
 | refine rNOT ?_
 | (refine rBRK ?_ ?_ <;> intro hb)
 | (refine rBRKn ?_ ?_ <;> intro hb)
 | (refine rBRKnb ?_ ?_ <;> intro hb)
 | (refine rBRKb ?_ ?_ <;> intro hb)
 | (refine rSPL ?_ ?_ <;> intro hb)
 | (refine rSPLn ?_ ?_ <;> intro hb)
 | (refine rSPLnb ?_ ?_ <;> intro hb)
 | (refine rSPLb ?_ ?_ <;> intro hb)
 | (exfalso; omega))
    refine ih (k + 1) v' H' (by omega) ?_
    rw [take_some ha']
    have hy := ha
    simp only [Int.toNat_natCast] at hy
    simpa [col, List.getD, hy] using hb1
theorem column_ok {t : List (List Int)} {j : Nat} {v : AVal} (hv : IsTab v t) (hl : t.length ≤ 1000000) (hj : ∀ r ∈ t, j < r.length) {H : Heap} : ACalls Try.prog 94 [v, I j] H fun r H' => IsInts r (col t j) ∧ H' = H := by
  apply ACalls.pure
  apply impl_column.start
  unfold impl_column.start_vc
  repeat' (with_reducible first
 | refine rTT ?_
 | refine rRFL ?_
 | refine rLEN (by assumption) ?_
 | (refine rIXk (by assumption) (by assumption) ?_; intro p hp)
 | (refine rIX (by assumption) (by omega) (by omega) ?_; intro p a ha hp)
 | refine rLDi (by assumption) ?_
 | (refine rLD (by assumption) ?_; intro c hc)
 | refine rADD (by omega) ?_
 | refine rSUB (by omega) ?_
 | refine rLSS ?_
 | refine rLEQ ?_
 | refine rGTR ?_
 | refine rGEQ ?_
 | refine rEQL ?_
 | refine rNEQ ?_
 | refine rNOT ?_
 | (refine rBRK ?_ ?_ <;> intro hb)
 | (refine rBRKn ?_ ?_ <;> intro hb)
 | (refine rBRKnb ?_ ?_ <;> intro hb)
 | (refine rBRKb ?_ ?_ <;> intro hb)
 | (refine rSPL ?_ ?_ <;> intro hb)
 | (refine rSPLn ?_ ?_ <;> intro hb)
 | (refine rSPLnb ?_ ?_ <;> intro hb)
 | (refine rSPLb ?_ ?_ <;> intro hb)
 | (exfalso; omega))
  refine rLIT0 ?_
  repeat' (with_reducible first
 | refine rTT ?_
 | refine rRFL ?_
 | refine rLEN (by assumption) ?_
 | (refine rIXk (by assumption) (by assumption) ?_; intro p hp)
 | (refine rIX (by assumption) (by omega) (by omega) ?_; intro p a ha hp)
 | refine rLDi (by assumption) ?_
 | (refine rLD (by assumption) ?_; intro c hc)
 | refine rADD (by omega) ?_
 | refine rSUB (by omega) ?_
 | refine rLSS ?_
 | refine rLEQ ?_
 | refine rGTR ?_
 | refine rGEQ ?_
 | refine rEQL ?_
 | refine rNEQ ?_
 | refine rNOT ?_
 | (refine rBRK ?_ ?_ <;> intro hb)
 | (refine rBRKn ?_ ?_ <;> intro hb)
 | (refine rBRKnb ?_ ?_ <;> intro hb)
 | (refine rBRKb ?_ ?_ <;> intro hb)
 | (refine rSPL ?_ ?_ <;> intro hb)
 | (refine rSPLn ?_ ?_ <;> intro hb)
 | (refine rSPLnb ?_ ?_ <;> intro hb)
 | (refine rSPLb ?_ ?_ <;> intro hb)
 | (exfalso; omega))
  refine column_loop hv hl hj (fun v' H' hb => ?_) t.length 0 _ _ (by omega) (bld_lit H)
  exact hb.ints (Q := fun r H' => IsInts r (col t j) ∧ H' = H) fun r hr => ⟨hr, rfl⟩

end Go.Proofs.Ytccioplhchmilaa.AL

set_option linter.unusedVariables false
set_option maxRecDepth 100000
namespace Go.Proofs.Ytccioplhchmilaa.AL
open Go Go.Proofs

/-! slices.IndexFunc[[][]int,[]int] (slots: 0 s, 1 f, 2 s, 3 f, 5 i) -/
namespace slices_IndexFunc_T2_T1
def lv : List (Nat × List Nat) := [(2, [0, 1, 7, 8])]
noncomputable def K2 : List KF := [.lp (cB (cB (cR (cL (cR (bodyOf Try.f110)))))), .bl 0, .sq (cR (cR (bodyOf Try.f110)))]
def L2 (Q : AVal → Heap → Prop) (v0 v1 v7 v8 : AVal) (H : Heap) : Prop := At Try.prog 110 19 K2 Q (slotsOf [(0, v0), (1, v1), (7, v7), (8, v8)]) H
theorem L2_frz {Q : AVal → Heap → Prop} {v0 v1 v7 v8 w0 w1 w7 w8 : AVal} {H Hf Hk : Heap} {k : Nat} (hs : Split H Hf Hk) (hp : PurL Hf k [(0, v0, w0), (1, v1, w1), (7, v7, w7), (8, v8, w8)]) (h : L2 Q w0 w1 w7 w8 Hk) : L2 Q v0 v1 v7 v8 H := at_frz (ks := K2) hs hp h
def start_vc (Q : AVal → Heap → Prop) (a0 a1 : AVal) (H : Heap) : Prop :=
 LENK a0 fun x1 =>
 slices_IndexFunc_T2_T1.L2 Q a0 a1 x1 (AVal.int .i64 0) H
theorem start_eq (Q : AVal → Heap → Prop) (a0 a1 : AVal) (H : Heap) : vs Try.prog lv 110 19 Try.f110.results.toList Q true 1000 [.sq (bodyOf Try.f110)] (entry [a0, a1]) H = start_vc Q a0 a1 H := by kernel_rfl
theorem start {Q : AVal → Heap → Prop} {a0 a1 : AVal} {H : Heap} (h : start_vc Q a0 a1 H) : ACalls Try.prog 110 [a0, a1] H Q := acalls_vs (lv := lv) mixed Try.func110 rfl (by kernel_rfl) (by kernel_rfl) (start_eq Q a0 a1 H ▸ h)
def step2_vc (Q : AVal → Heap → Prop) (v0 v1 v7 v8 : AVal) (H : Heap) : Prop :=
 BINK .lss v8 v7 fun x1 =>
 BRK x1 (TT ∧ IXK 1 v0 v8 fun x2 =>
 TT ∧ TT ∧ LDK false 1 H x2 fun x3 =>
 CALLK Try.prog v1 [x3] H fun x4 H5 =>
 BRK x4 (Q v8 H5) (BINK .add v8 (AVal.int .i64 1) fun x6 =>
 slices_IndexFunc_T2_T1.L2 Q v0 v1 v7 x6 H5)) (Q (AVal.int .i64 (-1)) H)
theorem step2_eq (Q : AVal → Heap → Prop) (v0 v1 v7 v8 : AVal) (H : Heap) : vs Try.prog lv 110 19 Try.f110.results.toList Q true 1000 (.sq (cB (cB (cR (cL (cR (bodyOf Try.f110)))))) :: K2) (slotsOf [(0, v0), (1, v1), (7, v7), (8, v8)]) H = step2_vc Q v0 v1 v7 v8 H := by kernel_rfl
theorem step2 {Q : AVal → Heap → Prop} {v0 v1 v7 v8 : AVal} {H : Heap} (h : step2_vc Q v0 v1 v7 v8 H) : L2 Q v0 v1 v7 v8 H := at_lp_vs (lv := lv) (ks := K2.tail) mixed Try.func110 (step2_eq Q v0 v1 v7 v8 H ▸ h)
end slices_IndexFunc_T2_T1

/-! slices.ContainsFunc[[][]int,[]int] (slots: 0 s, 1 f, 2 s, 3 f) -/
namespace slices_ContainsFunc_T2_T1
def lv : List (Nat × List Nat) := []
def start_vc (Q : AVal → Heap → Prop) (a0 a1 : AVal) (H : Heap) : Prop :=
 ACalls Try.prog 110 [a0, a1] H fun x1 H2 =>
 BINK .geq x1 (AVal.int .i64 0) fun x3 =>
 Q x3 H2
theorem start_eq (Q : AVal → Heap → Prop) (a0 a1 : AVal) (H : Heap) : vs Try.prog lv 117 9 Try.f117.results.toList Q true 1000 [.sq (bodyOf Try.f117)] (entry [a0, a1]) H = start_vc Q a0 a1 H := by kernel_rfl
theorem start {Q : AVal → Heap → Prop} {a0 a1 : AVal} {H : Heap} (h : start_vc Q a0 a1 H) : ACalls Try.prog 117 [a0, a1] H Q := acalls_vs (lv := lv) mixed Try.func117 rfl (by kernel_rfl) (by kernel_rfl) (start_eq Q a0 a1 H ▸ h)
end slices_ContainsFunc_T2_T1

/-! impl.isSquare (slots: 0 m, 1 m) -/
namespace impl_isSquare
def lv : List (Nat × List Nat) := []
def start_vc (Q : AVal → Heap → Prop) (a0 : AVal) (H : Heap) : Prop :=
 BOXK a0 H fun x1 H2 =>
 TT ∧ TT ∧ LDK false 1 H2 x1 fun x3 =>
 ACalls Try.prog 117 [x3, (AVal.fn 125 [] [x1])] H2 fun x4 H5 =>
 NOTK x4 fun x6 =>
 Q x6 H5
theorem start_eq (Q : AVal → Heap → Prop) (a0 : AVal) (H : Heap) : vs Try.prog lv 81 7 Try.f81.results.toList Q true 1000 [.sq (bodyOf Try.f81)] (entry [a0]) H = start_vc Q a0 H := by kernel_rfl
theorem start {Q : AVal → Heap → Prop} {a0 : AVal} {H : Heap} (h : start_vc Q a0 H) : ACalls Try.prog 81 [a0] H Q := acalls_vs (lv := lv) mixed Try.func81 rfl (by kernel_rfl) (by kernel_rfl) (start_eq Q a0 H ▸ h)
end impl_isSquare

/-! impl.isSquare$1 (slots: 0 row, 2 row) -/
namespace impl_isSquare_1
def lv : List (Nat × List Nat) := []
def start_vc (Q : AVal → Heap → Prop) (a0 a1 : AVal) (H : Heap) : Prop :=
 LENK a0 fun x1 =>
 TT ∧ TT ∧ LDK false 1 H a1 fun x2 =>
 LENK x2 fun x3 =>
 BINK .neq x1 x3 fun x4 =>
 Q x4 H
theorem start_eq (Q : AVal → Heap → Prop) (a0 a1 : AVal) (H : Heap) : vs Try.prog lv 125 9 Try.f125.results.toList Q true 1000 [.sq (bodyOf Try.f125)] (entry [a0, a1]) H = start_vc Q a0 a1 H := by kernel_rfl
theorem start {Q : AVal → Heap → Prop} {a0 a1 : AVal} {H : Heap} (h : start_vc Q a0 a1 H) : ACalls Try.prog 125 [a0, a1] H Q := acalls_vs (lv := lv) mixed Try.func125 rfl (by kernel_rfl) (by kernel_rfl) (start_eq Q a0 a1 H ▸ h)
end impl_isSquare_1

/-! impl.IsSignMatrix (slots: 0 m, 1 m, 3 i) -/
namespace impl_IsSignMatrix
def lv : List (Nat × List Nat) := [(4, [0, 14, 15])]
noncomputable def K4 : List KF := [.lp (cB (cB (cR (cL (cR (cR (bodyOf Try.f40))))))), .bl 0, .sq (cR (cR (cR (bodyOf Try.f40))))]
def L4 (Q : AVal → Heap → Prop) (v0 v14 v15 : AVal) (H : Heap) : Prop := At Try.prog 40 32 K4 Q (slotsOf [(0, v0), (14, v14), (15, v15)]) H
theorem L4_frz {Q : AVal → Heap → Prop} {v0 v14 v15 w0 w14 w15 : AVal} {H Hf Hk : Heap} {k : Nat} (hs : Split H Hf Hk) (hp : PurL Hf k [(0, v0, w0), (14, v14, w14), (15, v15, w15)]) (h : L4 Q w0 w14 w15 Hk) : L4 Q v0 v14 v15 H := at_frz (ks := K4) hs hp h
def start_vc (Q : AVal → Heap → Prop) (a0 : AVal) (H : Heap) : Prop :=
 LENK a0 fun x1 =>
 ACalls Try.prog 80 [x1] H fun x2 H3 =>
 NOTK x2 fun x4 =>
 SPL x4 (Q (AVal.bool false) H3) (ACalls Try.prog 81 [a0] H3 fun x5 H6 =>
 NOTK x5 fun x7 =>
 BRK x7 (Q (AVal.bool false) H6) (LENK a0 fun x8 =>
 impl_IsSignMatrix.L4 Q a0 x8 (AVal.int .i64 0) H6))
theorem start_eq (Q : AVal → Heap → Prop) (a0 : AVal) (H : Heap) : vs Try.prog lv 40 32 Try.f40.results.toList Q true 1000 [.sq (bodyOf Try.f40)] (entry [a0]) H = start_vc Q a0 H := by kernel_rfl
theorem start {Q : AVal → Heap → Prop} {a0 : AVal} {H : Heap} (h : start_vc Q a0 H) : ACalls Try.prog 40 [a0] H Q := acalls_vs (lv := lv) mixed Try.func40 rfl (by kernel_rfl) (by kernel_rfl) (start_eq Q a0 H ▸ h)
def step4_vc (Q : AVal → Heap → Prop) (v0 v14 v15 : AVal) (H : Heap) : Prop :=
 BINK .lss v15 v14 fun x1 =>
 BRK x1 (TT ∧ IXK 1 v0 v15 fun x2 =>
 TT ∧ TT ∧ LDK false 1 H x2 fun x3 =>
 ACalls Try.prog 93 [x3] H fun x4 H5 =>
 NOTK x4 fun x6 =>
 SPL x6 (Q (AVal.bool false) H5) (ACalls Try.prog 94 [v0, v15] H5 fun x7 H8 =>
 ACalls Try.prog 93 [x7] H8 fun x9 H10 =>
 NOTK x9 fun x11 =>
 BRK x11 (Q (AVal.bool false) H10) (BINK .add v15 (AVal.int .i64 1) fun x12 =>
 impl_IsSignMatrix.L4 Q v0 v14 x12 H10))) (Q (AVal.bool true) H)
theorem step4_eq (Q : AVal → Heap → Prop) (v0 v14 v15 : AVal) (H : Heap) : vs Try.prog lv 40 32 Try.f40.results.toList Q true 1000 (.sq (cB (cB (cR (cL (cR (cR (bodyOf Try.f40))))))) :: K4) (slotsOf [(0, v0), (14, v14), (15, v15)]) H = step4_vc Q v0 v14 v15 H := by kernel_rfl
theorem step4 {Q : AVal → Heap → Prop} {v0 v14 v15 : AVal} {H : Heap} (h : step4_vc Q v0 v14 v15 H) : L4 Q v0 v14 v15 H := at_lp_vs (lv := lv) (ks := K4.tail) mixed Try.func40 (step4_eq Q v0 v14 v15 H ▸ h)
end impl_IsSignMatrix

/-! spec.l1In (slots: 0 n, 1 lo, 2 hi, 3 n, 4 lo, 5 hi) -/
namespace spec_l1In
def lv : List (Nat × List Nat) := []
def start_vc (Q : AVal → Heap → Prop) (a0 a1 a2 : AVal) (H : Heap) : Prop :=
 BINK .geq a0 a1 fun x1 =>
 SPL x1 (BINK .leq a0 a2 fun x2 =>
 Q x2 H) (Q (AVal.bool false) H)
theorem start_eq (Q : AVal → Heap → Prop) (a0 a1 a2 : AVal) (H : Heap) : vs Try.prog lv 54 15 Try.f54.results.toList Q true 1000 [.sq (bodyOf Try.f54)] (entry [a0, a1, a2]) H = start_vc Q a0 a1 a2 H := by kernel_rfl
theorem start {Q : AVal → Heap → Prop} {a0 a1 a2 : AVal} {H : Heap} (h : start_vc Q a0 a1 a2 H) : ACalls Try.prog 54 [a0, a1, a2] H Q := acalls_vs (lv := lv) mixed Try.func54 rfl (by kernel_rfl) (by kernel_rfl) (start_eq Q a0 a1 a2 H ▸ h)
end spec_l1In


theorem l1In_ok {n lo hi : Int} {H : Heap} : ACalls Try.prog 54 [I n, I lo, I hi] H fun r H' => r = .bool (decide (lo ≤ n ∧ n ≤ hi)) ∧ H' = H := by
  apply spec_l1In.start
  unfold spec_l1In.start_vc
  repeat' (with_reducible first
 | refine rTT ?_
 | refine rRFL ?_
 | refine rLEN (by assumption) ?_
 | (refine rIXk (by assumption) (by assumption) ?_; intro p hp)
 | (refine rIX (by assumption) (by omega) (by omega) ?_; intro p a ha hp)
 | refine rLDi (by assumption) ?_
 | (refine rLD (by assumption) ?_; intro c hc)
 | refine rADD (by omega) ?_
 | refine rSUB (by omega) ?_
 | refine rLSS ?_
 | refine rLEQ ?_
 | refine rGTR ?_
 | refine rGEQ ?_
 | refine rEQL ?_
 | refine rNEQ ?_
 | refine rNOT ?_
 | (refine rBRK ?_ ?_ <;> intro hb)
 | (refine rBRKn ?_ ?_ <;> intro hb)
 | (refine rBRKnb ?_ ?_ <;> intro hb)
 | (refine rBRKb ?_ ?_ <;> intro hb)
 | (refine rSPL ?_ ?_ <;> intro hb)
 | (refine rSPLn ?_ ?_ <;> intro hb)
 | (refine rSPLnb ?_ ?_ <;> intro hb)
 | (refine rSPLb ?_ ?_ <;> intro hb)
 | (exfalso; omega))
  · exact ⟨by simp [hb], rfl⟩
  · exact ⟨by simp [hb], rfl⟩

/-! ### Searching -/
theorem rCALL {P : Program} {f : FuncId} {first caps args : List AVal} {H : Heap} {K : AVal → Heap → Prop} (h : ACalls P f (first ++ args ++ caps) H K) : CALLK P (.fn f first caps) args H K := h

section
variable {v f : AVal} {H : Heap}
theorem indexT_loop {t : List (List Int)} {b : List Int → Bool} (hv : IsTab v t) (hl : t.length ≤ 1000000) (hf : ∀ a ∈ t, ∀ c, IsInts c a → CALLK Try.prog f [c] H fun r H' => r = .bool (b a) ∧ H' = H) {Q : AVal → Heap → Prop} : ∀ (n k : Nat), k + n = t.length →
    Q (I (match (t.drop k).findIdx? b with | some i => ((k + i : Nat) : Int) | none => -1)) H → slices_IndexFunc_T2_T1.L2 Q v f (I t.length) (I k) H := by
  intro n
  induction n with
  | zero =>
    intro k hk hq
    apply slices_IndexFunc_T2_T1.step2
    unfold slices_IndexFunc_T2_T1.step2_vc
    repeat' (with_reducible first
 | refine rTT ?_
 | refine rRFL ?_
 | refine rLEN (by assumption) ?_
 | (refine rIXk (by assumption) (by assumption) ?_; intro p hp)
 | (refine rIX (by assumption) (by omega) (by omega) ?_; intro p a ha hp)
 | refine rLDi (by assumption) ?_
 | (refine rLD (by assumption) ?_; intro c hc)
 | refine rADD (by omega) ?_
 | refine rSUB (by omega) ?_
 | refine rLSS ?_
 | refine rLEQ ?_
 | refine rGTR ?_
 | refine rGEQ ?_
 | refine rEQL ?_
 | refine rNEQ ?_
 | refine rNOT ?_
 | (refine rBRK ?_ ?_ <;> intro hb)
 | (refine rBRKn ?_ ?_ <;> intro hb)
 | (refine rBRKnb ?_ ?_ <;> intro hb)
 | (refine rBRKb ?_ ?_ <;> intro hb)
 | (refine rSPL ?_ ?_ <;> intro hb)
 | (refine rSPLn ?_ ?_ <;> intro hb)
 | (refine rSPLnb ?_ ?_ <;> intro hb)
 | (refine rSPLb ?_ ?_ <;> intro hb)
 | (exfalso; omega))
    rw [List.drop_eq_nil_of_le (by omega)] at hq
    exact hq
  | succ n ih =>
    intro k hk hq
    apply slices_IndexFunc_T2_T1.step2
    unfold slices_IndexFunc_T2_T1.step2_vc
    repeat' (with_reducible first
 | refine rTT ?_
 | refine rRFL ?_
 | refine rLEN (by assumption) ?_
 | (refine rIXk (by assumption) (by assumption) ?_; intro p hp)
 | (refine rIX (by assumption) (by omega) (by omega) ?_; intro p a ha hp)
 | refine rLDi (by assumption) ?_
 | (refine rLD (by assumption) ?_; intro c hc)
 | refine rADD (by omega) ?_
 | refine rSUB (by omega) ?_
 | refine rLSS ?_
 | refine rLEQ ?_
 | refine rGTR ?_
 | refine rGEQ ?_
 | refine rEQL ?_
 | refine rNEQ ?_
 | refine rNOT ?_
 | (refine rBRK ?_ ?_ <;> intro hb)
 | (refine rBRKn ?_ ?_ <;> intro hb)
 | (refine rBRKnb ?_ ?_ <;> intro hb)
 | (refine rBRKb ?_ ?_ <;> intro hb)
 | (refine rSPL ?_ ?_ <;> intro hb)
 | (refine rSPLn ?_ ?_ <;> intro hb)
 | (refine rSPLnb ?_ ?_ <;> intro hb)
 | (refine rSPLb ?_ ?_ <;> intro hb)
 | (exfalso; omega))
    rw [drop_someI ha] at hq
    refine CALLK_mono ?_ (hf a (List.mem_of_getElem? ha) c hc)
    rintro r H' ⟨rfl, rfl⟩
    repeat' (with_reducible first
 | refine rTT ?_
 | refine rRFL ?_
 | refine rLEN (by assumption) ?_
 | (refine rIXk (by assumption) (by assumption) ?_; intro p hp)
 | (refine rIX (by assumption) (by omega) (by omega) ?_; intro p a ha hp)
 | refine rLDi (by assumption) ?_
 | (refine rLD (by assumption) ?_; intro c hc)
 | refine rADD (by omega) ?_
 | refine rSUB (by omega) ?_
 | refine rLSS ?_
 | refine rLEQ ?_
 | refine rGTR ?_
 | refine rGEQ ?_
 | refine rEQL ?_
 | refine rNEQ ?_
 | refine rNOT ?_
 | (refine rBRK ?_ ?_ <;> intro hb)
 | (refine rBRKn ?_ ?_ <;> intro hb)
 | (refine rBRKnb ?_ ?_ <;> intro hb)
 | (refine rBRKb ?_ ?_ <;> intro hb)
 | (refine rSPL ?_ ?_ <;> intro hb)
 | (refine rSPLn ?_ ?_ <;> intro hb)
 | (refine rSPLnb ?_ ?_ <;> intro hb)
 | (refine rSPLb ?_ ?_ <;> intro hb)
 | (exfalso; omega))
    · simp only [List.findIdx?_cons, hb] at hq
      simpa using hq
    · refine ih (k + 1) (by omega) ?_
      simp only [List.findIdx?_cons, hb] at hq
      cases hx : (t.drop (k + 1)).findIdx? b with
      | none => rw [hx] at hq; simpa using hq
      | some i =>
        rw [hx] at hq
        have : k + 1 + i = k + (i + 1) := by omega
        simp only [this]
        simpa using hq
theorem containsT_ok {t : List (List Int)} {b : List Int → Bool} (hv : IsTab v t) (hl : t.length ≤ 1000000) (hf : ∀ a ∈ t, ∀ c, IsInts c a → CALLK Try.prog f [c] H fun r H' => r = .bool (b a) ∧ H' = H) :
    ACalls Try.prog 117 [v, f] H fun r H' => r = .bool (t.any b) ∧ H' = H := by
  apply slices_ContainsFunc_T2_T1.start
  unfold slices_ContainsFunc_T2_T1.start_vc
  apply slices_IndexFunc_T2_T1.start
  unfold slices_IndexFunc_T2_T1.start_vc
  repeat' (with_reducible first
 | refine rTT ?_
 | refine rRFL ?_
 | refine rLEN (by assumption) ?_
 | (refine rIXk (by assumption) (by assumption) ?_; intro p hp)
 | (refine rIX (by assumption) (by omega) (by omega) ?_; intro p a ha hp)
 | refine rLDi (by assumption) ?_
 | (refine rLD (by assumption) ?_; intro c hc)
 | refine rADD (by omega) ?_
 | refine rSUB (by omega) ?_
 | refine rLSS ?_
 | refine rLEQ ?_
 | refine rGTR ?_
 | refine rGEQ ?_
 | refine rEQL ?_
 | refine rNEQ ?_
 | refine rNOT ?_
 | (refine rBRK ?_ ?_ <;> intro hb)
 | (refine rBRKn ?_ ?_ <;> intro hb)
 | (refine rBRKnb ?_ ?_ <;> intro hb)
 | (refine rBRKb ?_ ?_ <;> intro hb)
 | (refine rSPL ?_ ?_ <;> intro hb)
 | (refine rSPLn ?_ ?_ <;> intro hb)
 | (refine rSPLnb ?_ ?_ <;> intro hb)
 | (refine rSPLb ?_ ?_ <;> intro hb)
 | (exfalso; omega))
  refine indexT_loop hv hl hf t.length 0 (by omega) ?_
  repeat' (with_reducible first
 | refine rTT ?_
 | refine rRFL ?_
 | refine rLEN (by assumption) ?_
 | (refine rIXk (by assumption) (by assumption) ?_; intro p hp)
 | (refine rIX (by assumption) (by omega) (by omega) ?_; intro p a ha hp)
 | refine rLDi (by assumption) ?_
 | (refine rLD (by assumption) ?_; intro c hc)
 | refine rADD (by omega) ?_
 | refine rSUB (by omega) ?_
 | refine rLSS ?_
 | refine rLEQ ?_
 | refine rGTR ?_
 | refine rGEQ ?_
 | refine rEQL ?_
 | refine rNEQ ?_
 | refine rNOT ?_
 | (refine rBRK ?_ ?_ <;> intro hb)
 | (refine rBRKn ?_ ?_ <;> intro hb)
 | (refine rBRKnb ?_ ?_ <;> intro hb)
 | (refine rBRKb ?_ ?_ <;> intro hb)
 | (refine rSPL ?_ ?_ <;> intro hb)
 | (refine rSPLn ?_ ?_ <;> intro hb)
 | (refine rSPLnb ?_ ?_ <;> intro hb)
 | (refine rSPLb ?_ ?_ <;> intro hb)
 | (exfalso; omega))
  refine ⟨?_, rfl⟩
  congr 1
  simp only [List.drop_zero]
  cases hx : t.findIdx? b with
  | none =>
    rw [List.findIdx?_eq_none_iff] at hx
    symm
    simpa using hx
  | some i =>
    have : t.any b = true := by
      rw [List.findIdx?_eq_some_iff_getElem] at hx
      obtain ⟨h1, h2, _⟩ := hx
      exact List.any_eq_true.2 ⟨_, List.getElem_mem h1, h2⟩
    rw [this]
    simp
end

def isSquareB (t : List (List Int)) : Bool := t.all fun r => decide (r.length = t.length)
theorem isSquare_ok {t : List (List Int)} {v : AVal} (hv : IsTab v t) (hl : t.length ≤ 1000000) {H : Heap} : ACalls Try.prog 81 [v] H fun r H' => r = .bool (isSquareB t) ∧ H' = H := by
  apply ACalls.sub
  apply impl_isSquare.start
  unfold impl_isSquare.start_vc
  refine rBOX hv.one fun g => ?_
  repeat' (with_reducible first
 | refine rTT ?_
 | refine rRFL ?_
 | refine rLEN (by assumption) ?_
 | (refine rIXk (by assumption) (by assumption) ?_; intro p hp)
 | (refine rIX (by assumption) (by omega) (by omega) ?_; intro p a ha hp)
 | refine rLDi (by assumption) ?_
 | (refine rLD (by assumption) ?_; intro c hc)
 | refine rADD (by omega) ?_
 | refine rSUB (by omega) ?_
 | refine rLSS ?_
 | refine rLEQ ?_
 | refine rGTR ?_
 | refine rGEQ ?_
 | refine rEQL ?_
 | refine rNEQ ?_
 | refine rNOT ?_
 | (refine rBRK ?_ ?_ <;> intro hb)
 | (refine rBRKn ?_ ?_ <;> intro hb)
 | (refine rBRKnb ?_ ?_ <;> intro hb)
 | (refine rBRKb ?_ ?_ <;> intro hb)
 | (refine rSPL ?_ ?_ <;> intro hb)
 | (refine rSPLn ?_ ?_ <;> intro hb)
 | (refine rSPLnb ?_ ?_ <;> intro hb)
 | (refine rSPLb ?_ ?_ <;> intro hb)
 | (exfalso; omega))
  refine rLDp (hget_new _ _ _) ?_
  refine ACalls.mono (containsT_ok (b := fun r => decide (r.length ≠ t.length)) hv hl fun a ha c hc => rCALL ?_) ?_
  · show ACalls Try.prog 125 [c, .ptr H.length g 0] _ _
    apply impl_isSquare_1.start
    unfold impl_isSquare_1.start_vc
    repeat' (with_reducible first
 | refine rTT ?_
 | refine rRFL ?_
 | refine rLEN (by assumption) ?_
 | (refine rIXk (by assumption) (by assumption) ?_; intro p hp)
 | (refine rIX (by assumption) (by omega) (by omega) ?_; intro p a ha hp)
 | refine rLDi (by assumption) ?_
 | (refine rLD (by assumption) ?_; intro c hc)
 | refine rADD (by omega) ?_
 | refine rSUB (by omega) ?_
 | refine rLSS ?_
 | refine rLEQ ?_
 | refine rGTR ?_
 | refine rGEQ ?_
 | refine rEQL ?_
 | refine rNEQ ?_
 | refine rNOT ?_
 | (refine rBRK ?_ ?_ <;> intro hb)
 | (refine rBRKn ?_ ?_ <;> intro hb)
 | (refine rBRKnb ?_ ?_ <;> intro hb)
 | (refine rBRKb ?_ ?_ <;> intro hb)
 | (refine rSPL ?_ ?_ <;> intro hb)
 | (refine rSPLn ?_ ?_ <;> intro hb)
 | (refine rSPLnb ?_ ?_ <;> intro hb)
 | (refine rSPLb ?_ ?_ <;> intro hb)
 | (exfalso; omega))
    refine rLDp (hget_new _ _ _) ?_
    repeat' (with_reducible first
 | refine rTT ?_
 | refine rRFL ?_
 | refine rLEN (by assumption) ?_
 | (refine rIXk (by assumption) (by assumption) ?_; intro p hp)
 | (refine rIX (by assumption) (by omega) (by omega) ?_; intro p a ha hp)
 | refine rLDi (by assumption) ?_
 | (refine rLD (by assumption) ?_; intro c hc)
 | refine rADD (by omega) ?_
 | refine rSUB (by omega) ?_
 | refine rLSS ?_
 | refine rLEQ ?_
 | refine rGTR ?_
 | refine rGEQ ?_
 | refine rEQL ?_
 | refine rNEQ ?_
 | refine rNOT ?_
 | (refine rBRK ?_ ?_ <;> intro hb)
 | (refine rBRKn ?_ ?_ <;> intro hb)
 | (refine rBRKnb ?_ ?_ <;> intro hb)
 | (refine rBRKb ?_ ?_ <;> intro hb)
 | (refine rSPL ?_ ?_ <;> intro hb)
 | (refine rSPLn ?_ ?_ <;> intro hb)
 | (refine rSPLnb ?_ ?_ <;> intro hb)
 | (refine rSPLb ?_ ?_ <;> intro hb)
 | (exfalso; omega))
    refine ⟨?_, rfl⟩
    congr 1
    simp only [decide_eq_decide]
    omega
  · rintro r H' ⟨rfl, rfl⟩
    repeat' (with_reducible first
 | refine rTT ?_
 | refine rRFL ?_
 | refine rLEN (by assumption) ?_
 | (refine rIXk (by assumption) (by assumption) ?_; intro p hp)
 | (refine rIX (by assumption) (by omega) (by omega) ?_; intro p a ha hp)
 | refine rLDi (by assumption) ?_
 | (refine rLD (by assumption) ?_; intro c hc)
 | refine rADD (by omega) ?_
 | refine rSUB (by omega) ?_
 | refine rLSS ?_
 | refine rLEQ ?_
 | refine rGTR ?_
 | refine rGEQ ?_
 | refine rEQL ?_
 | refine rNEQ ?_
 | refine rNOT ?_
 | (refine rBRK ?_ ?_ <;> intro hb)
 | (refine rBRKn ?_ ?_ <;> intro hb)
 | (refine rBRKnb ?_ ?_ <;> intro hb)
 | (refine rBRKb ?_ ?_ <;> intro hb)
 | (refine rSPL ?_ ?_ <;> intro hb)
 | (refine rSPLn ?_ ?_ <;> intro hb)
 | (refine rSPLnb ?_ ?_ <;> intro hb)
 | (refine rSPLb ?_ ?_ <;> intro hb)
 | (exfalso; omega))
    refine ⟨H, hsub_new _ _ _, ?_, rfl⟩
    simp [isSquareB, List.all_eq_not_any_not]

/-! ### Sign matrices -/
def chk (t : List (List Int)) (i : Nat) : Bool := alternateB (t.getD i []) && alternateB (col t i)
def goodB (t : List (List Int)) : Bool := decide (1 ≤ t.length ∧ t.length ≤ 6) && (isSquareB t && (List.range t.length).all (chk t))
theorem sq_len {t : List (List Int)} (h : isSquareB t = true) {r : List Int} (hr : r ∈ t) : r.length = t.length := by
  simp only [isSquareB, List.all_eq_true, decide_eq_true_eq] at h
  exact h r hr
theorem good_loop {t : List (List Int)} {v : AVal} (hv : IsTab v t) (hl : t.length ≤ 6) (hs : isSquareB t = true) {H : Heap} {Q : AVal → Heap → Prop} : ∀ (n k : Nat), k + n = t.length → Q (.bool (((List.range t.length).drop k).all (chk t))) H →
    impl_IsSignMatrix.L4 Q v (I t.length) (I k) H := by
  intro n
  induction n with
  | zero =>
    intro k hk hq
    apply impl_IsSignMatrix.step4
    unfold impl_IsSignMatrix.step4_vc
    repeat' (with_reducible first
 | refine rTT ?_
 | refine rRFL ?_
 | refine rLEN (by assumption) ?_
 | (refine rIXk (by assumption) (by assumption) ?_; intro p hp)
 | (refine rIX (by assumption) (by omega) (by omega) ?_; intro p a ha hp)
 | refine rLDi (by assumption) ?_
 | (refine rLD (by assumption) ?_; intro c hc)
 | refine rADD (by omega) ?_
 | refine rSUB (by omega) ?_
 | refine rLSS ?_
 | refine rLEQ ?_
 | refine rGTR ?_
 | refine rGEQ ?_
 | refine rEQL ?_
 | refine rNEQ ?_
 | refine rNOT ?_
 | (refine rBRK ?_ ?_ <;> intro hb)
 | (refine rBRKn ?_ ?_ <;> intro hb)
 | (refine rBRKnb ?_ ?_ <;> intro hb)
 | (refine rBRKb ?_ ?_ <;> intro hb)
 | (refine rSPL ?_ ?_ <;> intro hb)
 | (refine rSPLn ?_ ?_ <;> intro hb)
 | (refine rSPLnb ?_ ?_ <;> intro hb)
 | (refine rSPLb ?_ ?_ <;> intro hb)
 | (exfalso; omega))
    rw [List.drop_eq_nil_of_le (by simp; omega)] at hq
    exact hq
  | succ n ih =>
    intro k hk hq
    apply impl_IsSignMatrix.step4
    unfold impl_IsSignMatrix.step4_vc
    repeat' (with_reducible first
 | refine rTT ?_
 | refine rRFL ?_
 | refine rLEN (by assumption) ?_
 | (refine rIXk (by assumption) (by assumption) ?_; intro p hp)
 | (refine rIX (by assumption) (by omega) (by omega) ?_; intro p a ha hp)
 | refine rLDi (by assumption) ?_
 | (refine rLD (by assumption) ?_; intro c hc)
 | refine rADD (by omega) ?_
 | refine rSUB (by omega) ?_
 | refine rLSS ?_
 | refine rLEQ ?_
 | refine rGTR ?_
 | refine rGEQ ?_
 | refine rEQL ?_
 | refine rNEQ ?_
 | refine rNOT ?_
 | (refine rBRK ?_ ?_ <;> intro hb)
 | (refine rBRKn ?_ ?_ <;> intro hb)
 | (refine rBRKnb ?_ ?_ <;> intro hb)
 | (refine rBRKb ?_ ?_ <;> intro hb)
 | (refine rSPL ?_ ?_ <;> intro hb)
 | (refine rSPLn ?_ ?_ <;> intro hb)
 | (refine rSPLnb ?_ ?_ <;> intro hb)
 | (refine rSPLb ?_ ?_ <;> intro hb)
 | (exfalso; omega))
    have ha' : t[k]? = some a := by simpa using ha
    have hal := sq_len hs (List.mem_of_getElem? ha')
    have e : (List.range t.length)[k]? = some k := by rw [List.getElem?_range (by omega)]
    rw [drop_some e] at hq
    have eg : t.getD k [] = a := by simp [List.getD, ha']
    simp only [List.all_cons, chk, eg] at hq
    refine ACalls.mono (alternate_ok hc (by omega)) ?_
    rintro r H' ⟨rfl, rfl⟩
    repeat' (with_reducible first
 | refine rTT ?_
 | refine rRFL ?_
 | refine rLEN (by assumption) ?_
 | (refine rIXk (by assumption) (by assumption) ?_; intro p hp)
 | (refine rIX (by assumption) (by omega) (by omega) ?_; intro p a ha hp)
 | refine rLDi (by assumption) ?_
 | (refine rLD (by assumption) ?_; intro c hc)
 | refine rADD (by omega) ?_
 | refine rSUB (by omega) ?_
 | refine rLSS ?_
 | refine rLEQ ?_
 | refine rGTR ?_
 | refine rGEQ ?_
 | refine rEQL ?_
 | refine rNEQ ?_
 | refine rNOT ?_
 | (refine rBRK ?_ ?_ <;> intro hb)
 | (refine rBRKn ?_ ?_ <;> intro hb)
 | (refine rBRKnb ?_ ?_ <;> intro hb)
 | (refine rBRKb ?_ ?_ <;> intro hb)
 | (refine rSPL ?_ ?_ <;> intro hb)
 | (refine rSPLn ?_ ?_ <;> intro hb)
 | (refine rSPLnb ?_ ?_ <;> intro hb)
 | (refine rSPLb ?_ ?_ <;> intro hb)
 | (exfalso; omega))
    · rw [hb] at hq; exact hq
    · rw [hb] at hq
      refine ACalls.mono (column_ok hv (by omega) fun r hr => by rw [sq_len hs hr]; omega) ?_
      rintro r H' ⟨hr, rfl⟩
      refine ACalls.mono (alternate_ok hr (by simp [col]; omega)) ?_
      rintro r H' ⟨rfl, rfl⟩
      repeat' (with_reducible first
 | refine rTT ?_
 | refine rRFL ?_
 | refine rLEN (by assumption) ?_
 | (refine rIXk (by assumption) (by assumption) ?_; intro p hp)
 | (refine rIX (by assumption) (by omega) (by omega) ?_; intro p a ha hp)
 | refine rLDi (by assumption) ?_
 | (refine rLD (by assumption) ?_; intro c hc)
 | refine rADD (by omega) ?_
 | refine rSUB (by omega) ?_
 | refine rLSS ?_
 | refine rLEQ ?_
 | refine rGTR ?_
 | refine rGEQ ?_
 | refine rEQL ?_
 | refine rNEQ ?_
 | refine rNOT ?_
 | (refine rBRK ?_ ?_ <;> intro hb)
 | (refine rBRKn ?_ ?_ <;> intro hb)
 | (refine rBRKnb ?_ ?_ <;> intro hb)
 | (refine rBRKb ?_ ?_ <;> intro hb)
 | (refine rSPL ?_ ?_ <;> intro hb)
 | (refine rSPLn ?_ ?_ <;> intro hb)
 | (refine rSPLnb ?_ ?_ <;> intro hb)
 | (refine rSPLb ?_ ?_ <;> intro hb)
 | (exfalso; omega))
      · rw [hb] at hq; exact hq
      · rw [hb] at hq; exact ih (k + 1) (by omega) hq
theorem isSign_ok {t : List (List Int)} {v : AVal} (hv : IsTab v t) (hl : t.length ≤ 1000000) {H : Heap} : ACalls Try.prog 40 [v] H fun r H' => r = .bool (goodB t) ∧ H' = H := by
  apply impl_IsSignMatrix.start
  unfold impl_IsSignMatrix.start_vc
  repeat' (with_reducible first
 | refine rTT ?_
 | (refine ACalls.mono (isSquare_ok hv hl) ?_; rintro r H' ⟨rfl, rfl⟩)
 | (refine ACalls.mono (isSide_ok) ?_; rintro r H' ⟨rfl, rfl⟩)
 | refine rRFL ?_
 | refine rLEN (by assumption) ?_
 | (refine rIXk (by assumption) (by assumption) ?_; intro p hp)
 | (refine rIX (by assumption) (by omega) (by omega) ?_; intro p a ha hp)
 | refine rLDi (by assumption) ?_
 | (refine rLD (by assumption) ?_; intro c hc)
 | refine rADD (by omega) ?_
 | refine rSUB (by omega) ?_
 | refine rLSS ?_
 | refine rLEQ ?_
 | refine rGTR ?_
 | refine rGEQ ?_
 | refine rEQL ?_
 | refine rNEQ ?_
 | refine rNOT ?_
 | (refine rBRK ?_ ?_ <;> intro hb)
 | (refine rBRKn ?_ ?_ <;> intro hb)
 | (refine rBRKnb ?_ ?_ <;> intro hb)
 | (refine rBRKb ?_ ?_ <;> intro hb)
 | (refine rSPL ?_ ?_ <;> intro hb)
 | (refine rSPLn ?_ ?_ <;> intro hb)
 | (refine rSPLnb ?_ ?_ <;> intro hb)
 | (refine rSPLb ?_ ?_ <;> intro hb)
 | (exfalso; omega))
  · exact ⟨by simp only [goodB]; rw [decide_eq_false (by omega)]; rfl, rfl⟩
  · exact ⟨by simp [goodB, hb], rfl⟩
  · refine good_loop hv (by omega) hb t.length 0 (by omega) ⟨?_, rfl⟩
    simp only [goodB, hb]
    rw [decide_eq_true (by omega)]
    simp

end Go.Proofs.Ytccioplhchmilaa.AL

set_option linter.unusedVariables false
set_option maxRecDepth 100000
namespace Go.Proofs.Ytccioplhchmilaa.AL
open Go Go.Proofs

/-! spec.l1All (slots: 0 l, 1 lo, 2 hi, 3 l, 4 lo, 5 hi, 7 _, 8 n) -/
namespace spec_l1All
def lv : List (Nat × List Nat) := [(2, [1, 2, 9, 10, 11])]
noncomputable def K2 : List KF := [.lp (cB (cB (cR (cL (cR (bodyOf Try.f116)))))), .bl 0, .sq (cR (cR (bodyOf Try.f116)))]
def L2 (Q : AVal → Heap → Prop) (v1 v2 v9 v10 v11 : AVal) (H : Heap) : Prop := At Try.prog 116 21 K2 Q (slotsOf [(1, v1), (2, v2), (9, v9), (10, v10), (11, v11)]) H
theorem L2_frz {Q : AVal → Heap → Prop} {v1 v2 v9 v10 v11 w1 w2 w9 w10 w11 : AVal} {H Hf Hk : Heap} {k : Nat} (hs : Split H Hf Hk) (hp : PurL Hf k [(1, v1, w1), (2, v2, w2), (9, v9, w9), (10, v10, w10), (11, v11, w11)]) (h : L2 Q w1 w2 w9 w10 w11 Hk) : L2 Q v1 v2 v9 v10 v11 H := at_frz (ks := K2) hs hp h
def start_vc (Q : AVal → Heap → Prop) (a0 a1 a2 : AVal) (H : Heap) : Prop :=
 LENK a0 fun x1 =>
 spec_l1All.L2 Q a1 a2 a0 x1 (AVal.int .i64 0) H
theorem start_eq (Q : AVal → Heap → Prop) (a0 a1 a2 : AVal) (H : Heap) : vs Try.prog lv 116 21 Try.f116.results.toList Q true 1000 [.sq (bodyOf Try.f116)] (entry [a0, a1, a2]) H = start_vc Q a0 a1 a2 H := by kernel_rfl
theorem start {Q : AVal → Heap → Prop} {a0 a1 a2 : AVal} {H : Heap} (h : start_vc Q a0 a1 a2 H) : ACalls Try.prog 116 [a0, a1, a2] H Q := acalls_vs (lv := lv) mixed Try.func116 rfl (by kernel_rfl) (by kernel_rfl) (start_eq Q a0 a1 a2 H ▸ h)
def step2_vc (Q : AVal → Heap → Prop) (v1 v2 v9 v10 v11 : AVal) (H : Heap) : Prop :=
 BINK .lss v11 v10 fun x1 =>
 BRK x1 (TT ∧ IXK 1 v9 v11 fun x2 =>
 TT ∧ TT ∧ LDK false 1 H x2 fun x3 =>
 ACalls Try.prog 54 [x3, v1, v2] H fun x4 H5 =>
 NOTK x4 fun x6 =>
 BRK x6 (Q (AVal.bool false) H5) (BINK .add v11 (AVal.int .i64 1) fun x7 =>
 spec_l1All.L2 Q v1 v2 v9 v10 x7 H5)) (Q (AVal.bool true) H)
theorem step2_eq (Q : AVal → Heap → Prop) (v1 v2 v9 v10 v11 : AVal) (H : Heap) : vs Try.prog lv 116 21 Try.f116.results.toList Q true 1000 (.sq (cB (cB (cR (cL (cR (bodyOf Try.f116)))))) :: K2) (slotsOf [(1, v1), (2, v2), (9, v9), (10, v10), (11, v11)]) H = step2_vc Q v1 v2 v9 v10 v11 H := by kernel_rfl
theorem step2 {Q : AVal → Heap → Prop} {v1 v2 v9 v10 v11 : AVal} {H : Heap} (h : step2_vc Q v1 v2 v9 v10 v11 H) : L2 Q v1 v2 v9 v10 v11 H := at_lp_vs (lv := lv) (ks := K2.tail) mixed Try.func116 (step2_eq Q v1 v2 v9 v10 v11 H ▸ h)
end spec_l1All

/-! spec.l1Same (slots: 0 a, 1 b, 2 a, 3 b, 5 i) -/
namespace spec_l1Same
def lv : List (Nat × List Nat) := [(4, [0, 1, 12, 13])]
noncomputable def K4 : List KF := [.lp (cB (cB (cR (cL (cR (cR (bodyOf Try.f133))))))), .bl 0, .sq (cR (cR (cR (bodyOf Try.f133))))]
def L4 (Q : AVal → Heap → Prop) (v0 v1 v12 v13 : AVal) (H : Heap) : Prop := At Try.prog 133 26 K4 Q (slotsOf [(0, v0), (1, v1), (12, v12), (13, v13)]) H
theorem L4_frz {Q : AVal → Heap → Prop} {v0 v1 v12 v13 w0 w1 w12 w13 : AVal} {H Hf Hk : Heap} {k : Nat} (hs : Split H Hf Hk) (hp : PurL Hf k [(0, v0, w0), (1, v1, w1), (12, v12, w12), (13, v13, w13)]) (h : L4 Q w0 w1 w12 w13 Hk) : L4 Q v0 v1 v12 v13 H := at_frz (ks := K4) hs hp h
def start_vc (Q : AVal → Heap → Prop) (a0 a1 : AVal) (H : Heap) : Prop :=
 LENK a0 fun x1 =>
 LENK a1 fun x2 =>
 BINK .neq x1 x2 fun x3 =>
 BRK x3 (Q (AVal.bool false) H) (LENK a0 fun x4 =>
 spec_l1Same.L4 Q a0 a1 x4 (AVal.int .i64 0) H)
theorem start_eq (Q : AVal → Heap → Prop) (a0 a1 : AVal) (H : Heap) : vs Try.prog lv 133 26 Try.f133.results.toList Q true 1000 [.sq (bodyOf Try.f133)] (entry [a0, a1]) H = start_vc Q a0 a1 H := by kernel_rfl
theorem start {Q : AVal → Heap → Prop} {a0 a1 : AVal} {H : Heap} (h : start_vc Q a0 a1 H) : ACalls Try.prog 133 [a0, a1] H Q := acalls_vs (lv := lv) mixed Try.func133 rfl (by kernel_rfl) (by kernel_rfl) (start_eq Q a0 a1 H ▸ h)
def step4_vc (Q : AVal → Heap → Prop) (v0 v1 v12 v13 : AVal) (H : Heap) : Prop :=
 BINK .lss v13 v12 fun x1 =>
 BRK x1 (TT ∧ TT ∧ IXK 1 v0 v13 fun x2 =>
 TT ∧ TT ∧ LDK false 1 H x2 fun x3 =>
 TT ∧ IXK 1 v1 v13 fun x4 =>
 TT ∧ TT ∧ LDK false 1 H x4 fun x5 =>
 BINK .neq x3 x5 fun x6 =>
 BRK x6 (Q (AVal.bool false) H) (BINK .add v13 (AVal.int .i64 1) fun x7 =>
 spec_l1Same.L4 Q v0 v1 v12 x7 H)) (Q (AVal.bool true) H)
theorem step4_eq (Q : AVal → Heap → Prop) (v0 v1 v12 v13 : AVal) (H : Heap) : vs Try.prog lv 133 26 Try.f133.results.toList Q true 1000 (.sq (cB (cB (cR (cL (cR (cR (bodyOf Try.f133))))))) :: K4) (slotsOf [(0, v0), (1, v1), (12, v12), (13, v13)]) H = step4_vc Q v0 v1 v12 v13 H := by kernel_rfl
theorem step4 {Q : AVal → Heap → Prop} {v0 v1 v12 v13 : AVal} {H : Heap} (h : step4_vc Q v0 v1 v12 v13 H) : L4 Q v0 v1 v12 v13 H := at_lp_vs (lv := lv) (ks := K4.tail) mixed Try.func133 (step4_eq Q v0 v1 v12 v13 H ▸ h)
end spec_l1Same

/-! spec.l1Least (slots: 0 a, 1 b, 2 a, 3 b) -/
namespace spec_l1Least
def lv : List (Nat × List Nat) := []
def start_vc (Q : AVal → Heap → Prop) (a0 a1 : AVal) (H : Heap) : Prop :=
 BINK .lss a0 a1 fun x1 =>
 BRK x1 (Q a0 H) (Q a1 H)
theorem start_eq (Q : AVal → Heap → Prop) (a0 a1 : AVal) (H : Heap) : vs Try.prog lv 135 10 Try.f135.results.toList Q true 1000 [.sq (bodyOf Try.f135)] (entry [a0, a1]) H = start_vc Q a0 a1 H := by kernel_rfl
theorem start {Q : AVal → Heap → Prop} {a0 a1 : AVal} {H : Heap} (h : start_vc Q a0 a1 H) : ACalls Try.prog 135 [a0, a1] H Q := acalls_vs (lv := lv) mixed Try.func135 rfl (by kernel_rfl) (by kernel_rfl) (start_eq Q a0 a1 H ▸ h)
end spec_l1Least

/-! spec.sgRows (slots: 0 m, 1 m, 3 _, 4 row, 5 sum, 6 _, 7 x) -/
namespace spec_sgRows
def lv : List (Nat × List Nat) := [(2, [8, 9, 10]), (6, [5, 8, 9, 10, 14, 15, 16])]
noncomputable def K2 : List KF := [.lp (cB (cB (cR (cL (cR (bodyOf Try.f104)))))), .bl 0, .sq (cR (cR (bodyOf Try.f104)))]
def L2 (Q : AVal → Heap → Prop) (v8 v9 v10 : AVal) (H : Heap) : Prop := At Try.prog 104 33 K2 Q (slotsOf [(8, v8), (9, v9), (10, v10)]) H
theorem L2_frz {Q : AVal → Heap → Prop} {v8 v9 v10 w8 w9 w10 : AVal} {H Hf Hk : Heap} {k : Nat} (hs : Split H Hf Hk) (hp : PurL Hf k [(8, v8, w8), (9, v9, w9), (10, v10, w10)]) (h : L2 Q w8 w9 w10 Hk) : L2 Q v8 v9 v10 H := at_frz (ks := K2) hs hp h
noncomputable def K6 : List KF := [.lp (cB (cB (cR (cL (cR (cR (cB (cL (cR (cR (cB (cB (cR (cL (cR (bodyOf Try.f104)))))))))))))))), .bl 2, .sq (cR (cR (cR (cB (cL (cR (cR (cB (cB (cR (cL (cR (bodyOf Try.f104))))))))))))), .bl 1, .sq (cR (cR (cR (cB (cB (cR (cL (cR (bodyOf Try.f104))))))))), .lp (cB (cB (cR (cL (cR (bodyOf Try.f104)))))), .bl 0, .sq (cR (cR (bodyOf Try.f104)))]
def L6 (Q : AVal → Heap → Prop) (v5 v8 v9 v10 v14 v15 v16 : AVal) (H : Heap) : Prop := At Try.prog 104 33 K6 Q (slotsOf [(5, v5), (8, v8), (9, v9), (10, v10), (14, v14), (15, v15), (16, v16)]) H
theorem L6_frz {Q : AVal → Heap → Prop} {v5 v8 v9 v10 v14 v15 v16 w5 w8 w9 w10 w14 w15 w16 : AVal} {H Hf Hk : Heap} {k : Nat} (hs : Split H Hf Hk) (hp : PurL Hf k [(5, v5, w5), (8, v8, w8), (9, v9, w9), (10, v10, w10), (14, v14, w14), (15, v15, w15), (16, v16, w16)]) (h : L6 Q w5 w8 w9 w10 w14 w15 w16 Hk) : L6 Q v5 v8 v9 v10 v14 v15 v16 H := at_frz (ks := K6) hs hp h
def start_vc (Q : AVal → Heap → Prop) (a0 : AVal) (H : Heap) : Prop :=
 LENK a0 fun x1 =>
 spec_sgRows.L2 Q a0 x1 (AVal.int .i64 0) H
theorem start_eq (Q : AVal → Heap → Prop) (a0 : AVal) (H : Heap) : vs Try.prog lv 104 33 Try.f104.results.toList Q true 1000 [.sq (bodyOf Try.f104)] (entry [a0]) H = start_vc Q a0 H := by kernel_rfl
theorem start {Q : AVal → Heap → Prop} {a0 : AVal} {H : Heap} (h : start_vc Q a0 H) : ACalls Try.prog 104 [a0] H Q := acalls_vs (lv := lv) mixed Try.func104 rfl (by kernel_rfl) (by kernel_rfl) (start_eq Q a0 H ▸ h)
def step2_vc (Q : AVal → Heap → Prop) (v8 v9 v10 : AVal) (H : Heap) : Prop :=
 BINK .lss v10 v9 fun x1 =>
 BRK x1 (TT ∧ IXK 1 v8 v10 fun x2 =>
 TT ∧ TT ∧ LDK false 1 H x2 fun x3 =>
 LENK x3 fun x4 =>
 spec_sgRows.L6 Q (AVal.int .i64 0) v8 v9 v10 x3 x4 (AVal.int .i64 0) H) (Q (AVal.bool true) H)
theorem step2_eq (Q : AVal → Heap → Prop) (v8 v9 v10 : AVal) (H : Heap) : vs Try.prog lv 104 33 Try.f104.results.toList Q true 1000 (.sq (cB (cB (cR (cL (cR (bodyOf Try.f104)))))) :: K2) (slotsOf [(8, v8), (9, v9), (10, v10)]) H = step2_vc Q v8 v9 v10 H := by kernel_rfl
theorem step2 {Q : AVal → Heap → Prop} {v8 v9 v10 : AVal} {H : Heap} (h : step2_vc Q v8 v9 v10 H) : L2 Q v8 v9 v10 H := at_lp_vs (lv := lv) (ks := K2.tail) mixed Try.func104 (step2_eq Q v8 v9 v10 H ▸ h)
def step6_vc (Q : AVal → Heap → Prop) (v5 v8 v9 v10 v14 v15 v16 : AVal) (H : Heap) : Prop :=
 BINK .lss v16 v15 fun x1 =>
 BRK x1 (TT ∧ IXK 1 v14 v16 fun x2 =>
 TT ∧ TT ∧ LDK false 1 H x2 fun x3 =>
 ACalls Try.prog 54 [x3, (AVal.int .i64 (-1)), (AVal.int .i64 1)] H fun x4 H5 =>
 NOTK x4 fun x6 =>
 BRK x6 (Q (AVal.bool false) H5) (BINK .add v5 x3 fun x7 =>
 ACalls Try.prog 54 [x7, (AVal.int .i64 0), (AVal.int .i64 1)] H5 fun x8 H9 =>
 NOTK x8 fun x10 =>
 BRK x10 (Q (AVal.bool false) H9) (BINK .add v16 (AVal.int .i64 1) fun x11 =>
 spec_sgRows.L6 Q x7 v8 v9 v10 v14 v15 x11 H9))) (BINK .neq v5 (AVal.int .i64 1) fun x12 =>
 BRK x12 (Q (AVal.bool false) H) (BINK .add v10 (AVal.int .i64 1) fun x13 =>
 spec_sgRows.L2 Q v8 v9 x13 H))
theorem step6_eq (Q : AVal → Heap → Prop) (v5 v8 v9 v10 v14 v15 v16 : AVal) (H : Heap) : vs Try.prog lv 104 33 Try.f104.results.toList Q true 1000 (.sq (cB (cB (cR (cL (cR (cR (cB (cL (cR (cR (cB (cB (cR (cL (cR (bodyOf Try.f104)))))))))))))))) :: K6) (slotsOf [(5, v5), (8, v8), (9, v9), (10, v10), (14, v14), (15, v15), (16, v16)]) H = step6_vc Q v5 v8 v9 v10 v14 v15 v16 H := by kernel_rfl
theorem step6 {Q : AVal → Heap → Prop} {v5 v8 v9 v10 v14 v15 v16 : AVal} {H : Heap} (h : step6_vc Q v5 v8 v9 v10 v14 v15 v16 H) : L6 Q v5 v8 v9 v10 v14 v15 v16 H := at_lp_vs (lv := lv) (ks := K6.tail) mixed Try.func104 (step6_eq Q v5 v8 v9 v10 v14 v15 v16 H ▸ h)
end spec_sgRows

/-! spec.sgTurn (slots: 0 m, 1 m, 3 out, 4 j, 5 row, 6 _, 7 r) -/
namespace spec_sgTurn
def lv : List (Nat × List Nat) := [(3, [0, 3, 9, 10]), (7, [0, 3, 4, 5, 9, 10, 13, 14, 15])]
noncomputable def K3 : List KF := [.lp (cB (cB (cR (cL (cR (cR (bodyOf Try.f105))))))), .bl 0, .sq (cR (cR (cR (bodyOf Try.f105))))]
def L3 (Q : AVal → Heap → Prop) (v0 v3 v9 v10 : AVal) (H : Heap) : Prop := At Try.prog 105 33 K3 Q (slotsOf [(0, v0), (3, v3), (9, v9), (10, v10)]) H
theorem L3_frz {Q : AVal → Heap → Prop} {v0 v3 v9 v10 w0 w3 w9 w10 : AVal} {H Hf Hk : Heap} {k : Nat} (hs : Split H Hf Hk) (hp : PurL Hf k [(0, v0, w0), (3, v3, w3), (9, v9, w9), (10, v10, w10)]) (h : L3 Q w0 w3 w9 w10 Hk) : L3 Q v0 v3 v9 v10 H := at_frz (ks := K3) hs hp h
noncomputable def K7 : List KF := [.lp (cB (cB (cR (cL (cR (cR (cB (cL (cR (cR (cB (cB (cR (cL (cR (cR (bodyOf Try.f105))))))))))))))))), .bl 2, .sq (cR (cR (cR (cB (cL (cR (cR (cB (cB (cR (cL (cR (cR (bodyOf Try.f105)))))))))))))), .bl 1, .sq (cR (cR (cR (cB (cB (cR (cL (cR (cR (bodyOf Try.f105)))))))))), .lp (cB (cB (cR (cL (cR (cR (bodyOf Try.f105))))))), .bl 0, .sq (cR (cR (cR (bodyOf Try.f105))))]
def L7 (Q : AVal → Heap → Prop) (v0 v3 v4 v5 v9 v10 v13 v14 v15 : AVal) (H : Heap) : Prop := At Try.prog 105 33 K7 Q (slotsOf [(0, v0), (3, v3), (4, v4), (5, v5), (9, v9), (10, v10), (13, v13), (14, v14), (15, v15)]) H
theorem L7_frz {Q : AVal → Heap → Prop} {v0 v3 v4 v5 v9 v10 v13 v14 v15 w0 w3 w4 w5 w9 w10 w13 w14 w15 : AVal} {H Hf Hk : Heap} {k : Nat} (hs : Split H Hf Hk) (hp : PurL Hf k [(0, v0, w0), (3, v3, w3), (4, v4, w4), (5, v5, w5), (9, v9, w9), (10, v10, w10), (13, v13, w13), (14, v14, w14), (15, v15, w15)]) (h : L7 Q w0 w3 w4 w5 w9 w10 w13 w14 w15 Hk) : L7 Q v0 v3 v4 v5 v9 v10 v13 v14 v15 H := at_frz (ks := K7) hs hp h
def start_vc (Q : AVal → Heap → Prop) (a0 : AVal) (H : Heap) : Prop :=
 LENK a0 fun x1 =>
 spec_sgTurn.L3 Q a0 AVal.nilS x1 (AVal.int .i64 0) H
theorem start_eq (Q : AVal → Heap → Prop) (a0 : AVal) (H : Heap) : vs Try.prog lv 105 33 Try.f105.results.toList Q true 1000 [.sq (bodyOf Try.f105)] (entry [a0]) H = start_vc Q a0 H := by kernel_rfl
theorem start {Q : AVal → Heap → Prop} {a0 : AVal} {H : Heap} (h : start_vc Q a0 H) : ACalls Try.prog 105 [a0] H Q := acalls_vs (lv := lv) mixed Try.func105 rfl (by kernel_rfl) (by kernel_rfl) (start_eq Q a0 H ▸ h)
def step3_vc (Q : AVal → Heap → Prop) (v0 v3 v9 v10 : AVal) (H : Heap) : Prop :=
 BINK .lss v10 v9 fun x1 =>
 BRK x1 (LENK v0 fun x2 =>
 spec_sgTurn.L7 Q v0 v3 v10 AVal.nilS v9 v10 v0 x2 (AVal.int .i64 0) H) (Q v3 H)
theorem step3_eq (Q : AVal → Heap → Prop) (v0 v3 v9 v10 : AVal) (H : Heap) : vs Try.prog lv 105 33 Try.f105.results.toList Q true 1000 (.sq (cB (cB (cR (cL (cR (cR (bodyOf Try.f105))))))) :: K3) (slotsOf [(0, v0), (3, v3), (9, v9), (10, v10)]) H = step3_vc Q v0 v3 v9 v10 H := by kernel_rfl
theorem step3 {Q : AVal → Heap → Prop} {v0 v3 v9 v10 : AVal} {H : Heap} (h : step3_vc Q v0 v3 v9 v10 H) : L3 Q v0 v3 v9 v10 H := at_lp_vs (lv := lv) (ks := K3.tail) mixed Try.func105 (step3_eq Q v0 v3 v9 v10 H ▸ h)
def step7_vc (Q : AVal → Heap → Prop) (v0 v3 v4 v5 v9 v10 v13 v14 v15 : AVal) (H : Heap) : Prop :=
 BINK .lss v15 v14 fun x1 =>
 BRK x1 (TT ∧ IXK 1 v13 v15 fun x2 =>
 TT ∧ TT ∧ LDK false 1 H x2 fun x3 =>
 TT ∧ IXK 1 x3 v4 fun x4 =>
 TT ∧ TT ∧ LDK false 1 H x4 fun x5 =>
 TT ∧ TT ∧ TT ∧ BSK 1 [x5] H fun x6 H7 =>
 TT ∧ TT ∧ APK 1 H7 v5 x6 fun x8 H9 =>
 BINK .add v15 (AVal.int .i64 1) fun x10 =>
 spec_sgTurn.L7 Q v0 v3 v4 x8 v9 v10 v13 v14 x10 H9) (TT ∧ TT ∧ TT ∧ BSK 1 [v5] H fun x11 H12 =>
 TT ∧ TT ∧ APK 1 H12 v3 x11 fun x13 H14 =>
 BINK .add v10 (AVal.int .i64 1) fun x15 =>
 spec_sgTurn.L3 Q v0 x13 v9 x15 H14)
theorem step7_eq (Q : AVal → Heap → Prop) (v0 v3 v4 v5 v9 v10 v13 v14 v15 : AVal) (H : Heap) : vs Try.prog lv 105 33 Try.f105.results.toList Q true 1000 (.sq (cB (cB (cR (cL (cR (cR (cB (cL (cR (cR (cB (cB (cR (cL (cR (cR (bodyOf Try.f105))))))))))))))))) :: K7) (slotsOf [(0, v0), (3, v3), (4, v4), (5, v5), (9, v9), (10, v10), (13, v13), (14, v14), (15, v15)]) H = step7_vc Q v0 v3 v4 v5 v9 v10 v13 v14 v15 H := by kernel_rfl
theorem step7 {Q : AVal → Heap → Prop} {v0 v3 v4 v5 v9 v10 v13 v14 v15 : AVal} {H : Heap} (h : step7_vc Q v0 v3 v4 v5 v9 v10 v13 v14 v15 H) : L7 Q v0 v3 v4 v5 v9 v10 v13 v14 v15 H := at_lp_vs (lv := lv) (ks := K7.tail) mixed Try.func105 (step7_eq Q v0 v3 v4 v5 v9 v10 v13 v14 v15 H ▸ h)
end spec_sgTurn

/-! spec.sgSquare (slots: 0 m, 1 m, 3 _, 4 row) -/
namespace spec_sgSquare
def lv : List (Nat × List Nat) := [(4, [0, 9, 10, 11])]
noncomputable def K4 : List KF := [.lp (cB (cB (cR (cL (cR (cR (bodyOf Try.f103))))))), .bl 0, .sq (cR (cR (cR (bodyOf Try.f103))))]
def L4 (Q : AVal → Heap → Prop) (v0 v9 v10 v11 : AVal) (H : Heap) : Prop := At Try.prog 103 21 K4 Q (slotsOf [(0, v0), (9, v9), (10, v10), (11, v11)]) H
theorem L4_frz {Q : AVal → Heap → Prop} {v0 v9 v10 v11 w0 w9 w10 w11 : AVal} {H Hf Hk : Heap} {k : Nat} (hs : Split H Hf Hk) (hp : PurL Hf k [(0, v0, w0), (9, v9, w9), (10, v10, w10), (11, v11, w11)]) (h : L4 Q w0 w9 w10 w11 Hk) : L4 Q v0 v9 v10 v11 H := at_frz (ks := K4) hs hp h
def start_vc (Q : AVal → Heap → Prop) (a0 : AVal) (H : Heap) : Prop :=
 LENK a0 fun x1 =>
 ACalls Try.prog 54 [x1, (AVal.int .i64 1), (AVal.int .i64 6)] H fun x2 H3 =>
 NOTK x2 fun x4 =>
 BRK x4 (Q (AVal.bool false) H3) (LENK a0 fun x5 =>
 spec_sgSquare.L4 Q a0 a0 x5 (AVal.int .i64 0) H3)
theorem start_eq (Q : AVal → Heap → Prop) (a0 : AVal) (H : Heap) : vs Try.prog lv 103 21 Try.f103.results.toList Q true 1000 [.sq (bodyOf Try.f103)] (entry [a0]) H = start_vc Q a0 H := by kernel_rfl
theorem start {Q : AVal → Heap → Prop} {a0 : AVal} {H : Heap} (h : start_vc Q a0 H) : ACalls Try.prog 103 [a0] H Q := acalls_vs (lv := lv) mixed Try.func103 rfl (by kernel_rfl) (by kernel_rfl) (start_eq Q a0 H ▸ h)
def step4_vc (Q : AVal → Heap → Prop) (v0 v9 v10 v11 : AVal) (H : Heap) : Prop :=
 BINK .lss v11 v10 fun x1 =>
 BRK x1 (TT ∧ IXK 1 v9 v11 fun x2 =>
 TT ∧ TT ∧ LDK false 1 H x2 fun x3 =>
 LENK x3 fun x4 =>
 LENK v0 fun x5 =>
 BINK .neq x4 x5 fun x6 =>
 BRK x6 (Q (AVal.bool false) H) (BINK .add v11 (AVal.int .i64 1) fun x7 =>
 spec_sgSquare.L4 Q v0 v9 v10 x7 H)) (Q (AVal.bool true) H)
theorem step4_eq (Q : AVal → Heap → Prop) (v0 v9 v10 v11 : AVal) (H : Heap) : vs Try.prog lv 103 21 Try.f103.results.toList Q true 1000 (.sq (cB (cB (cR (cL (cR (cR (bodyOf Try.f103))))))) :: K4) (slotsOf [(0, v0), (9, v9), (10, v10), (11, v11)]) H = step4_vc Q v0 v9 v10 v11 H := by kernel_rfl
theorem step4 {Q : AVal → Heap → Prop} {v0 v9 v10 v11 : AVal} {H : Heap} (h : step4_vc Q v0 v9 v10 v11 H) : L4 Q v0 v9 v10 v11 H := at_lp_vs (lv := lv) (ks := K4.tail) mixed Try.func103 (step4_eq Q v0 v9 v10 v11 H ▸ h)
end spec_sgSquare

/-! spec.sgGood (slots: 0 m, 1 m) -/
namespace spec_sgGood
def lv : List (Nat × List Nat) := []
def start_vc (Q : AVal → Heap → Prop) (a0 : AVal) (H : Heap) : Prop :=
 ACalls Try.prog 103 [a0] H fun x1 H2 =>
 SPL x1 (ACalls Try.prog 104 [a0] H2 fun x3 H4 =>
 SPL x3 (ACalls Try.prog 105 [a0] H4 fun x5 H6 =>
 ACalls Try.prog 104 [x5] H6 fun x7 H8 =>
 Q x7 H8) (Q (AVal.bool false) H4)) (Q (AVal.bool false) H2)
theorem start_eq (Q : AVal → Heap → Prop) (a0 : AVal) (H : Heap) : vs Try.prog lv 53 14 Try.f53.results.toList Q true 1000 [.sq (bodyOf Try.f53)] (entry [a0]) H = start_vc Q a0 H := by kernel_rfl
theorem start {Q : AVal → Heap → Prop} {a0 : AVal} {H : Heap} (h : start_vc Q a0 H) : ACalls Try.prog 53 [a0] H Q := acalls_vs (lv := lv) mixed Try.func53 rfl (by kernel_rfl) (by kernel_rfl) (start_eq Q a0 H ▸ h)
end spec_sgGood

/-! spec.sgAt (slots: 0 c, 1 i, 2 j, 3 c, 4 i, 5 j) -/
namespace spec_sgAt
def lv : List (Nat × List Nat) := []
def start_vc (Q : AVal → Heap → Prop) (a0 a1 a2 : AVal) (H : Heap) : Prop :=
 BINK .lss a1 (AVal.int .i64 0) fun x1 =>
 SPL x1 (Q (AVal.int .i64 0) H) (BINK .lss a2 (AVal.int .i64 0) fun x2 =>
 BRK x2 (Q (AVal.int .i64 0) H) (TT ∧ IXK 1 a0 a1 fun x3 =>
 TT ∧ TT ∧ LDK false 1 H x3 fun x4 =>
 TT ∧ IXK 1 x4 a2 fun x5 =>
 TT ∧ TT ∧ LDK false 1 H x5 fun x6 =>
 Q x6 H))
theorem start_eq (Q : AVal → Heap → Prop) (a0 a1 a2 : AVal) (H : Heap) : vs Try.prog lv 115 20 Try.f115.results.toList Q true 1000 [.sq (bodyOf Try.f115)] (entry [a0, a1, a2]) H = start_vc Q a0 a1 a2 H := by kernel_rfl
theorem start {Q : AVal → Heap → Prop} {a0 a1 a2 : AVal} {H : Heap} (h : start_vc Q a0 a1 a2 H) : ACalls Try.prog 115 [a0, a1, a2] H Q := acalls_vs (lv := lv) mixed Try.func115 rfl (by kernel_rfl) (by kernel_rfl) (start_eq Q a0 a1 a2 H ▸ h)
end spec_sgAt

/-! laws.big (slots: 0 code, 1 more, 2 code, 3 more) -/
namespace laws_big
def lv : List (Nat × List Nat) := []
def start_vc (Q : AVal → Heap → Prop) (a0 a1 : AVal) (H : Heap) : Prop :=
 LENK a0 fun x1 =>
 BINK .gtr x1 (AVal.int .i64 1048576) fun x2 =>
 SPL x2 (Q (AVal.bool true) H) (LENK a1 fun x3 =>
 LENK a0 fun x4 =>
 BINK .sub (AVal.int .i64 1048576) x4 fun x5 =>
 BINK .gtr x3 x5 fun x6 =>
 Q x6 H)
theorem start_eq (Q : AVal → Heap → Prop) (a0 a1 : AVal) (H : Heap) : vs Try.prog lv 6 16 Try.f6.results.toList Q true 1000 [.sq (bodyOf Try.f6)] (entry [a0, a1]) H = start_vc Q a0 a1 H := by kernel_rfl
theorem start {Q : AVal → Heap → Prop} {a0 a1 : AVal} {H : Heap} (h : start_vc Q a0 a1 H) : ACalls Try.prog 6 [a0, a1] H Q := acalls_vs (lv := lv) mixed Try.func6 rfl (by kernel_rfl) (by kernel_rfl) (start_eq Q a0 a1 H ▸ h)
end laws_big

/-! laws.hSame (slots: 0 a, 1 b, 2 a, 3 b, 5 i) -/
namespace laws_hSame
def lv : List (Nat × List Nat) := [(4, [0, 1, 12, 13])]
noncomputable def K4 : List KF := [.lp (cB (cB (cR (cL (cR (cR (bodyOf Try.f63))))))), .bl 0, .sq (cR (cR (cR (bodyOf Try.f63))))]
def L4 (Q : AVal → Heap → Prop) (v0 v1 v12 v13 : AVal) (H : Heap) : Prop := At Try.prog 63 26 K4 Q (slotsOf [(0, v0), (1, v1), (12, v12), (13, v13)]) H
theorem L4_frz {Q : AVal → Heap → Prop} {v0 v1 v12 v13 w0 w1 w12 w13 : AVal} {H Hf Hk : Heap} {k : Nat} (hs : Split H Hf Hk) (hp : PurL Hf k [(0, v0, w0), (1, v1, w1), (12, v12, w12), (13, v13, w13)]) (h : L4 Q w0 w1 w12 w13 Hk) : L4 Q v0 v1 v12 v13 H := at_frz (ks := K4) hs hp h
def start_vc (Q : AVal → Heap → Prop) (a0 a1 : AVal) (H : Heap) : Prop :=
 LENK a0 fun x1 =>
 LENK a1 fun x2 =>
 BINK .neq x1 x2 fun x3 =>
 BRK x3 (Q (AVal.bool false) H) (LENK a0 fun x4 =>
 laws_hSame.L4 Q a0 a1 x4 (AVal.int .i64 0) H)
theorem start_eq (Q : AVal → Heap → Prop) (a0 a1 : AVal) (H : Heap) : vs Try.prog lv 63 26 Try.f63.results.toList Q true 1000 [.sq (bodyOf Try.f63)] (entry [a0, a1]) H = start_vc Q a0 a1 H := by kernel_rfl
theorem start {Q : AVal → Heap → Prop} {a0 a1 : AVal} {H : Heap} (h : start_vc Q a0 a1 H) : ACalls Try.prog 63 [a0, a1] H Q := acalls_vs (lv := lv) mixed Try.func63 rfl (by kernel_rfl) (by kernel_rfl) (start_eq Q a0 a1 H ▸ h)
def step4_vc (Q : AVal → Heap → Prop) (v0 v1 v12 v13 : AVal) (H : Heap) : Prop :=
 BINK .lss v13 v12 fun x1 =>
 BRK x1 (TT ∧ TT ∧ IXK 1 v0 v13 fun x2 =>
 TT ∧ TT ∧ LDK false 1 H x2 fun x3 =>
 TT ∧ IXK 1 v1 v13 fun x4 =>
 TT ∧ TT ∧ LDK false 1 H x4 fun x5 =>
 BINK .neq x3 x5 fun x6 =>
 BRK x6 (Q (AVal.bool false) H) (BINK .add v13 (AVal.int .i64 1) fun x7 =>
 laws_hSame.L4 Q v0 v1 v12 x7 H)) (Q (AVal.bool true) H)
theorem step4_eq (Q : AVal → Heap → Prop) (v0 v1 v12 v13 : AVal) (H : Heap) : vs Try.prog lv 63 26 Try.f63.results.toList Q true 1000 (.sq (cB (cB (cR (cL (cR (cR (bodyOf Try.f63))))))) :: K4) (slotsOf [(0, v0), (1, v1), (12, v12), (13, v13)]) H = step4_vc Q v0 v1 v12 v13 H := by kernel_rfl
theorem step4 {Q : AVal → Heap → Prop} {v0 v1 v12 v13 : AVal} {H : Heap} (h : step4_vc Q v0 v1 v12 v13 H) : L4 Q v0 v1 v12 v13 H := at_lp_vs (lv := lv) (ks := K4.tail) mixed Try.func63 (step4_eq Q v0 v1 v12 v13 H ▸ h)
end laws_hSame

/-! laws.hRows (slots: 0 a, 1 b, 2 a, 3 b, 5 i) -/
namespace laws_hRows
def lv : List (Nat × List Nat) := [(4, [0, 1, 12, 13])]
noncomputable def K4 : List KF := [.lp (cB (cB (cR (cL (cR (cR (bodyOf Try.f12))))))), .bl 0, .sq (cR (cR (cR (bodyOf Try.f12))))]
def L4 (Q : AVal → Heap → Prop) (v0 v1 v12 v13 : AVal) (H : Heap) : Prop := At Try.prog 12 27 K4 Q (slotsOf [(0, v0), (1, v1), (12, v12), (13, v13)]) H
theorem L4_frz {Q : AVal → Heap → Prop} {v0 v1 v12 v13 w0 w1 w12 w13 : AVal} {H Hf Hk : Heap} {k : Nat} (hs : Split H Hf Hk) (hp : PurL Hf k [(0, v0, w0), (1, v1, w1), (12, v12, w12), (13, v13, w13)]) (h : L4 Q w0 w1 w12 w13 Hk) : L4 Q v0 v1 v12 v13 H := at_frz (ks := K4) hs hp h
def start_vc (Q : AVal → Heap → Prop) (a0 a1 : AVal) (H : Heap) : Prop :=
 LENK a0 fun x1 =>
 LENK a1 fun x2 =>
 BINK .neq x1 x2 fun x3 =>
 BRK x3 (Q (AVal.bool false) H) (LENK a0 fun x4 =>
 laws_hRows.L4 Q a0 a1 x4 (AVal.int .i64 0) H)
theorem start_eq (Q : AVal → Heap → Prop) (a0 a1 : AVal) (H : Heap) : vs Try.prog lv 12 27 Try.f12.results.toList Q true 1000 [.sq (bodyOf Try.f12)] (entry [a0, a1]) H = start_vc Q a0 a1 H := by kernel_rfl
theorem start {Q : AVal → Heap → Prop} {a0 a1 : AVal} {H : Heap} (h : start_vc Q a0 a1 H) : ACalls Try.prog 12 [a0, a1] H Q := acalls_vs (lv := lv) mixed Try.func12 rfl (by kernel_rfl) (by kernel_rfl) (start_eq Q a0 a1 H ▸ h)
def step4_vc (Q : AVal → Heap → Prop) (v0 v1 v12 v13 : AVal) (H : Heap) : Prop :=
 BINK .lss v13 v12 fun x1 =>
 BRK x1 (TT ∧ TT ∧ IXK 1 v0 v13 fun x2 =>
 TT ∧ TT ∧ LDK false 1 H x2 fun x3 =>
 TT ∧ IXK 1 v1 v13 fun x4 =>
 TT ∧ TT ∧ LDK false 1 H x4 fun x5 =>
 ACalls Try.prog 63 [x3, x5] H fun x6 H7 =>
 NOTK x6 fun x8 =>
 BRK x8 (Q (AVal.bool false) H7) (BINK .add v13 (AVal.int .i64 1) fun x9 =>
 laws_hRows.L4 Q v0 v1 v12 x9 H7)) (Q (AVal.bool true) H)
theorem step4_eq (Q : AVal → Heap → Prop) (v0 v1 v12 v13 : AVal) (H : Heap) : vs Try.prog lv 12 27 Try.f12.results.toList Q true 1000 (.sq (cB (cB (cR (cL (cR (cR (bodyOf Try.f12))))))) :: K4) (slotsOf [(0, v0), (1, v1), (12, v12), (13, v13)]) H = step4_vc Q v0 v1 v12 v13 H := by kernel_rfl
theorem step4 {Q : AVal → Heap → Prop} {v0 v1 v12 v13 : AVal} {H : Heap} (h : step4_vc Q v0 v1 v12 v13 H) : L4 Q v0 v1 v12 v13 H := at_lp_vs (lv := lv) (ks := K4.tail) mixed Try.func12 (step4_eq Q v0 v1 v12 v13 H ▸ h)
end laws_hRows

theorem hSame_loop {a b : List Int} {v u : AVal} (hv : IsInts v a) (hu : IsInts u b) (hl : a.length ≤ 1000000) (he : a.length = b.length) {H : Heap} {Q : AVal → Heap → Prop} : ∀ (n k : Nat), k + n = a.length → Q (.bool (decide (a.drop k = b.drop k))) H →
    laws_hSame.L4 Q v u (I a.length) (I k) H := by
  intro n
  induction n with
  | zero =>
    intro k hk hq
    apply laws_hSame.step4
    unfold laws_hSame.step4_vc
    repeat' (with_reducible first
 | refine rTT ?_
 | refine rRFL ?_
 | refine rLEN (by assumption) ?_
 | (refine rIXk (by assumption) (by assumption) ?_; intro p hp)
 | (refine rIX (by assumption) (by omega) (by omega) ?_; intro p a ha hp)
 | refine rLDi (by assumption) ?_
 | (refine rLD (by assumption) ?_; intro c hc)
 | refine rADD (by omega) ?_
 | refine rSUB (by omega) ?_
 | refine rLSS ?_
 | refine rLEQ ?_
 | refine rGTR ?_
 | refine rGEQ ?_
 | refine rEQL ?_
 | refine rNEQ ?_
 | refine rNOT ?_
 | (refine rBRK ?_ ?_ <;> intro hb)
 | (refine rBRKn ?_ ?_ <;> intro hb)
 | (refine rBRKnb ?_ ?_ <;> intro hb)
 | (refine rBRKb ?_ ?_ <;> intro hb)
 | (refine rSPL ?_ ?_ <;> intro hb)
 | (refine rSPLn ?_ ?_ <;> intro hb)
 | (refine rSPLnb ?_ ?_ <;> intro hb)
 | (refine rSPLb ?_ ?_ <;> intro hb)
 | (exfalso; omega))
    rw [List.drop_eq_nil_of_le (by omega), List.drop_eq_nil_of_le (by omega)] at hq
    exact hq
  | succ n ih =>
    intro k hk hq
    obtain ⟨a1, ha1⟩ := ex_get (l := a) (k := k) (by omega)
    obtain ⟨b1, hb1⟩ := ex_get (l := b) (k := k) (by omega)
    apply laws_hSame.step4
    unfold laws_hSame.step4_vc
    repeat' (with_reducible first
 | refine rTT ?_
 | refine rRFL ?_
 | refine rLEN (by assumption) ?_
 | (refine rIXk (by assumption) (by assumption) ?_; intro p hp)
 | (refine rIX (by assumption) (by omega) (by omega) ?_; intro p a ha hp)
 | refine rLDi (by assumption) ?_
 | (refine rLD (by assumption) ?_; intro c hc)
 | refine rADD (by omega) ?_
 | refine rSUB (by omega) ?_
 | refine rLSS ?_
 | refine rLEQ ?_
 | refine rGTR ?_
 | refine rGEQ ?_
 | refine rEQL ?_
 | refine rNEQ ?_
 | refine rNOT ?_
 | (refine rBRK ?_ ?_ <;> intro hb)
 | (refine rBRKn ?_ ?_ <;> intro hb)
 | (refine rBRKnb ?_ ?_ <;> intro hb)
 | (refine rBRKb ?_ ?_ <;> intro hb)
 | (refine rSPL ?_ ?_ <;> intro hb)
 | (refine rSPLn ?_ ?_ <;> intro hb)
 | (refine rSPLnb ?_ ?_ <;> intro hb)
 | (refine rSPLb ?_ ?_ <;> intro hb)
 | (exfalso; omega))
    · rw [drop_some ha1, drop_some hb1, decide_eq_false (by simp; intro h; exact absurd h hb)] at hq
      exact hq
    · rw [drop_some ha1, drop_some hb1] at hq
      have hab : a1 = b1 := Decidable.not_not.1 hb
      refine ih (k + 1) (by omega) ?_
      simpa [hab] using hq
theorem hSame_ok {a b : List Int} {v u : AVal} (hv : IsInts v a) (hu : IsInts u b) (hl : a.length ≤ 1000000) {H : Heap} : ACalls Try.prog 63 [v, u] H fun r H' => r = .bool (decide (a = b)) ∧ H' = H := by
  apply laws_hSame.start
  unfold laws_hSame.start_vc
  repeat' (with_reducible first
 | refine rTT ?_
 | refine rRFL ?_
 | refine rLEN (by assumption) ?_
 | (refine rIXk (by assumption) (by assumption) ?_; intro p hp)
 | (refine rIX (by assumption) (by omega) (by omega) ?_; intro p a ha hp)
 | refine rLDi (by assumption) ?_
 | (refine rLD (by assumption) ?_; intro c hc)
 | refine rADD (by omega) ?_
 | refine rSUB (by omega) ?_
 | refine rLSS ?_
 | refine rLEQ ?_
 | refine rGTR ?_
 | refine rGEQ ?_
 | refine rEQL ?_
 | refine rNEQ ?_
 | refine rNOT ?_
 | (refine rBRK ?_ ?_ <;> intro hb)
 | (refine rBRKn ?_ ?_ <;> intro hb)
 | (refine rBRKnb ?_ ?_ <;> intro hb)
 | (refine rBRKb ?_ ?_ <;> intro hb)
 | (refine rSPL ?_ ?_ <;> intro hb)
 | (refine rSPLn ?_ ?_ <;> intro hb)
 | (refine rSPLnb ?_ ?_ <;> intro hb)
 | (refine rSPLb ?_ ?_ <;> intro hb)
 | (exfalso; omega))
  · exact ⟨by rw [decide_eq_false (fun h => by rw [h] at hb; exact hb rfl)], rfl⟩
  · exact hSame_loop hv hu hl (by omega) a.length 0 (by omega) ⟨rfl, rfl⟩
theorem l1Same_loop {a b : List Int} {v u : AVal} (hv : IsInts v a) (hu : IsInts u b) (hl : a.length ≤ 1000000) (he : a.length = b.length) {H : Heap} {Q : AVal → Heap → Prop} : ∀ (n k : Nat), k + n = a.length → Q (.bool (decide (a.drop k = b.drop k))) H →
    spec_l1Same.L4 Q v u (I a.length) (I k) H := by
  intro n
  induction n with
  | zero =>
    intro k hk hq
    apply spec_l1Same.step4
    unfold spec_l1Same.step4_vc
    repeat' (with_reducible first
 | refine rTT ?_
 | refine rRFL ?_
 | refine rLEN (by assumption) ?_
 | (refine rIXk (by assumption) (by assumption) ?_; intro p hp)
 | (refine rIX (by assumption) (by omega) (by omega) ?_; intro p a ha hp)
 | refine rLDi (by assumption) ?_
 | (refine rLD (by assumption) ?_; intro c hc)
 | refine rADD (by omega) ?_
 | refine rSUB (by omega) ?_
 | refine rLSS ?_
 | refine rLEQ ?_
 | refine rGTR ?_
 | refine rGEQ ?_
 | refine rEQL ?_
 | refine rNEQ ?_
 | refine rNOT ?_
 | (refine rBRK ?_ ?_ <;> intro hb)
 | (refine rBRKn ?_ ?_ <;> intro hb)
 | (refine rBRKnb ?_ ?_ <;> intro hb)
 | (refine rBRKb ?_ ?_ <;> intro hb)
 | (refine rSPL ?_ ?_ <;> intro hb)
 | (refine rSPLn ?_ ?_ <;> intro hb)
 | (refine rSPLnb ?_ ?_ <;> intro hb)
 | (refine rSPLb ?_ ?_ <;> intro hb)
 | (exfalso; omega))
    rw [List.drop_eq_nil_of_le (by omega), List.drop_eq_nil_of_le (by omega)] at hq
    exact hq
  | succ n ih =>
    intro k hk hq
    obtain ⟨a1, ha1⟩ := ex_get (l := a) (k := k) (by omega)
    obtain ⟨b1, hb1⟩ := ex_get (l := b) (k := k) (by omega)
    apply spec_l1Same.step4
    unfold spec_l1Same.step4_vc
    repeat' (with_reducible first
 | refine rTT ?_
 | refine rRFL ?_
 | refine rLEN (by assumption) ?_
 | (refine rIXk (by assumption) (by assumption) ?_; intro p hp)
 | (refine rIX (by assumption) (by omega) (by omega) ?_; intro p a ha hp)
 | refine rLDi (by assumption) ?_
 | (refine rLD (by assumption) ?_; intro c hc)
 | refine rADD (by omega) ?_
 | refine rSUB (by omega) ?_
 | refine rLSS ?_
 | refine rLEQ ?_
 | refine rGTR ?_
 | refine rGEQ ?_
 | refine rEQL ?_
 | refine rNEQ ?_
 | refine rNOT ?_
 | (refine rBRK ?_ ?_ <;> intro hb)
 | (refine rBRKn ?_ ?_ <;> intro hb)
 | (refine rBRKnb ?_ ?_ <;> intro hb)
 | (refine rBRKb ?_ ?_ <;> intro hb)
 | (refine rSPL ?_ ?_ <;> intro hb)
 | (refine rSPLn ?_ ?_ <;> intro hb)
 | (refine rSPLnb ?_ ?_ <;> intro hb)
 | (refine rSPLb ?_ ?_ <;> intro hb)
 | (exfalso; omega))
    · rw [drop_some ha1, drop_some hb1, decide_eq_false (by simp; intro h; exact absurd h hb)] at hq
      exact hq
    · rw [drop_some ha1, drop_some hb1] at hq
      have hab : a1 = b1 := Decidable.not_not.1 hb
      refine ih (k + 1) (by omega) ?_
      simpa [hab] using hq
theorem l1Same_ok {a b : List Int} {v u : AVal} (hv : IsInts v a) (hu : IsInts u b) (hl : a.length ≤ 1000000) {H : Heap} : ACalls Try.prog 133 [v, u] H fun r H' => r = .bool (decide (a = b)) ∧ H' = H := by
  apply spec_l1Same.start
  unfold spec_l1Same.start_vc
  repeat' (with_reducible first
 | refine rTT ?_
 | refine rRFL ?_
 | refine rLEN (by assumption) ?_
 | (refine rIXk (by assumption) (by assumption) ?_; intro p hp)
 | (refine rIX (by assumption) (by omega) (by omega) ?_; intro p a ha hp)
 | refine rLDi (by assumption) ?_
 | (refine rLD (by assumption) ?_; intro c hc)
 | refine rADD (by omega) ?_
 | refine rSUB (by omega) ?_
 | refine rLSS ?_
 | refine rLEQ ?_
 | refine rGTR ?_
 | refine rGEQ ?_
 | refine rEQL ?_
 | refine rNEQ ?_
 | refine rNOT ?_
 | (refine rBRK ?_ ?_ <;> intro hb)
 | (refine rBRKn ?_ ?_ <;> intro hb)
 | (refine rBRKnb ?_ ?_ <;> intro hb)
 | (refine rBRKb ?_ ?_ <;> intro hb)
 | (refine rSPL ?_ ?_ <;> intro hb)
 | (refine rSPLn ?_ ?_ <;> intro hb)
 | (refine rSPLnb ?_ ?_ <;> intro hb)
 | (refine rSPLb ?_ ?_ <;> intro hb)
 | (exfalso; omega))
  · exact ⟨by rw [decide_eq_false (fun h => by rw [h] at hb; exact hb rfl)], rfl⟩
  · exact l1Same_loop hv hu hl (by omega) a.length 0 (by omega) ⟨rfl, rfl⟩
theorem hRows_loop {a b : List (List Int)} {v u : AVal} (hv : IsTab v a) (hu : IsTab u b) (hl : a.length ≤ 1000000) (hr : ∀ r ∈ a, r.length ≤ 1000000) (he : a.length = b.length) {H : Heap} {Q : AVal → Heap → Prop} : ∀ (n k : Nat), k + n = a.length → Q (.bool (decide (a.drop k = b.drop k))) H →
    laws_hRows.L4 Q v u (I a.length) (I k) H := by
  intro n
  induction n with
  | zero =>
    intro k hk hq
    apply laws_hRows.step4
    unfold laws_hRows.step4_vc
    repeat' (with_reducible first
 | refine rTT ?_
 | refine rRFL ?_
 | refine rLEN (by assumption) ?_
 | (refine rIXk (by assumption) (by assumption) ?_; intro p hp)
 | (refine rIX (by assumption) (by omega) (by omega) ?_; intro p a ha hp)
 | refine rLDi (by assumption) ?_
 | (refine rLD (by assumption) ?_; intro c hc)
 | refine rADD (by omega) ?_
 | refine rSUB (by omega) ?_
 | refine rLSS ?_
 | refine rLEQ ?_
 | refine rGTR ?_
 | refine rGEQ ?_
 | refine rEQL ?_
 | refine rNEQ ?_
 | refine rNOT ?_
 | (refine rBRK ?_ ?_ <;> intro hb)
 | (refine rBRKn ?_ ?_ <;> intro hb)
 | (refine rBRKnb ?_ ?_ <;> intro hb)
 | (refine rBRKb ?_ ?_ <;> intro hb)
 | (refine rSPL ?_ ?_ <;> intro hb)
 | (refine rSPLn ?_ ?_ <;> intro hb)
 | (refine rSPLnb ?_ ?_ <;> intro hb)
 | (refine rSPLb ?_ ?_ <;> intro hb)
 | (exfalso; omega))
    rw [List.drop_eq_nil_of_le (by omega), List.drop_eq_nil_of_le (by omega)] at hq
    exact hq
  | succ n ih =>
    intro k hk hq
    obtain ⟨a1, ha1⟩ := ex_get (l := a) (k := k) (by omega)
    obtain ⟨b1, hb1⟩ := ex_get (l := b) (k := k) (by omega)
    apply laws_hRows.step4
    unfold laws_hRows.step4_vc
    repeat' (with_reducible first
 | refine rTT ?_
 | refine rRFL ?_
 | refine rLEN (by assumption) ?_
 | (refine rIXk (by assumption) (by assumption) ?_; intro p hp)
 | (refine rIX (by assumption) (by omega) (by omega) ?_; intro p a ha hp)
 | refine rLDi (by assumption) ?_
 | (refine rLD (by assumption) ?_; intro c hc)
 | refine rADD (by omega) ?_
 | refine rSUB (by omega) ?_
 | refine rLSS ?_
 | refine rLEQ ?_
 | refine rGTR ?_
 | refine rGEQ ?_
 | refine rEQL ?_
 | refine rNEQ ?_
 | refine rNOT ?_
 | (refine rBRK ?_ ?_ <;> intro hb)
 | (refine rBRKn ?_ ?_ <;> intro hb)
 | (refine rBRKnb ?_ ?_ <;> intro hb)
 | (refine rBRKb ?_ ?_ <;> intro hb)
 | (refine rSPL ?_ ?_ <;> intro hb)
 | (refine rSPLn ?_ ?_ <;> intro hb)
 | (refine rSPLnb ?_ ?_ <;> intro hb)
 | (refine rSPLb ?_ ?_ <;> intro hb)
 | (exfalso; omega))
    rw [drop_some ha1, drop_some hb1] at hq
    refine ACalls.mono (hSame_ok (by assumption) (by assumption) (hr _ (List.mem_of_getElem? ha1))) ?_
    rintro r H' ⟨rfl, rfl⟩
    repeat' (with_reducible first
 | refine rTT ?_
 | refine rRFL ?_
 | refine rLEN (by assumption) ?_
 | (refine rIXk (by assumption) (by assumption) ?_; intro p hp)
 | (refine rIX (by assumption) (by omega) (by omega) ?_; intro p a ha hp)
 | refine rLDi (by assumption) ?_
 | (refine rLD (by assumption) ?_; intro c hc)
 | refine rADD (by omega) ?_
 | refine rSUB (by omega) ?_
 | refine rLSS ?_
 | refine rLEQ ?_
 | refine rGTR ?_
 | refine rGEQ ?_
 | refine rEQL ?_
 | refine rNEQ ?_
 | refine rNOT ?_
 | (refine rBRK ?_ ?_ <;> intro hb)
 | (refine rBRKn ?_ ?_ <;> intro hb)
 | (refine rBRKnb ?_ ?_ <;> intro hb)
 | (refine rBRKb ?_ ?_ <;> intro hb)
 | (refine rSPL ?_ ?_ <;> intro hb)
 | (refine rSPLn ?_ ?_ <;> intro hb)
 | (refine rSPLnb ?_ ?_ <;> intro hb)
 | (refine rSPLb ?_ ?_ <;> intro hb)
 | (exfalso; omega))
    · rw [decide_eq_false (by simp; intro h; exact absurd h hb)] at hq
      exact hq
    · refine ih (k + 1) (by omega) ?_
      simpa [hb] using hq
theorem hRows_ok {a b : List (List Int)} {v u : AVal} (hv : IsTab v a) (hu : IsTab u b) (hl : a.length ≤ 1000000) (hr : ∀ r ∈ a, r.length ≤ 1000000) {H : Heap} : ACalls Try.prog 12 [v, u] H fun r H' => r = .bool (decide (a = b)) ∧ H' = H := by
  apply laws_hRows.start
  unfold laws_hRows.start_vc
  repeat' (with_reducible first
 | refine rTT ?_
 | refine rRFL ?_
 | refine rLEN (by assumption) ?_
 | (refine rIXk (by assumption) (by assumption) ?_; intro p hp)
 | (refine rIX (by assumption) (by omega) (by omega) ?_; intro p a ha hp)
 | refine rLDi (by assumption) ?_
 | (refine rLD (by assumption) ?_; intro c hc)
 | refine rADD (by omega) ?_
 | refine rSUB (by omega) ?_
 | refine rLSS ?_
 | refine rLEQ ?_
 | refine rGTR ?_
 | refine rGEQ ?_
 | refine rEQL ?_
 | refine rNEQ ?_
 | refine rNOT ?_
 | (refine rBRK ?_ ?_ <;> intro hb)
 | (refine rBRKn ?_ ?_ <;> intro hb)
 | (refine rBRKnb ?_ ?_ <;> intro hb)
 | (refine rBRKb ?_ ?_ <;> intro hb)
 | (refine rSPL ?_ ?_ <;> intro hb)
 | (refine rSPLn ?_ ?_ <;> intro hb)
 | (refine rSPLnb ?_ ?_ <;> intro hb)
 | (refine rSPLb ?_ ?_ <;> intro hb)
 | (exfalso; omega))
  · exact ⟨by rw [decide_eq_false (fun h => by rw [h] at hb; exact hb rfl)], rfl⟩
  · exact hRows_loop hv hu hl hr (by omega) a.length 0 (by omega) ⟨rfl, rfl⟩
theorem big_ok {α β : Type} {R : AVal → α → Prop} {S : AVal → β → Prop} {a : List α} {b : List β} {v u : AVal} (hv : IsSl R v a) (hu : IsSl S u b) (ha : a.length ≤ 9223372036854775807) (hb' : b.length ≤ 9223372036854775807) {H : Heap} :
    ACalls Try.prog 6 [v, u] H fun r H' => r = .bool (decide (a.length + b.length > 1048576)) ∧ H' = H := by
  apply laws_big.start
  unfold laws_big.start_vc
  repeat' (with_reducible first
 | refine rTT ?_
 | refine rRFL ?_
 | refine rLEN (by assumption) ?_
 | (refine rIXk (by assumption) (by assumption) ?_; intro p hp)
 | (refine rIX (by assumption) (by omega) (by omega) ?_; intro p a ha hp)
 | refine rLDi (by assumption) ?_
 | (refine rLD (by assumption) ?_; intro c hc)
 | refine rADD (by omega) ?_
 | refine rSUB (by omega) ?_
 | refine rLSS ?_
 | refine rLEQ ?_
 | refine rGTR ?_
 | refine rGEQ ?_
 | refine rEQL ?_
 | refine rNEQ ?_
 | refine rNOT ?_
 | (refine rBRK ?_ ?_ <;> intro hb)
 | (refine rBRKn ?_ ?_ <;> intro hb)
 | (refine rBRKnb ?_ ?_ <;> intro hb)
 | (refine rBRKb ?_ ?_ <;> intro hb)
 | (refine rSPL ?_ ?_ <;> intro hb)
 | (refine rSPLn ?_ ?_ <;> intro hb)
 | (refine rSPLnb ?_ ?_ <;> intro hb)
 | (refine rSPLb ?_ ?_ <;> intro hb)
 | (exfalso; omega))
  · exact ⟨by rw [decide_eq_true (by omega)], rfl⟩
  · exact ⟨by congr 1; simp only [decide_eq_decide]; omega, rfl⟩

theorem l1All_loop {l : List Int} {lo hi : Int} {v : AVal} (hv : IsInts v l) (hl : l.length ≤ 1000000) {H : Heap} {Q : AVal → Heap → Prop} : ∀ (n k : Nat), k + n = l.length → Q (.bool ((l.drop k).all fun n => decide (lo ≤ n ∧ n ≤ hi))) H →
    spec_l1All.L2 Q (I lo) (I hi) v (I l.length) (I k) H := by
  intro n
  induction n with
  | zero =>
    intro k hk hq
    apply spec_l1All.step2
    unfold spec_l1All.step2_vc
    repeat' (with_reducible first
 | refine rTT ?_
 | refine rRFL ?_
 | refine rLEN (by assumption) ?_
 | (refine rIXk (by assumption) (by assumption) ?_; intro p hp)
 | (refine rIX (by assumption) (by omega) (by omega) ?_; intro p a ha hp)
 | refine rLDi (by assumption) ?_
 | (refine rLD (by assumption) ?_; intro c hc)
 | refine rADD (by omega) ?_
 | refine rSUB (by omega) ?_
 | refine rLSS ?_
 | refine rLEQ ?_
 | refine rGTR ?_
 | refine rGEQ ?_
 | refine rEQL ?_
 | refine rNEQ ?_
 | refine rNOT ?_
 | (refine rBRK ?_ ?_ <;> intro hb)
 | (refine rBRKn ?_ ?_ <;> intro hb)
 | (refine rBRKnb ?_ ?_ <;> intro hb)
 | (refine rBRKb ?_ ?_ <;> intro hb)
 | (refine rSPL ?_ ?_ <;> intro hb)
 | (refine rSPLn ?_ ?_ <;> intro hb)
 | (refine rSPLnb ?_ ?_ <;> intro hb)
 | (refine rSPLb ?_ ?_ <;> intro hb)
 | (exfalso; omega))
    rw [List.drop_eq_nil_of_le (by omega)] at hq
    exact hq
  | succ n ih =>
    intro k hk hq
    apply spec_l1All.step2
    unfold spec_l1All.step2_vc
    repeat' (with_reducible first
 | refine rTT ?_
 | (refine ACalls.mono (l1In_ok) ?_; rintro r H' ⟨rfl, rfl⟩)
 | refine rRFL ?_
 | refine rLEN (by assumption) ?_
 | (refine rIXk (by assumption) (by assumption) ?_; intro p hp)
 | (refine rIX (by assumption) (by omega) (by omega) ?_; intro p a ha hp)
 | refine rLDi (by assumption) ?_
 | (refine rLD (by assumption) ?_; intro c hc)
 | refine rADD (by omega) ?_
 | refine rSUB (by omega) ?_
 | refine rLSS ?_
 | refine rLEQ ?_
 | refine rGTR ?_
 | refine rGEQ ?_
 | refine rEQL ?_
 | refine rNEQ ?_
 | refine rNOT ?_
 | (refine rBRK ?_ ?_ <;> intro hb)
 | (refine rBRKn ?_ ?_ <;> intro hb)
 | (refine rBRKnb ?_ ?_ <;> intro hb)
 | (refine rBRKb ?_ ?_ <;> intro hb)
 | (refine rSPL ?_ ?_ <;> intro hb)
 | (refine rSPLn ?_ ?_ <;> intro hb)
 | (refine rSPLnb ?_ ?_ <;> intro hb)
 | (refine rSPLb ?_ ?_ <;> intro hb)
 | (exfalso; omega))
    · rw [drop_someI ha, List.all_cons, decide_eq_false hb, Bool.false_and] at hq
      exact hq
    · rw [drop_someI ha, List.all_cons, decide_eq_true hb, Bool.true_and] at hq
      exact ih (k + 1) (by omega) hq
theorem l1All_ok {l : List Int} {lo hi : Int} {v : AVal} (hv : IsInts v l) (hl : l.length ≤ 1000000) {H : Heap} : ACalls Try.prog 116 [v, I lo, I hi] H fun r H' => r = .bool (l.all fun n => decide (lo ≤ n ∧ n ≤ hi)) ∧ H' = H := by
  apply spec_l1All.start
  unfold spec_l1All.start_vc
  repeat' (with_reducible first
 | refine rTT ?_
 | refine rRFL ?_
 | refine rLEN (by assumption) ?_
 | (refine rIXk (by assumption) (by assumption) ?_; intro p hp)
 | (refine rIX (by assumption) (by omega) (by omega) ?_; intro p a ha hp)
 | refine rLDi (by assumption) ?_
 | (refine rLD (by assumption) ?_; intro c hc)
 | refine rADD (by omega) ?_
 | refine rSUB (by omega) ?_
 | refine rLSS ?_
 | refine rLEQ ?_
 | refine rGTR ?_
 | refine rGEQ ?_
 | refine rEQL ?_
 | refine rNEQ ?_
 | refine rNOT ?_
 | (refine rBRK ?_ ?_ <;> intro hb)
 | (refine rBRKn ?_ ?_ <;> intro hb)
 | (refine rBRKnb ?_ ?_ <;> intro hb)
 | (refine rBRKb ?_ ?_ <;> intro hb)
 | (refine rSPL ?_ ?_ <;> intro hb)
 | (refine rSPLn ?_ ?_ <;> intro hb)
 | (refine rSPLnb ?_ ?_ <;> intro hb)
 | (refine rSPLb ?_ ?_ <;> intro hb)
 | (exfalso; omega))
  exact l1All_loop hv hl l.length 0 (by omega) ⟨rfl, rfl⟩

theorem l1Least_ok {a b : Int} {H : Heap} : ACalls Try.prog 135 [I a, I b] H fun r H' => r = I (if a < b then a else b) ∧ H' = H := by
  apply spec_l1Least.start
  unfold spec_l1Least.start_vc
  repeat' (with_reducible first
 | refine rTT ?_
 | refine rRFL ?_
 | refine rLEN (by assumption) ?_
 | (refine rIXk (by assumption) (by assumption) ?_; intro p hp)
 | (refine rIX (by assumption) (by omega) (by omega) ?_; intro p a ha hp)
 | refine rLDi (by assumption) ?_
 | (refine rLD (by assumption) ?_; intro c hc)
 | refine rADD (by omega) ?_
 | refine rSUB (by omega) ?_
 | refine rLSS ?_
 | refine rLEQ ?_
 | refine rGTR ?_
 | refine rGEQ ?_
 | refine rEQL ?_
 | refine rNEQ ?_
 | refine rNOT ?_
 | (refine rBRK ?_ ?_ <;> intro hb)
 | (refine rBRKn ?_ ?_ <;> intro hb)
 | (refine rBRKnb ?_ ?_ <;> intro hb)
 | (refine rBRKb ?_ ?_ <;> intro hb)
 | (refine rSPL ?_ ?_ <;> intro hb)
 | (refine rSPLn ?_ ?_ <;> intro hb)
 | (refine rSPLnb ?_ ?_ <;> intro hb)
 | (refine rSPLb ?_ ?_ <;> intro hb)
 | (exfalso; omega))
  · exact ⟨by rw [if_pos hb], rfl⟩
  · exact ⟨by rw [if_neg hb], rfl⟩

theorem sgSquare_loop {t : List (List Int)} {v : AVal} (hv : IsTab v t) (hl : t.length ≤ 6) (hr : ∀ r ∈ t, r.length ≤ 1000000) {H : Heap} {Q : AVal → Heap → Prop} : ∀ (n k : Nat), k + n = t.length → Q (.bool ((t.drop k).all fun r => decide (r.length = t.length))) H →
    spec_sgSquare.L4 Q v v (I t.length) (I k) H := by
  intro n
  induction n with
  | zero =>
    intro k hk hq
    apply spec_sgSquare.step4
    unfold spec_sgSquare.step4_vc
    repeat' (with_reducible first
 | refine rTT ?_
 | refine rRFL ?_
 | refine rLEN (by assumption) ?_
 | (refine rIXk (by assumption) (by assumption) ?_; intro p hp)
 | (refine rIX (by assumption) (by omega) (by omega) ?_; intro p a ha hp)
 | refine rLDi (by assumption) ?_
 | (refine rLD (by assumption) ?_; intro c hc)
 | refine rADD (by omega) ?_
 | refine rSUB (by omega) ?_
 | refine rLSS ?_
 | refine rLEQ ?_
 | refine rGTR ?_
 | refine rGEQ ?_
 | refine rEQL ?_
 | refine rNEQ ?_
 | refine rNOT ?_
 | (refine rBRK ?_ ?_ <;> intro hb)
 | (refine rBRKn ?_ ?_ <;> intro hb)
 | (refine rBRKnb ?_ ?_ <;> intro hb)
 | (refine rBRKb ?_ ?_ <;> intro hb)
 | (refine rSPL ?_ ?_ <;> intro hb)
 | (refine rSPLn ?_ ?_ <;> intro hb)
 | (refine rSPLnb ?_ ?_ <;> intro hb)
 | (refine rSPLb ?_ ?_ <;> intro hb)
 | (exfalso; omega))
    rw [List.drop_eq_nil_of_le (by omega)] at hq
    exact hq
  | succ n ih =>
    intro k hk hq
    apply spec_sgSquare.step4
    unfold spec_sgSquare.step4_vc
    repeat' (with_reducible first
 | refine rTT ?_
 | refine rRFL ?_
 | refine rLEN (by assumption) ?_
 | (refine rIXk (by assumption) (by assumption) ?_; intro p hp)
 | (refine rIX (by assumption) (by omega) (by omega) ?_; intro p a ha hp)
 | refine rLDi (by assumption) ?_
 | (refine rLD (by assumption) ?_; intro c hc)
 | refine rADD (by omega) ?_
 | refine rSUB (by omega) ?_
 | refine rLSS ?_
 | refine rLEQ ?_
 | refine rGTR ?_
 | refine rGEQ ?_
 | refine rEQL ?_
 | refine rNEQ ?_
 | refine rNOT ?_
 | (refine rBRK ?_ ?_ <;> intro hb)
 | (refine rBRKn ?_ ?_ <;> intro hb)
 | (refine rBRKnb ?_ ?_ <;> intro hb)
 | (refine rBRKb ?_ ?_ <;> intro hb)
 | (refine rSPL ?_ ?_ <;> intro hb)
 | (refine rSPLn ?_ ?_ <;> intro hb)
 | (refine rSPLnb ?_ ?_ <;> intro hb)
 | (refine rSPLb ?_ ?_ <;> intro hb)
 | (exfalso; omega))
    · rw [drop_someI ha, List.all_cons, decide_eq_false (by omega), Bool.false_and] at hq
      exact hq
    · rw [drop_someI ha, List.all_cons, decide_eq_true (by omega), Bool.true_and] at hq
      exact ih (k + 1) (by omega) hq
theorem sgSquare_ok {t : List (List Int)} {v : AVal} (hv : IsTab v t) (hl : t.length ≤ 1000000) (hr : ∀ r ∈ t, r.length ≤ 1000000) {H : Heap} : ACalls Try.prog 103 [v] H fun r H' => r = .bool (decide (1 ≤ t.length ∧ t.length ≤ 6) && isSquareB t) ∧ H' = H := by
  apply spec_sgSquare.start
  unfold spec_sgSquare.start_vc
  repeat' (with_reducible first
 | refine rTT ?_
 | (refine ACalls.mono (l1In_ok) ?_; rintro r H' ⟨rfl, rfl⟩)
 | refine rRFL ?_
 | refine rLEN (by assumption) ?_
 | (refine rIXk (by assumption) (by assumption) ?_; intro p hp)
 | (refine rIX (by assumption) (by omega) (by omega) ?_; intro p a ha hp)
 | refine rLDi (by assumption) ?_
 | (refine rLD (by assumption) ?_; intro c hc)
 | refine rADD (by omega) ?_
 | refine rSUB (by omega) ?_
 | refine rLSS ?_
 | refine rLEQ ?_
 | refine rGTR ?_
 | refine rGEQ ?_
 | refine rEQL ?_
 | refine rNEQ ?_
 | refine rNOT ?_
 | (refine rBRK ?_ ?_ <;> intro hb)
 | (refine rBRKn ?_ ?_ <;> intro hb)
 | (refine rBRKnb ?_ ?_ <;> intro hb)
 | (refine rBRKb ?_ ?_ <;> intro hb)
 | (refine rSPL ?_ ?_ <;> intro hb)
 | (refine rSPLn ?_ ?_ <;> intro hb)
 | (refine rSPLnb ?_ ?_ <;> intro hb)
 | (refine rSPLb ?_ ?_ <;> intro hb)
 | (exfalso; omega))
  · exact ⟨by rw [decide_eq_false (by omega)]; rfl, rfl⟩
  · exact sgSquare_loop hv (by omega) hr t.length 0 (by omega) ⟨by rw [decide_eq_true (by omega)]; rfl, rfl⟩

/-! ### Rows -/
theorem sgRows_in {t : List (List Int)} {v vr : AVal} {row : List Int} {H : Heap} {Q : AVal → Heap → Prop} (hv : IsTab v t) (hr : IsInts vr row) (hl : row.length ≤ 1000000) (htl : t.length ≤ 1000000) {j : Nat} (hj : j < t.length) (hno : alternateB row = false → Q (.bool false) H)
    (hyes : alternateB row = true → spec_sgRows.L2 Q v (I t.length) (I (j + 1 : Nat)) H) : ∀ (n k : Nat) (s : Int), k + n = row.length → alternateG (row.drop k) s = alternateB row →
    spec_sgRows.L6 Q (I s) v (I t.length) (I j) vr (I row.length) (I k) H := by
  intro n
  induction n with
  | zero =>
    intro k s hk hq
    apply spec_sgRows.step6
    unfold spec_sgRows.step6_vc
    rw [List.drop_eq_nil_of_le (by omega)] at hq
    simp only [alternateG] at hq
    repeat' (with_reducible first
 | refine rTT ?_
 | refine rRFL ?_
 | refine rLEN (by assumption) ?_
 | (refine rIXk (by assumption) (by assumption) ?_; intro p hp)
 | (refine rIX (by assumption) (by omega) (by omega) ?_; intro p a ha hp)
 | refine rLDi (by assumption) ?_
 | (refine rLD (by assumption) ?_; intro c hc)
 | refine rADD (by omega) ?_
 | refine rSUB (by omega) ?_
 | refine rLSS ?_
 | refine rLEQ ?_
 | refine rGTR ?_
 | refine rGEQ ?_
 | refine rEQL ?_
 | refine rNEQ ?_
 | refine rNOT ?_
 | (refine rBRK ?_ ?_ <;> intro hb)
 | (refine rBRKn ?_ ?_ <;> intro hb)
 | (refine rBRKnb ?_ ?_ <;> intro hb)
 | (refine rBRKb ?_ ?_ <;> intro hb)
 | (refine rSPL ?_ ?_ <;> intro hb)
 | (refine rSPLn ?_ ?_ <;> intro hb)
 | (refine rSPLnb ?_ ?_ <;> intro hb)
 | (refine rSPLb ?_ ?_ <;> intro hb)
 | (exfalso; omega))
    · exact hno (by rw [← hq]; exact decide_eq_false hb)
    · exact hyes (by rw [← hq]; exact decide_eq_true (Decidable.not_not.1 hb))
  | succ n ih =>
    intro k s hk hq
    apply spec_sgRows.step6
    unfold spec_sgRows.step6_vc
    repeat' (with_reducible first
 | refine rTT ?_
 | (refine ACalls.mono (l1In_ok) ?_; rintro r H' ⟨rfl, rfl⟩)
 | refine rRFL ?_
 | refine rLEN (by assumption) ?_
 | (refine rIXk (by assumption) (by assumption) ?_; intro p hp)
 | (refine rIX (by assumption) (by omega) (by omega) ?_; intro p a ha hp)
 | refine rLDi (by assumption) ?_
 | (refine rLD (by assumption) ?_; intro c hc)
 | refine rADD (by omega) ?_
 | refine rSUB (by omega) ?_
 | refine rLSS ?_
 | refine rLEQ ?_
 | refine rGTR ?_
 | refine rGEQ ?_
 | refine rEQL ?_
 | refine rNEQ ?_
 | refine rNOT ?_
 | (refine rBRK ?_ ?_ <;> intro hb)
 | (refine rBRKn ?_ ?_ <;> intro hb)
 | (refine rBRKnb ?_ ?_ <;> intro hb)
 | (refine rBRKb ?_ ?_ <;> intro hb)
 | (refine rSPL ?_ ?_ <;> intro hb)
 | (refine rSPLn ?_ ?_ <;> intro hb)
 | (refine rSPLnb ?_ ?_ <;> intro hb)
 | (refine rSPLb ?_ ?_ <;> intro hb)
 | (exfalso; omega))
    · rw [drop_someI ha] at hq
      simp only [alternateG, decide_eq_false hb, Bool.false_and] at hq
      exact hno hq.symm
    · rw [drop_someI ha] at hq
      refine rADDw ?_
      repeat' (with_reducible first
 | refine rTT ?_
 | (refine ACalls.mono (l1In_ok) ?_; rintro r H' ⟨rfl, rfl⟩)
 | refine rRFL ?_
 | refine rLEN (by assumption) ?_
 | (refine rIXk (by assumption) (by assumption) ?_; intro p hp)
 | (refine rIX (by assumption) (by omega) (by omega) ?_; intro p a ha hp)
 | refine rLDi (by assumption) ?_
 | (refine rLD (by assumption) ?_; intro c hc)
 | refine rADD (by omega) ?_
 | refine rSUB (by omega) ?_
 | refine rLSS ?_
 | refine rLEQ ?_
 | refine rGTR ?_
 | refine rGEQ ?_
 | refine rEQL ?_
 | refine rNEQ ?_
 | refine rNOT ?_
 | (refine rBRK ?_ ?_ <;> intro hb)
 | (refine rBRKn ?_ ?_ <;> intro hb)
 | (refine rBRKnb ?_ ?_ <;> intro hb)
 | (refine rBRKb ?_ ?_ <;> intro hb)
 | (refine rSPL ?_ ?_ <;> intro hb)
 | (refine rSPLn ?_ ?_ <;> intro hb)
 | (refine rSPLnb ?_ ?_ <;> intro hb)
 | (refine rSPLb ?_ ?_ <;> intro hb)
 | (exfalso; omega))
      · simp only [alternateG, decide_eq_false hb, Bool.and_false, Bool.false_and] at hq
        exact hno hq.symm
      · simp only [alternateG, decide_eq_true ‹-1 ≤ a ∧ a ≤ 1›, decide_eq_true ‹0 ≤ w64 (s + a) ∧ w64 (s + a) ≤ 1›, Bool.true_and] at hq
        exact ih (k + 1) _ (by omega) hq
theorem sgRows_loop {t : List (List Int)} {v : AVal} (hv : IsTab v t) (hl : t.length ≤ 1000000) (hr : ∀ r ∈ t, r.length ≤ 1000000) {H : Heap} {Q : AVal → Heap → Prop} : ∀ (n k : Nat), k + n = t.length → Q (.bool ((t.drop k).all alternateB)) H →
    spec_sgRows.L2 Q v (I t.length) (I k) H := by
  intro n
  induction n with
  | zero =>
    intro k hk hq
    apply spec_sgRows.step2
    unfold spec_sgRows.step2_vc
    repeat' (with_reducible first
 | refine rTT ?_
 | refine rRFL ?_
 | refine rLEN (by assumption) ?_
 | (refine rIXk (by assumption) (by assumption) ?_; intro p hp)
 | (refine rIX (by assumption) (by omega) (by omega) ?_; intro p a ha hp)
 | refine rLDi (by assumption) ?_
 | (refine rLD (by assumption) ?_; intro c hc)
 | refine rADD (by omega) ?_
 | refine rSUB (by omega) ?_
 | refine rLSS ?_
 | refine rLEQ ?_
 | refine rGTR ?_
 | refine rGEQ ?_
 | refine rEQL ?_
 | refine rNEQ ?_
 | refine rNOT ?_
 | (refine rBRK ?_ ?_ <;> intro hb)
 | (refine rBRKn ?_ ?_ <;> intro hb)
 | (refine rBRKnb ?_ ?_ <;> intro hb)
 | (refine rBRKb ?_ ?_ <;> intro hb)
 | (refine rSPL ?_ ?_ <;> intro hb)
 | (refine rSPLn ?_ ?_ <;> intro hb)
 | (refine rSPLnb ?_ ?_ <;> intro hb)
 | (refine rSPLb ?_ ?_ <;> intro hb)
 | (exfalso; omega))
    rw [List.drop_eq_nil_of_le (by omega)] at hq
    exact hq
  | succ n ih =>
    intro k hk hq
    apply spec_sgRows.step2
    unfold spec_sgRows.step2_vc
    repeat' (with_reducible first
 | refine rTT ?_
 | refine rRFL ?_
 | refine rLEN (by assumption) ?_
 | (refine rIXk (by assumption) (by assumption) ?_; intro p hp)
 | (refine rIX (by assumption) (by omega) (by omega) ?_; intro p a ha hp)
 | refine rLDi (by assumption) ?_
 | (refine rLD (by assumption) ?_; intro c hc)
 | refine rADD (by omega) ?_
 | refine rSUB (by omega) ?_
 | refine rLSS ?_
 | refine rLEQ ?_
 | refine rGTR ?_
 | refine rGEQ ?_
 | refine rEQL ?_
 | refine rNEQ ?_
 | refine rNOT ?_
 | (refine rBRK ?_ ?_ <;> intro hb)
 | (refine rBRKn ?_ ?_ <;> intro hb)
 | (refine rBRKnb ?_ ?_ <;> intro hb)
 | (refine rBRKb ?_ ?_ <;> intro hb)
 | (refine rSPL ?_ ?_ <;> intro hb)
 | (refine rSPLn ?_ ?_ <;> intro hb)
 | (refine rSPLnb ?_ ?_ <;> intro hb)
 | (refine rSPLb ?_ ?_ <;> intro hb)
 | (exfalso; omega))
    rw [drop_someI ha, List.all_cons] at hq
    refine sgRows_in hv hc (hr _ (List.mem_of_getElem? ha)) hl (j := k) (by omega) (fun h => ?_) (fun h => ?_) a.length 0 0 (by omega) rfl
    · rw [h] at hq; exact hq
    · rw [h] at hq; exact ih (k + 1) (by omega) hq
theorem sgRows_ok {t : List (List Int)} {v : AVal} (hv : IsTab v t) (hl : t.length ≤ 1000000) (hr : ∀ r ∈ t, r.length ≤ 1000000) {H : Heap} : ACalls Try.prog 104 [v] H fun r H' => r = .bool (t.all alternateB) ∧ H' = H := by
  apply spec_sgRows.start
  unfold spec_sgRows.start_vc
  repeat' (with_reducible first
 | refine rTT ?_
 | refine rRFL ?_
 | refine rLEN (by assumption) ?_
 | (refine rIXk (by assumption) (by assumption) ?_; intro p hp)
 | (refine rIX (by assumption) (by omega) (by omega) ?_; intro p a ha hp)
 | refine rLDi (by assumption) ?_
 | (refine rLD (by assumption) ?_; intro c hc)
 | refine rADD (by omega) ?_
 | refine rSUB (by omega) ?_
 | refine rLSS ?_
 | refine rLEQ ?_
 | refine rGTR ?_
 | refine rGEQ ?_
 | refine rEQL ?_
 | refine rNEQ ?_
 | refine rNOT ?_
 | (refine rBRK ?_ ?_ <;> intro hb)
 | (refine rBRKn ?_ ?_ <;> intro hb)
 | (refine rBRKnb ?_ ?_ <;> intro hb)
 | (refine rBRKb ?_ ?_ <;> intro hb)
 | (refine rSPL ?_ ?_ <;> intro hb)
 | (refine rSPLn ?_ ?_ <;> intro hb)
 | (refine rSPLnb ?_ ?_ <;> intro hb)
 | (refine rSPLb ?_ ?_ <;> intro hb)
 | (exfalso; omega))
  exact sgRows_loop hv hl hr t.length 0 (by omega) ⟨rfl, rfl⟩

end Go.Proofs.Ytccioplhchmilaa.AL

set_option linter.unusedVariables false
set_option maxRecDepth 100000
namespace Go.Proofs.Ytccioplhchmilaa.AL
open Go Go.Proofs

theorem sgTurn_in {t : List (List Int)} {j : Nat} {v vo w9 w10 : AVal} (hv : IsTab v t) (hl : t.length ≤ 1000000) (hj : ∀ r ∈ t, j < r.length) {H0 : Heap} {Q : AVal → Heap → Prop}
    (hq : ∀ v5, IsInts v5 (col t j) → spec_sgTurn.L7 Q v vo (I j) v5 w9 w10 v (I t.length) (I t.length) H0) : ∀ (n k : Nat) (v5 : AVal) (H : Heap), k + n = t.length → Bld H0 v5 H ((col (t.take k) j).map I) →
    spec_sgTurn.L7 Q v vo (I j) v5 w9 w10 v (I t.length) (I k) H := by
  intro n
  induction n with
  | zero =>
    intro k v5 H hk hb0
    rw [List.take_of_length_le (by omega)] at hb0
    obtain ⟨v', h1, h2⟩ := hb0.pur (R := IsI) (xs := col t j) (by simp) (fun i c a hc ha => by rw [List.getElem?_map, ha] at hc; cases hc; rfl)
    have hk' : k = t.length := by omega
    subst hk'
    exact spec_sgTurn.L7_frz (nw_split hb0.sub) (k := 1) ⟨Pur.refl _ _ _, Pur.refl _ _ _, Pur.refl _ _ _, h1, Pur.refl _ _ _, Pur.refl _ _ _, Pur.refl _ _ _, Pur.refl _ _ _, Pur.refl _ _ _, trivial⟩ (hq v' h2)
  | succ n ih =>
    intro k v5 H hk hb0
    obtain ⟨a1, ha1⟩ := ex_get (l := t) (k := k) (by omega)
    have hja := hj a1 (List.mem_of_getElem? ha1)
    apply spec_sgTurn.step7
    unfold spec_sgTurn.step7_vc
    repeat' (with_reducible first
 | refine rTT ?_
 | refine rRFL ?_
 | refine rLEN (by assumption) ?_
 | (refine rIXk (by assumption) (by assumption) ?_; intro p hp)
 | (refine rIX (by assumption) (by omega) (by omega) ?_; intro p a ha hp)
 | refine rLDi (by assumption) ?_
 | (refine rLD (by assumption) ?_; intro c hc)
 | refine rADD (by omega) ?_
 | refine rSUB (by omega) ?_
 | refine rLSS ?_
 | refine rLEQ ?_
 | refine rGTR ?_
 | refine rGEQ ?_
 | refine rEQL ?_
 | refine rNEQ ?_
 | refine rNOT ?_
 | (refine rBRK ?_ ?_ <;> intro hb)
 | (refine rBRKn ?_ ?_ <;> intro hb)
 | (refine rBRKnb ?_ ?_ <;> intro hb)
 | (refine rBRKb ?_ ?_ <;> intro hb)
 | (refine rSPL ?_ ?_ <;> intro hb)
 | (refine rSPLn ?_ ?_ <;> intro hb)
 | (refine rSPLnb ?_ ?_ <;> intro hb)
 | (refine rSPLb ?_ ?_ <;> intro hb)
 | (exfalso; omega))
    refine rLIT1 rfl ?_
    repeat' (with_reducible first
 | refine rTT ?_
 | refine rRFL ?_
 | refine rLEN (by assumption) ?_
 | (refine rIXk (by assumption) (by assumption) ?_; intro p hp)
 | (refine rIX (by assumption) (by omega) (by omega) ?_; intro p a ha hp)
 | refine rLDi (by assumption) ?_
 | (refine rLD (by assumption) ?_; intro c hc)
 | refine rADD (by omega) ?_
 | refine rSUB (by omega) ?_
 | refine rLSS ?_
 | refine rLEQ ?_
 | refine rGTR ?_
 | refine rGEQ ?_
 | refine rEQL ?_
 | refine rNEQ ?_
 | refine rNOT ?_
 | (refine rBRK ?_ ?_ <;> intro hb)
 | (refine rBRKn ?_ ?_ <;> intro hb)
 | (refine rBRKnb ?_ ?_ <;> intro hb)
 | (refine rBRKb ?_ ?_ <;> intro hb)
 | (refine rSPL ?_ ?_ <;> intro hb)
 | (refine rSPLn ?_ ?_ <;> intro hb)
 | (refine rSPLnb ?_ ?_ <;> intro hb)
 | (refine rSPLb ?_ ?_ <;> intro hb)
 | (exfalso; omega))
    refine rAPK1 hb0 (by simp [col]; omega) fun v' H' hb1 => ?_
    repeat' (with_reducible first
 | refine rTT ?_
 | refine rRFL ?_
 | refine rLEN (by assumption) ?_
 | (refine rIXk (by assumption) (by assumption) ?_; intro p hp)
 | (refine rIX (by assumption) (by omega) (by omega) ?_; intro p a ha hp)
 | refine rLDi (by assumption) ?_
 | (refine rLD (by assumption) ?_; intro c hc)
 | refine rADD (by omega) ?_
 | refine rSUB (by omega) ?_
 | refine rLSS ?_
 | refine rLEQ ?_
 | refine rGTR ?_
 | refine rGEQ ?_
 | refine rEQL ?_
 | refine rNEQ ?_
 | refine rNOT ?_
 | (refine rBRK ?_ ?_ <;> intro hb)
 | (refine rBRKn ?_ ?_ <;> intro hb)
 | (refine rBRKnb ?_ ?_ <;> intro hb)
 | (refine rBRKb ?_ ?_ <;> intro hb)
 | (refine rSPL ?_ ?_ <;> intro hb)
 | (refine rSPLn ?_ ?_ <;> intro hb)
 | (refine rSPLnb ?_ ?_ <;> intro hb)
 | (refine rSPLb ?_ ?_ <;> intro hb)
 | (exfalso; omega))
    refine ih (k + 1) v' H' (by omega) ?_
    rw [take_some ha1]
    simp only [Int.toNat_natCast] at ha
    simpa [col, List.getD, ha] using hb1

def turnT (t : List (List Int)) : List (List Int) := (List.range t.length).map (col t)
theorem sgTurn_loop {t : List (List Int)} {v : AVal} (hv : IsTab v t) (hl : t.length ≤ 1000000) (hs : isSquareB t = true) {H0 : Heap} {Q : AVal → Heap → Prop}
    (hq : ∀ v' H' ls, Bld H0 v' H' ls → ls.length = t.length → (∀ (i : Nat) (c : AVal), ls[i]? = some c → IsInts c (col t i)) → Q v' H') : ∀ (n k : Nat) (vo : AVal) (H : Heap) (ls : List AVal), k + n = t.length → Bld H0 vo H ls → ls.length = k →
    (∀ (i : Nat) (c : AVal), ls[i]? = some c → IsInts c (col t i)) → spec_sgTurn.L3 Q v vo (I t.length) (I k) H := by
  intro n
  induction n with
  | zero =>
    intro k vo H ls hk hb0 hlen hls
    apply spec_sgTurn.step3
    unfold spec_sgTurn.step3_vc
    repeat' (with_reducible first
 | refine rTT ?_
 | refine rRFL ?_
 | refine rLEN (by assumption) ?_
 | (refine rIXk (by assumption) (by assumption) ?_; intro p hp)
 | (refine rIX (by assumption) (by omega) (by omega) ?_; intro p a ha hp)
 | refine rLDi (by assumption) ?_
 | (refine rLD (by assumption) ?_; intro c hc)
 | refine rADD (by omega) ?_
 | refine rSUB (by omega) ?_
 | refine rLSS ?_
 | refine rLEQ ?_
 | refine rGTR ?_
 | refine rGEQ ?_
 | refine rEQL ?_
 | refine rNEQ ?_
 | refine rNOT ?_
 | (refine rBRK ?_ ?_ <;> intro hb)
 | (refine rBRKn ?_ ?_ <;> intro hb)
 | (refine rBRKnb ?_ ?_ <;> intro hb)
 | (refine rBRKb ?_ ?_ <;> intro hb)
 | (refine rSPL ?_ ?_ <;> intro hb)
 | (refine rSPLn ?_ ?_ <;> intro hb)
 | (refine rSPLnb ?_ ?_ <;> intro hb)
 | (refine rSPLb ?_ ?_ <;> intro hb)
 | (exfalso; omega))
    exact hq _ _ ls hb0 (by omega) hls
  | succ n ih =>
    intro k vo H ls hk hb0 hlen hls
    apply spec_sgTurn.step3
    unfold spec_sgTurn.step3_vc
    repeat' (with_reducible first
 | refine rTT ?_
 | refine rRFL ?_
 | refine rLEN (by assumption) ?_
 | (refine rIXk (by assumption) (by assumption) ?_; intro p hp)
 | (refine rIX (by assumption) (by omega) (by omega) ?_; intro p a ha hp)
 | refine rLDi (by assumption) ?_
 | (refine rLD (by assumption) ?_; intro c hc)
 | refine rADD (by omega) ?_
 | refine rSUB (by omega) ?_
 | refine rLSS ?_
 | refine rLEQ ?_
 | refine rGTR ?_
 | refine rGEQ ?_
 | refine rEQL ?_
 | refine rNEQ ?_
 | refine rNOT ?_
 | (refine rBRK ?_ ?_ <;> intro hb)
 | (refine rBRKn ?_ ?_ <;> intro hb)
 | (refine rBRKnb ?_ ?_ <;> intro hb)
 | (refine rBRKb ?_ ?_ <;> intro hb)
 | (refine rSPL ?_ ?_ <;> intro hb)
 | (refine rSPLn ?_ ?_ <;> intro hb)
 | (refine rSPLnb ?_ ?_ <;> intro hb)
 | (refine rSPLb ?_ ?_ <;> intro hb)
 | (exfalso; omega))
    refine sgTurn_in hv hl (fun r hr => by rw [sq_len hs hr]; omega) (fun v5 h5 => ?_) t.length 0 _ _ (by omega) (bld_nil H)
    apply spec_sgTurn.step7
    unfold spec_sgTurn.step7_vc
    repeat' (with_reducible first
 | refine rTT ?_
 | refine rRFL ?_
 | refine rLEN (by assumption) ?_
 | (refine rIXk (by assumption) (by assumption) ?_; intro p hp)
 | (refine rIX (by assumption) (by omega) (by omega) ?_; intro p a ha hp)
 | refine rLDi (by assumption) ?_
 | (refine rLD (by assumption) ?_; intro c hc)
 | refine rADD (by omega) ?_
 | refine rSUB (by omega) ?_
 | refine rLSS ?_
 | refine rLEQ ?_
 | refine rGTR ?_
 | refine rGEQ ?_
 | refine rEQL ?_
 | refine rNEQ ?_
 | refine rNOT ?_
 | (refine rBRK ?_ ?_ <;> intro hb)
 | (refine rBRKn ?_ ?_ <;> intro hb)
 | (refine rBRKnb ?_ ?_ <;> intro hb)
 | (refine rBRKb ?_ ?_ <;> intro hb)
 | (refine rSPL ?_ ?_ <;> intro hb)
 | (refine rSPLn ?_ ?_ <;> intro hb)
 | (refine rSPLnb ?_ ?_ <;> intro hb)
 | (refine rSPLb ?_ ?_ <;> intro hb)
 | (exfalso; omega))
    refine rLIT1 h5.one ?_
    repeat' (with_reducible first
 | refine rTT ?_
 | refine rRFL ?_
 | refine rLEN (by assumption) ?_
 | (refine rIXk (by assumption) (by assumption) ?_; intro p hp)
 | (refine rIX (by assumption) (by omega) (by omega) ?_; intro p a ha hp)
 | refine rLDi (by assumption) ?_
 | (refine rLD (by assumption) ?_; intro c hc)
 | refine rADD (by omega) ?_
 | refine rSUB (by omega) ?_
 | refine rLSS ?_
 | refine rLEQ ?_
 | refine rGTR ?_
 | refine rGEQ ?_
 | refine rEQL ?_
 | refine rNEQ ?_
 | refine rNOT ?_
 | (refine rBRK ?_ ?_ <;> intro hb)
 | (refine rBRKn ?_ ?_ <;> intro hb)
 | (refine rBRKnb ?_ ?_ <;> intro hb)
 | (refine rBRKb ?_ ?_ <;> intro hb)
 | (refine rSPL ?_ ?_ <;> intro hb)
 | (refine rSPLn ?_ ?_ <;> intro hb)
 | (refine rSPLnb ?_ ?_ <;> intro hb)
 | (refine rSPLb ?_ ?_ <;> intro hb)
 | (exfalso; omega))
    refine rAPK1 hb0 (by omega) fun v' H' hb1 => ?_
    repeat' (with_reducible first
 | refine rTT ?_
 | refine rRFL ?_
 | refine rLEN (by assumption) ?_
 | (refine rIXk (by assumption) (by assumption) ?_; intro p hp)
 | (refine rIX (by assumption) (by omega) (by omega) ?_; intro p a ha hp)
 | refine rLDi (by assumption) ?_
 | (refine rLD (by assumption) ?_; intro c hc)
 | refine rADD (by omega) ?_
 | refine rSUB (by omega) ?_
 | refine rLSS ?_
 | refine rLEQ ?_
 | refine rGTR ?_
 | refine rGEQ ?_
 | refine rEQL ?_
 | refine rNEQ ?_
 | refine rNOT ?_
 | (refine rBRK ?_ ?_ <;> intro hb)
 | (refine rBRKn ?_ ?_ <;> intro hb)
 | (refine rBRKnb ?_ ?_ <;> intro hb)
 | (refine rBRKb ?_ ?_ <;> intro hb)
 | (refine rSPL ?_ ?_ <;> intro hb)
 | (refine rSPLn ?_ ?_ <;> intro hb)
 | (refine rSPLnb ?_ ?_ <;> intro hb)
 | (refine rSPLb ?_ ?_ <;> intro hb)
 | (exfalso; omega))
    refine ih (k + 1) v' H' (ls ++ [v5]) (by omega) hb1 (by simp [hlen]) ?_
    intro i c hc
    rw [List.getElem?_append] at hc
    split at hc
    · exact hls i c hc
    · have : i - ls.length = 0 := by
        have := (List.getElem?_eq_some_iff.1 hc).1
        simp at this; omega
      have hi : i = k := by omega
      subst hi
      rw [this] at hc
      cases hc; exact h5
theorem sgTurn_ok {t : List (List Int)} {v : AVal} (hv : IsTab v t) (hl : t.length ≤ 1000000) (hs : isSquareB t = true) {H : Heap} : ACalls Try.prog 105 [v] H fun r H' => IsTab r (turnT t) ∧ H' = H := by
  apply ACalls.pure
  apply spec_sgTurn.start
  unfold spec_sgTurn.start_vc
  repeat' (with_reducible first
 | refine rTT ?_
 | refine rRFL ?_
 | refine rLEN (by assumption) ?_
 | (refine rIXk (by assumption) (by assumption) ?_; intro p hp)
 | (refine rIX (by assumption) (by omega) (by omega) ?_; intro p a ha hp)
 | refine rLDi (by assumption) ?_
 | (refine rLD (by assumption) ?_; intro c hc)
 | refine rADD (by omega) ?_
 | refine rSUB (by omega) ?_
 | refine rLSS ?_
 | refine rLEQ ?_
 | refine rGTR ?_
 | refine rGEQ ?_
 | refine rEQL ?_
 | refine rNEQ ?_
 | refine rNOT ?_
 | (refine rBRK ?_ ?_ <;> intro hb)
 | (refine rBRKn ?_ ?_ <;> intro hb)
 | (refine rBRKnb ?_ ?_ <;> intro hb)
 | (refine rBRKb ?_ ?_ <;> intro hb)
 | (refine rSPL ?_ ?_ <;> intro hb)
 | (refine rSPLn ?_ ?_ <;> intro hb)
 | (refine rSPLnb ?_ ?_ <;> intro hb)
 | (refine rSPLb ?_ ?_ <;> intro hb)
 | (exfalso; omega))
  refine sgTurn_loop hv hl hs (fun v' H' ls hb hlen hls => ?_) t.length 0 _ _ [] (by omega) (bld_nil H) rfl (by simp)
  refine hb.done (R := IsInts) (xs := turnT t) (Q := fun r H' => IsTab r (turnT t) ∧ H' = H) (by simp [turnT, hlen]) (fun i c a hc ha => ?_) (fun r hr => ⟨hr, rfl⟩)
  have hi := (List.getElem?_eq_some_iff.1 hc).1
  have : a = col t i := by
    simp only [turnT, List.getElem?_map] at ha
    rw [List.getElem?_range (by omega)] at ha
    cases ha; rfl
  rw [this]; exact hls i c hc

theorem good_eq {t : List (List Int)} : (decide (1 ≤ t.length ∧ t.length ≤ 6) && isSquareB t && (t.all alternateB && (turnT t).all alternateB)) = goodB t := by
  unfold goodB
  rw [Bool.and_assoc]
  congr 1
  congr 1
  rw [Bool.eq_iff_iff]
  simp only [Bool.and_eq_true, List.all_eq_true, turnT, List.mem_map, List.mem_range, chk]
  constructor
  · rintro ⟨h1, h2⟩ i hi
    refine ⟨?_, h2 _ ⟨i, hi, rfl⟩⟩
    have : t.getD i [] = t[i] := by simp [List.getD, hi]
    rw [this]; exact h1 _ (List.getElem_mem hi)
  · intro h
    refine ⟨fun r hr => ?_, ?_⟩
    · obtain ⟨i, hi, rfl⟩ := List.getElem_of_mem hr
      have := (h i hi).1
      rwa [show t.getD i [] = t[i] by simp [List.getD, hi]] at this
    · rintro r ⟨i, hi, rfl⟩
      exact (h i hi).2
theorem sgGood_ok {t : List (List Int)} {v : AVal} (hv : IsTab v t) (hl : t.length ≤ 1000000) (hr : ∀ r ∈ t, r.length ≤ 1000000) {H : Heap} : ACalls Try.prog 53 [v] H fun r H' => r = .bool (goodB t) ∧ H' = H := by
  apply spec_sgGood.start
  unfold spec_sgGood.start_vc
  refine ACalls.mono (sgSquare_ok hv hl hr) ?_
  rintro r H' ⟨rfl, rfl⟩
  rw [← good_eq]
  repeat' (with_reducible first
 | refine rTT ?_
 | refine rRFL ?_
 | refine rLEN (by assumption) ?_
 | (refine rIXk (by assumption) (by assumption) ?_; intro p hp)
 | (refine rIX (by assumption) (by omega) (by omega) ?_; intro p a ha hp)
 | refine rLDi (by assumption) ?_
 | (refine rLD (by assumption) ?_; intro c hc)
 | refine rADD (by omega) ?_
 | refine rSUB (by omega) ?_
 | refine rLSS ?_
 | refine rLEQ ?_
 | refine rGTR ?_
 | refine rGEQ ?_
 | refine rEQL ?_
 | refine rNEQ ?_
 | refine rNOT ?_
 | (refine rBRK ?_ ?_ <;> intro hb)
 | (refine rBRKn ?_ ?_ <;> intro hb)
 | (refine rBRKnb ?_ ?_ <;> intro hb)
 | (refine rBRKb ?_ ?_ <;> intro hb)
 | (refine rSPL ?_ ?_ <;> intro hb)
 | (refine rSPLn ?_ ?_ <;> intro hb)
 | (refine rSPLnb ?_ ?_ <;> intro hb)
 | (refine rSPLb ?_ ?_ <;> intro hb)
 | (exfalso; omega))
  · refine ACalls.mono (sgRows_ok hv hl hr) ?_
    rintro r H' ⟨rfl, rfl⟩
    have hs : isSquareB t = true := by simp only [Bool.and_eq_true] at hb; exact hb.2
    rw [hb]
    repeat' (with_reducible first
 | refine rTT ?_
 | refine rRFL ?_
 | refine rLEN (by assumption) ?_
 | (refine rIXk (by assumption) (by assumption) ?_; intro p hp)
 | (refine rIX (by assumption) (by omega) (by omega) ?_; intro p a ha hp)
 | refine rLDi (by assumption) ?_
 | (refine rLD (by assumption) ?_; intro c hc)
 | refine rADD (by omega) ?_
 | refine rSUB (by omega) ?_
 | refine rLSS ?_
 | refine rLEQ ?_
 | refine rGTR ?_
 | refine rGEQ ?_
 | refine rEQL ?_
 | refine rNEQ ?_
 | refine rNOT ?_
 | (refine rBRK ?_ ?_ <;> intro hb)
 | (refine rBRKn ?_ ?_ <;> intro hb)
 | (refine rBRKnb ?_ ?_ <;> intro hb)
 | (refine rBRKb ?_ ?_ <;> intro hb)
 | (refine rSPL ?_ ?_ <;> intro hb)
 | (refine rSPLn ?_ ?_ <;> intro hb)
 | (refine rSPLnb ?_ ?_ <;> intro hb)
 | (refine rSPLb ?_ ?_ <;> intro hb)
 | (exfalso; omega))
    · refine ACalls.mono (sgTurn_ok hv hl hs) ?_
      rintro r H' ⟨hr1, rfl⟩
      refine ACalls.mono (sgRows_ok hr1 (by simp [turnT]; omega) ?_) ?_
      · intro r hr
        simp only [turnT, List.mem_map] at hr
        obtain ⟨i, _, rfl⟩ := hr
        simp [col]; omega
      · rintro r H' ⟨rfl, rfl⟩
        exact ⟨by rw [hb]; simp, rfl⟩
    · exact ⟨by rw [hb]; simp, rfl⟩
  · exact ⟨by rw [hb]; simp, rfl⟩

end Go.Proofs.Ytccioplhchmilaa.AL

set_option linter.unusedVariables false
set_option maxRecDepth 100000
namespace Go.Proofs.Ytccioplhchmilaa.AL
open Go Go.Proofs

/-! (*spec.l1Cur).next (slots: 0 c, 1 c, 3 b) -/
namespace spec_l1Cur_next
def lv : List (Nat × List Nat) := []
def start_vc (Q : AVal → Heap → Prop) (a0 : AVal) (H : Heap) : Prop :=
 TT ∧ NILK a0 fun x1 =>
 TT ∧ FADK 1 x1 fun x2 =>
 TT ∧ TT ∧ LDK false 1 H x2 fun x3 =>
 NILK a0 fun x4 =>
 TT ∧ FADK 0 x4 fun x5 =>
 TT ∧ TT ∧ LDK false 1 H x5 fun x6 =>
 LENK x6 fun x7 =>
 BINK .lss x3 x7 fun x8 =>
 BRK x8 (TT ∧ NILK a0 fun x9 =>
 TT ∧ FADK 0 x9 fun x10 =>
 TT ∧ TT ∧ LDK false 1 H x10 fun x11 =>
 NILK a0 fun x12 =>
 TT ∧ FADK 1 x12 fun x13 =>
 TT ∧ TT ∧ LDK false 1 H x13 fun x14 =>
 TT ∧ IXK 1 x11 x14 fun x15 =>
 TT ∧ TT ∧ LDK false 1 H x15 fun x16 =>
 ICVK .i64 x16 fun x17 =>
 (TT ∧ TT ∧ LDK false 1 H x13 fun x18 =>
 x18 = x14) ∧
 (TT ∧ TT ∧ LDK false 1 H x10 fun x19 =>
 x19 = x11) ∧
 NILK a0 fun x20 =>
 TT ∧ FADK 1 x20 fun x21 =>
 TT ∧ TT ∧ LDK false 1 H x21 fun x22 =>
 BINK .add x22 (AVal.int .i64 1) fun x23 =>
 NILK a0 fun x24 =>
 TT ∧ FADK 1 x24 fun x25 =>
 TT ∧ STK 1 H x25 x23 fun H26 =>
 NILK a0 fun x27 =>
 TT ∧ FADK 2 x27 fun x28 =>
 TT ∧ TT ∧ LDK false 1 H26 x28 fun x29 =>
 BINK .mul x29 (AVal.int .u64 6364136223846793005) fun x30 =>
 ICVK .u64 x17 fun x31 =>
 BINK .add x30 x31 fun x32 =>
 BINK .add x32 (AVal.int .u64 1442695040888963407) fun x33 =>
 NILK a0 fun x34 =>
 TT ∧ FADK 2 x34 fun x35 =>
 TT ∧ STK 1 H26 x35 x33 fun H36 =>
 TT ∧ NILK a0 fun x37 =>
 TT ∧ FADK 1 x37 fun x38 =>
 TT ∧ TT ∧ LDK false 1 H36 x38 fun x39 =>
 NILK a0 fun x40 =>
 TT ∧ FADK 0 x40 fun x41 =>
 TT ∧ TT ∧ LDK false 1 H36 x41 fun x42 =>
 LENK x42 fun x43 =>
 BINK .leq x39 x43 fun x44 =>
 BRK x44 (Q x17 H36) (NILK a0 fun x45 =>
 TT ∧ FADK 2 x45 fun x46 =>
 TT ∧ TT ∧ LDK false 1 H36 x46 fun x47 =>
 BINK .shr x47 (AVal.int .u64 40) fun x48 =>
 BINK .and x48 (AVal.int .u64 255) fun x49 =>
 ICVK .i64 x49 fun x50 =>
 Q x50 H36)) (NILK a0 fun x51 =>
 TT ∧ FADK 1 x51 fun x52 =>
 TT ∧ TT ∧ LDK false 1 H x52 fun x53 =>
 BINK .add x53 (AVal.int .i64 1) fun x54 =>
 NILK a0 fun x55 =>
 TT ∧ FADK 1 x55 fun x56 =>
 TT ∧ STK 1 H x56 x54 fun H57 =>
 NILK a0 fun x58 =>
 TT ∧ FADK 2 x58 fun x59 =>
 TT ∧ TT ∧ LDK false 1 H57 x59 fun x60 =>
 BINK .mul x60 (AVal.int .u64 6364136223846793005) fun x61 =>
 ICVK .u64 (AVal.int .i64 0) fun x62 =>
 BINK .add x61 x62 fun x63 =>
 BINK .add x63 (AVal.int .u64 1442695040888963407) fun x64 =>
 NILK a0 fun x65 =>
 TT ∧ FADK 2 x65 fun x66 =>
 TT ∧ STK 1 H57 x66 x64 fun H67 =>
 TT ∧ NILK a0 fun x68 =>
 TT ∧ FADK 1 x68 fun x69 =>
 TT ∧ TT ∧ LDK false 1 H67 x69 fun x70 =>
 NILK a0 fun x71 =>
 TT ∧ FADK 0 x71 fun x72 =>
 TT ∧ TT ∧ LDK false 1 H67 x72 fun x73 =>
 LENK x73 fun x74 =>
 BINK .leq x70 x74 fun x75 =>
 BRK x75 (Q (AVal.int .i64 0) H67) (NILK a0 fun x76 =>
 TT ∧ FADK 2 x76 fun x77 =>
 TT ∧ TT ∧ LDK false 1 H67 x77 fun x78 =>
 BINK .shr x78 (AVal.int .u64 40) fun x79 =>
 BINK .and x79 (AVal.int .u64 255) fun x80 =>
 ICVK .i64 x80 fun x81 =>
 Q x81 H67))
theorem start_eq (Q : AVal → Heap → Prop) (a0 : AVal) (H : Heap) : vs Try.prog lv 122 62 Try.f122.results.toList Q true 1000 [.sq (bodyOf Try.f122)] (entry [a0]) H = start_vc Q a0 H := by kernel_rfl
theorem start {Q : AVal → Heap → Prop} {a0 : AVal} {H : Heap} (h : start_vc Q a0 H) : ACalls Try.prog 122 [a0] H Q := acalls_vs (lv := lv) mixed Try.func122 rfl (by kernel_rfl) (by kernel_rfl) (start_eq Q a0 H ▸ h)
end spec_l1Cur_next

/-! (*spec.l1Cur).pick (slots: 0 c, 1 n, 2 c, 3 n, 5 x) -/
namespace spec_l1Cur_pick
def lv : List (Nat × List Nat) := []
def start_vc (Q : AVal → Heap → Prop) (a0 a1 : AVal) (H : Heap) : Prop :=
 BINK .leq a1 (AVal.int .i64 1) fun x1 =>
 BRK x1 (Q (AVal.int .i64 0) H) (ACalls Try.prog 122 [a0] H fun x2 H3 =>
 BINK .gtr a1 (AVal.int .i64 200) fun x4 =>
 BRK x4 (BINK .mul x2 (AVal.int .i64 256) fun x5 =>
 ACalls Try.prog 122 [a0] H3 fun x6 H7 =>
 BINK .add x5 x6 fun x8 =>
 BINK .rem x8 a1 fun x9 =>
 Q x9 H7) (BINK .rem x2 a1 fun x10 =>
 Q x10 H3))
theorem start_eq (Q : AVal → Heap → Prop) (a0 a1 : AVal) (H : Heap) : vs Try.prog lv 68 20 Try.f68.results.toList Q true 1000 [.sq (bodyOf Try.f68)] (entry [a0, a1]) H = start_vc Q a0 a1 H := by kernel_rfl
theorem start {Q : AVal → Heap → Prop} {a0 a1 : AVal} {H : Heap} (h : start_vc Q a0 a1 H) : ACalls Try.prog 68 [a0, a1] H Q := acalls_vs (lv := lv) mixed Try.func68 rfl (by kernel_rfl) (by kernel_rfl) (start_eq Q a0 a1 H ▸ h)
end spec_l1Cur_pick

/-! (*spec.l1Cur).one (slots: 0 c, 1 n, 2 c, 3 n) -/
namespace spec_l1Cur_one
def lv : List (Nat × List Nat) := []
def start_vc (Q : AVal → Heap → Prop) (a0 a1 : AVal) (H : Heap) : Prop :=
 ACalls Try.prog 68 [a0, a1] H fun x1 H2 =>
 BINK .eql x1 (AVal.int .i64 0) fun x3 =>
 Q x3 H2
theorem start_eq (Q : AVal → Heap → Prop) (a0 a1 : AVal) (H : Heap) : vs Try.prog lv 70 9 Try.f70.results.toList Q true 1000 [.sq (bodyOf Try.f70)] (entry [a0, a1]) H = start_vc Q a0 a1 H := by kernel_rfl
theorem start {Q : AVal → Heap → Prop} {a0 a1 : AVal} {H : Heap} (h : start_vc Q a0 a1 H) : ACalls Try.prog 70 [a0, a1] H Q := acalls_vs (lv := lv) mixed Try.func70 rfl (by kernel_rfl) (by kernel_rfl) (start_eq Q a0 a1 H ▸ h)
end spec_l1Cur_one

/-! (*spec.l1Cur).among (slots: 0 c, 1 list, 2 c, 3 list) -/
namespace spec_l1Cur_among
def lv : List (Nat × List Nat) := []
def start_vc (Q : AVal → Heap → Prop) (a0 a1 : AVal) (H : Heap) : Prop :=
 LENK a1 fun x1 =>
 ACalls Try.prog 68 [a0, x1] H fun x2 H3 =>
 TT ∧ IXK 1 a1 x2 fun x4 =>
 TT ∧ TT ∧ LDK false 1 H3 x4 fun x5 =>
 Q x5 H3
theorem start_eq (Q : AVal → Heap → Prop) (a0 a1 : AVal) (H : Heap) : vs Try.prog lv 50 12 Try.f50.results.toList Q true 1000 [.sq (bodyOf Try.f50)] (entry [a0, a1]) H = start_vc Q a0 a1 H := by kernel_rfl
theorem start {Q : AVal → Heap → Prop} {a0 a1 : AVal} {H : Heap} (h : start_vc Q a0 a1 H) : ACalls Try.prog 50 [a0, a1] H Q := acalls_vs (lv := lv) mixed Try.func50 rfl (by kernel_rfl) (by kernel_rfl) (start_eq Q a0 a1 H ▸ h)
end spec_l1Cur_among


def IsB (v : AVal) (b : Int) : Prop := v = .int .u8 b ∧ 0 ≤ b ∧ b ≤ 255
/-- A cursor that has gone at most so far. -/
def Cur (A : Int) (H : Heap) (i g : Nat) : Prop := ∃ cv code at' s, hget H i = some (g, [cv, I at', .int .u64 s]) ∧ IsSl IsB cv code ∧ code.length ≤ 1099511627776 ∧ 0 ≤ at' ∧ at' ≤ A

theorem next_ok {A : Int} {H : Heap} {i g : Nat} (h : Cur A H i g) (hA : A ≤ 1099511627776) : ACalls Try.prog 122 [.ptr i g 0] H fun r H' => ∃ x cs, r = I x ∧ 0 ≤ x ∧ x ≤ 255 ∧ H' = hset H i g cs ∧ Cur (A + 1) H' i g := by
  obtain ⟨cv, code, at', s, hh, hcv, hcl, h0, h1⟩ := h
  have hi := hlt_of_get hh
  have fin : ∀ (x s' : Int), 0 ≤ x → x ≤ 255 → ∃ x' cs, I x = I x' ∧ 0 ≤ x' ∧ x' ≤ 255 ∧ hset (hset H i g [cv, I (at' + 1), .int .u64 s]) i g [cv, I (at' + 1), .int .u64 s'] = hset H i g cs ∧ Cur (A + 1) (hset (hset H i g [cv, I (at' + 1), .int .u64 s]) i g [cv, I (at' + 1), .int .u64 s']) i g := by
    intro x s' hx0 hx1
    rw [hset_set]
    exact ⟨x, _, rfl, hx0, hx1, rfl, cv, code, at' + 1, s', hget_set _ _ hi, hcv, hcl, by omega, by omega⟩
  have hh1 : hget (hset H i g [cv, I (at' + 1), .int .u64 s]) i = some (g, [cv, I (at' + 1), .int .u64 s]) := hget_set _ _ hi
  have hi1 : i < (hset H i g [cv, I (at' + 1), .int .u64 s]).length := by rw [hlen_set]; exact hi
  have hh2 : ∀ s', hget (hset (hset H i g [cv, I (at' + 1), .int .u64 s]) i g [cv, I (at' + 1), .int .u64 s']) i = some (g, [cv, I (at' + 1), .int .u64 s']) := fun s' => hget_set _ _ hi1
  apply spec_l1Cur_next.start
  unfold spec_l1Cur_next.start_vc
  repeat' (first | with_reducible refine rTT ?_ | with_reducible refine rNILp ?_ | with_reducible refine rFADp ?_ | refine rLDf hh rfl ?_ | with_reducible refine rLEN hcv ?_ | with_reducible refine rLSS ?_ | with_reducible refine rADD (by omega) ?_ | (with_reducible refine rBRK ?_ ?_ <;> intro hb))
  · refine rIX hcv h0 hb fun p b hb' hp => ?_
    repeat' (first | with_reducible refine rTT ?_)
    refine rLD hp ?_
    rintro c ⟨rfl, hb0, hb1⟩
    refine rICVi (by omega) ?_
    refine ⟨⟨rfl, rfl, rLDf hh rfl rfl⟩, ⟨rfl, rfl, rLDf hh rfl rfl⟩, ?_⟩
    repeat' (first | with_reducible refine rTT ?_ | with_reducible refine rNILp ?_ | with_reducible refine rFADp ?_ | refine rLDf hh rfl ?_ | with_reducible refine rADD (by omega) ?_)
    refine rSTp hh (by simp) rfl ?_
    show NILK _ _
    repeat' (first | with_reducible refine rTT ?_ | with_reducible refine rNILp ?_ | with_reducible refine rFADp ?_ | refine rLDf hh1 rfl ?_)
    refine ⟨rfl, rfl, rfl, rfl, ?_⟩
    repeat' (first | with_reducible refine rTT ?_ | with_reducible refine rNILp ?_ | with_reducible refine rFADp ?_)
    refine rSTp hh1 (by simp) rfl ?_
    show TT ∧ _
    repeat' (first | with_reducible refine rTT ?_ | with_reducible refine rNILp ?_ | with_reducible refine rFADp ?_ | refine rLDf (hh2 _) rfl ?_ | with_reducible refine rLEN hcv ?_ | with_reducible refine rLEQ ?_ | (with_reducible refine rBRK ?_ ?_ <;> intro hb))
    · exact fin _ _ hb0 hb1
    · refine ⟨by decide, ?_⟩
      refine ⟨rfl, ?_⟩
      simp only [ariK]
      exact rICVi ⟨Int.le_trans (by decide) (and255 _).1, Int.le_trans (and255 _).2 (by decide)⟩ (fin _ _ (and255 _).1 (and255 _).2)
  · refine rSTp hh (by simp) rfl ?_
    show NILK _ _
    repeat' (first | with_reducible refine rTT ?_ | with_reducible refine rNILp ?_ | with_reducible refine rFADp ?_ | refine rLDf hh1 rfl ?_)
    refine ⟨rfl, rfl, rfl, rfl, ?_⟩
    repeat' (first | with_reducible refine rTT ?_ | with_reducible refine rNILp ?_ | with_reducible refine rFADp ?_)
    refine rSTp hh1 (by simp) rfl ?_
    show TT ∧ _
    repeat' (first | with_reducible refine rTT ?_ | with_reducible refine rNILp ?_ | with_reducible refine rFADp ?_ | refine rLDf (hh2 _) rfl ?_ | with_reducible refine rLEN hcv ?_ | with_reducible refine rLEQ ?_ | (with_reducible refine rBRK ?_ ?_ <;> intro hb))
    · exact fin 0 _ (by omega) (by omega)
    · refine ⟨by decide, ?_⟩
      refine ⟨rfl, ?_⟩
      simp only [ariK]
      exact rICVi ⟨Int.le_trans (by decide) (and255 _).1, Int.le_trans (and255 _).2 (by decide)⟩ (fin _ _ (and255 _).1 (and255 _).2)

theorem Cur.le {A B : Int} {H : Heap} {i g : Nat} (h : Cur A H i g) (hab : A ≤ B) : Cur B H i g := by
  obtain ⟨cv, code, a, s, h1, h2, h3, h4, h5⟩ := h
  exact ⟨cv, code, a, s, h1, h2, h3, h4, by omega⟩
theorem Cur.self {A : Int} {H : Heap} {i g : Nat} (h : Cur A H i g) : ∃ cs, H = hset H i g cs := by
  obtain ⟨cv, code, a, s, h1, _⟩ := h
  exact ⟨_, (hset_self h1).symm⟩
/-- What a draw leaves: a number below n (0 if there is none), and the cursor gone on. -/
def Drawn (A : Int) (i g : Nat) (H : Heap) (n : Int) (r : AVal) (H' : Heap) : Prop := ∃ x cs, r = I x ∧ 0 ≤ x ∧ (x < n ∨ x = 0) ∧ H' = hset H i g cs ∧ Cur A H' i g
theorem pick_ok {A : Int} {H : Heap} {i g : Nat} {n : Int} (h : Cur A H i g) (hA : A ≤ 1000000000000) (hn : n ≤ 1000000) : ACalls Try.prog 68 [.ptr i g 0, I n] H (Drawn (A + 2) i g H n) := by
  apply spec_l1Cur_pick.start
  unfold spec_l1Cur_pick.start_vc
  repeat' (with_reducible first
 | refine rTT ?_
 | refine rRFL ?_
 | refine rLEN (by assumption) ?_
 | (refine rIXk (by assumption) (by assumption) ?_; intro p hp)
 | (refine rIX (by assumption) (by omega) (by omega) ?_; intro p a ha hp)
 | refine rLDi (by assumption) ?_
 | (refine rLD (by assumption) ?_; intro c hc)
 | refine rADD (by omega) ?_
 | refine rSUB (by omega) ?_
 | refine rLSS ?_
 | refine rLEQ ?_
 | refine rGTR ?_
 | refine rGEQ ?_
 | refine rEQL ?_
 | refine rNEQ ?_
 | refine rNOT ?_
 | (refine rBRK ?_ ?_ <;> intro hb)
 | (refine rBRKn ?_ ?_ <;> intro hb)
 | (refine rBRKnb ?_ ?_ <;> intro hb)
 | (refine rBRKb ?_ ?_ <;> intro hb)
 | (refine rSPL ?_ ?_ <;> intro hb)
 | (refine rSPLn ?_ ?_ <;> intro hb)
 | (refine rSPLnb ?_ ?_ <;> intro hb)
 | (refine rSPLb ?_ ?_ <;> intro hb)
 | (exfalso; omega))
  · obtain ⟨cs, hcs⟩ := h.self
    exact ⟨0, cs, rfl, by omega, .inr rfl, hcs, h.le (by omega)⟩
  · refine ACalls.mono (next_ok h (by omega)) ?_
    rintro r H1 ⟨x, cs, rfl, hx0, hx1, rfl, hc1⟩
    repeat' (with_reducible first
 | refine rTT ?_
 | refine rRFL ?_
 | refine rLEN (by assumption) ?_
 | (refine rIXk (by assumption) (by assumption) ?_; intro p hp)
 | (refine rIX (by assumption) (by omega) (by omega) ?_; intro p a ha hp)
 | refine rLDi (by assumption) ?_
 | (refine rLD (by assumption) ?_; intro c hc)
 | refine rADD (by omega) ?_
 | refine rSUB (by omega) ?_
 | refine rLSS ?_
 | refine rLEQ ?_
 | refine rGTR ?_
 | refine rGEQ ?_
 | refine rEQL ?_
 | refine rNEQ ?_
 | refine rNOT ?_
 | (refine rBRK ?_ ?_ <;> intro hb)
 | (refine rBRKn ?_ ?_ <;> intro hb)
 | (refine rBRKnb ?_ ?_ <;> intro hb)
 | (refine rBRKb ?_ ?_ <;> intro hb)
 | (refine rSPL ?_ ?_ <;> intro hb)
 | (refine rSPLn ?_ ?_ <;> intro hb)
 | (refine rSPLnb ?_ ?_ <;> intro hb)
 | (refine rSPLb ?_ ?_ <;> intro hb)
 | (exfalso; omega))
    · refine rMUL (by omega) ?_
      refine ACalls.mono (next_ok hc1 (by omega)) ?_
      rintro r H2 ⟨y, ds, rfl, hy0, hy1, rfl, hc2⟩
      repeat' (with_reducible first
 | refine rTT ?_
 | refine rRFL ?_
 | refine rLEN (by assumption) ?_
 | (refine rIXk (by assumption) (by assumption) ?_; intro p hp)
 | (refine rIX (by assumption) (by omega) (by omega) ?_; intro p a ha hp)
 | refine rLDi (by assumption) ?_
 | (refine rLD (by assumption) ?_; intro c hc)
 | refine rADD (by omega) ?_
 | refine rSUB (by omega) ?_
 | refine rLSS ?_
 | refine rLEQ ?_
 | refine rGTR ?_
 | refine rGEQ ?_
 | refine rEQL ?_
 | refine rNEQ ?_
 | refine rNOT ?_
 | (refine rBRK ?_ ?_ <;> intro hb)
 | (refine rBRKn ?_ ?_ <;> intro hb)
 | (refine rBRKnb ?_ ?_ <;> intro hb)
 | (refine rBRKb ?_ ?_ <;> intro hb)
 | (refine rSPL ?_ ?_ <;> intro hb)
 | (refine rSPLn ?_ ?_ <;> intro hb)
 | (refine rSPLnb ?_ ?_ <;> intro hb)
 | (refine rSPLb ?_ ?_ <;> intro hb)
 | (exfalso; omega))
      refine rREM (by omega) ?_
      refine ⟨_, ds, rfl, Int.tmod_nonneg _ (by omega), .inl ?_, by rw [hset_set], ?_⟩
      · have := Int.tmod_lt_of_pos (x * 256 + y) (show 0 < n by omega); exact this
      · have := hc2.le (show A + 1 + 1 ≤ A + 2 by omega); exact this
    · refine rREM (by omega) ?_
      exact ⟨_, cs, rfl, Int.tmod_nonneg _ (by omega), .inl (Int.tmod_lt_of_pos x (show 0 < n by omega)), rfl, hc1.le (by omega)⟩
theorem one_ok {A : Int} {H : Heap} {i g : Nat} {n : Int} (h : Cur A H i g) (hA : A ≤ 1000000000000) (hn : n ≤ 1000000) : ACalls Try.prog 70 [.ptr i g 0, I n] H fun r H' => ∃ b cs, r = .bool b ∧ H' = hset H i g cs ∧ Cur (A + 2) H' i g := by
  apply spec_l1Cur_one.start
  unfold spec_l1Cur_one.start_vc
  refine ACalls.mono (pick_ok h hA hn) ?_
  rintro r H1 ⟨x, cs, rfl, hx0, hx1, rfl, hc1⟩
  repeat' (with_reducible first
 | refine rTT ?_
 | refine rRFL ?_
 | refine rLEN (by assumption) ?_
 | (refine rIXk (by assumption) (by assumption) ?_; intro p hp)
 | (refine rIX (by assumption) (by omega) (by omega) ?_; intro p a ha hp)
 | refine rLDi (by assumption) ?_
 | (refine rLD (by assumption) ?_; intro c hc)
 | refine rADD (by omega) ?_
 | refine rSUB (by omega) ?_
 | refine rLSS ?_
 | refine rLEQ ?_
 | refine rGTR ?_
 | refine rGEQ ?_
 | refine rEQL ?_
 | refine rNEQ ?_
 | refine rNOT ?_
 | (refine rBRK ?_ ?_ <;> intro hb)
 | (refine rBRKn ?_ ?_ <;> intro hb)
 | (refine rBRKnb ?_ ?_ <;> intro hb)
 | (refine rBRKb ?_ ?_ <;> intro hb)
 | (refine rSPL ?_ ?_ <;> intro hb)
 | (refine rSPLn ?_ ?_ <;> intro hb)
 | (refine rSPLnb ?_ ?_ <;> intro hb)
 | (refine rSPLb ?_ ?_ <;> intro hb)
 | (exfalso; omega))
  exact ⟨_, cs, rfl, rfl, hc1⟩
theorem among_ok {A : Int} {H : Heap} {i g : Nat} {l : List Int} {v : AVal} (h : Cur A H i g) (hA : A ≤ 1000000000000) (hv : IsInts v l) (h0 : 0 < l.length) (hl : l.length ≤ 1000000) : ACalls Try.prog 50 [.ptr i g 0, v] H fun r H' => ∃ x cs, r = I x ∧ x ∈ l ∧ H' = hset H i g cs ∧ Cur (A + 2) H' i g := by
  apply spec_l1Cur_among.start
  unfold spec_l1Cur_among.start_vc
  repeat' (with_reducible first
 | refine rTT ?_
 | refine rRFL ?_
 | refine rLEN (by assumption) ?_
 | (refine rIXk (by assumption) (by assumption) ?_; intro p hp)
 | (refine rIX (by assumption) (by omega) (by omega) ?_; intro p a ha hp)
 | refine rLDi (by assumption) ?_
 | (refine rLD (by assumption) ?_; intro c hc)
 | refine rADD (by omega) ?_
 | refine rSUB (by omega) ?_
 | refine rLSS ?_
 | refine rLEQ ?_
 | refine rGTR ?_
 | refine rGEQ ?_
 | refine rEQL ?_
 | refine rNEQ ?_
 | refine rNOT ?_
 | (refine rBRK ?_ ?_ <;> intro hb)
 | (refine rBRKn ?_ ?_ <;> intro hb)
 | (refine rBRKnb ?_ ?_ <;> intro hb)
 | (refine rBRKb ?_ ?_ <;> intro hb)
 | (refine rSPL ?_ ?_ <;> intro hb)
 | (refine rSPLn ?_ ?_ <;> intro hb)
 | (refine rSPLnb ?_ ?_ <;> intro hb)
 | (refine rSPLb ?_ ?_ <;> intro hb)
 | (exfalso; omega))
  refine ACalls.mono (pick_ok h hA (by omega)) ?_
  rintro r H1 ⟨x, cs, rfl, hx0, hx1, rfl, hc1⟩
  repeat' (with_reducible first
 | refine rTT ?_
 | refine rRFL ?_
 | refine rLEN (by assumption) ?_
 | (refine rIXk (by assumption) (by assumption) ?_; intro p hp)
 | (refine rIX (by assumption) (by omega) (by omega) ?_; intro p a ha hp)
 | refine rLDi (by assumption) ?_
 | (refine rLD (by assumption) ?_; intro c hc)
 | refine rADD (by omega) ?_
 | refine rSUB (by omega) ?_
 | refine rLSS ?_
 | refine rLEQ ?_
 | refine rGTR ?_
 | refine rGEQ ?_
 | refine rEQL ?_
 | refine rNEQ ?_
 | refine rNOT ?_
 | (refine rBRK ?_ ?_ <;> intro hb)
 | (refine rBRKn ?_ ?_ <;> intro hb)
 | (refine rBRKnb ?_ ?_ <;> intro hb)
 | (refine rBRKb ?_ ?_ <;> intro hb)
 | (refine rSPL ?_ ?_ <;> intro hb)
 | (refine rSPLn ?_ ?_ <;> intro hb)
 | (refine rSPLnb ?_ ?_ <;> intro hb)
 | (refine rSPLb ?_ ?_ <;> intro hb)
 | (exfalso; omega))
  exact ⟨a, cs, rfl, List.mem_of_getElem? ha, rfl, hc1⟩

end Go.Proofs.Ytccioplhchmilaa.AL

set_option linter.unusedVariables false
set_option maxRecDepth 100000
namespace Go.Proofs.Ytccioplhchmilaa.AL
open Go Go.Proofs

/-- New blocks only, and they say nothing of frozen ones. -/
structure Fresh (H H1 : Heap) : Prop where
  len : H.length ≤ H1.length
  old : ∀ i, i < H.length → hget H1 i = hget H i
  new : ∀ i g cs, H.length ≤ i → hget H1 i = some (g, cs) → IFrees cs = true
theorem Fresh.refl (H : Heap) : Fresh H H := ⟨Nat.le_refl _, fun _ _ => rfl, fun i g cs hi h => by have := hlt_of_get h; omega⟩
theorem Fresh.sub {H H1 : Heap} (h : Fresh H H1) : HSub H H1 := fun i g cs hi => by rw [h.old i (hlt_of_get hi)]; exact hi
theorem Fresh.trans {H H1 H2 : Heap} (h : Fresh H H1) (k : Fresh H1 H2) : Fresh H H2 :=
  ⟨Nat.le_trans h.len k.len, fun i hi => (k.old i (Nat.lt_of_lt_of_le hi h.len)).trans (h.old i hi), fun i g cs hi hg => by
    by_cases hl : i < H1.length
    · rw [k.old i hl] at hg; exact h.new i g cs hi hg
    · exact k.new i g cs (by omega) hg⟩
theorem fresh_new (H : Heap) (g : Nat) {cs : List AVal} (hc : IFrees cs = true) : Fresh H (hnew H g cs) :=
  ⟨by rw [hlen_new]; omega, fun i hi => hget_old g cs hi, fun i g' ds hi hg => by
    rw [hget_hnew, if_neg (by omega)] at hg
    split at hg
    · cases hg; exact hc
    · cases hg⟩
theorem Fresh.set {H H1 : Heap} (h : Fresh H H1) {i : Nat} (hi : H.length ≤ i) (g : Nat) {cs : List AVal} (hc : IFrees cs = true) : Fresh H (hset H1 i g cs) := by
  refine ⟨by rw [hlen_set]; exact h.len, fun j hj => by rw [hget_set_ne g cs (by omega)]; exact h.old j hj, fun j g' ds hj hg => ?_⟩
  by_cases hij : i = j
  · subst hij
    have := hlt_of_get hg
    rw [hlen_set] at this
    rw [hget_set g cs this] at hg
    cases hg; exact hc
  · rw [hget_set_ne g cs hij] at hg; exact h.new j g' ds hj hg
theorem ifrees_map (l : List Int) : IFrees (l.map I) = true := by
  induction l with
  | nil => rfl
  | cons a l ih => simp only [List.map_cons, IFrees, IFree, ih, Bool.and_self]
theorem ifrees_iff {cs : List AVal} : IFrees cs = true ↔ ∀ c ∈ cs, IFree c = true := by
  induction cs with
  | nil => simp [IFrees]
  | cons c cs ih => simp [IFrees, ih]

/-- A table whose blocks stand at 'lo' or above. -/
structure OTab (lo : Nat) (H : Heap) (k g : Nat) (rows : List AVal) (ks : List Nat) (t : List (List Int)) : Prop where
  top : hget H k = some (g, rows)
  lok : lo ≤ k
  len : rows.length = t.length
  kln : ks.length = t.length
  nd : (k :: ks).Nodup
  row : ∀ (j : Nat) (r : List Int) (kj : Nat), t[j]? = some r → ks[j]? = some kj → ∃ gj, rows[j]? = some (.own kj gj 1 0 r.length) ∧ hget H kj = some (gj, r.map I) ∧ lo ≤ kj
def IsOTab (lo : Nat) (H : Heap) (v : AVal) (t : List (List Int)) : Prop := (v = .nilS ∧ t = []) ∨ ∃ k g rows ks, v = .own k g 1 0 t.length ∧ OTab lo H k g rows ks t

theorem OTab.frame {lo : Nat} {H H' : Heap} {k g : Nat} {rows : List AVal} {ks : List Nat} {t : List (List Int)} (h : OTab lo H k g rows ks t) (hh : ∀ i, lo ≤ i → i < H.length → hget H' i = hget H i) : OTab lo H' k g rows ks t :=
  ⟨by rw [hh k h.lok (hlt_of_get h.top)]; exact h.top, h.lok, h.len, h.kln, h.nd, fun j r kj h1 h2 => by
    obtain ⟨gj, h3, h4, h5⟩ := h.row j r kj h1 h2
    exact ⟨gj, h3, by rw [hh kj h5 (hlt_of_get h4)]; exact h4, h5⟩⟩
theorem IsOTab.frame {lo : Nat} {H H' : Heap} {v : AVal} {t : List (List Int)} (h : IsOTab lo H v t) (hh : ∀ i, lo ≤ i → i < H.length → hget H' i = hget H i) : IsOTab lo H' v t := by
  rcases h with h | ⟨k, g, rows, ks, hv, h⟩
  · exact .inl h
  · exact .inr ⟨k, g, rows, ks, hv, h.frame hh⟩
theorem OTab.get {lo : Nat} {H : Heap} {k g : Nat} {rows : List AVal} {ks : List Nat} {t : List (List Int)} (h : OTab lo H k g rows ks t) {j : Nat} {r : List Int} (hj : t[j]? = some r) :
    ∃ kj gj, ks[j]? = some kj ∧ rows[j]? = some (.own kj gj 1 0 r.length) ∧ hget H kj = some (gj, r.map I) ∧ lo ≤ kj ∧ kj ≠ k := by
  have hjl := (List.getElem?_eq_some_iff.1 hj).1
  have hk : ks[j]? = some (ks[j]'(by rw [h.kln]; exact hjl)) := List.getElem?_eq_getElem _
  obtain ⟨gj, h1, h2, h3⟩ := h.row j r _ hj hk
  refine ⟨_, gj, hk, h1, h2, h3, fun e => ?_⟩
  exact (List.nodup_cons.1 h.nd).1 (e ▸ List.mem_of_getElem? hk)
/-- Writing into a row. -/
theorem OTab.put {lo : Nat} {H : Heap} {k g : Nat} {rows : List AVal} {ks : List Nat} {t : List (List Int)} (h : OTab lo H k g rows ks t) {j : Nat} {r : List Int} (hj : t[j]? = some r) {kj gj : Nat} (hkj : ks[j]? = some kj) (hg : hget H kj = some (gj, r.map I)) {r' : List Int} (hl : r'.length = r.length) :
    OTab lo (hset H kj gj (r'.map I)) k g rows ks (t.set j r') := by
  have hne : kj ≠ k := fun e => (List.nodup_cons.1 h.nd).1 (e ▸ List.mem_of_getElem? hkj)
  have hjl := (List.getElem?_eq_some_iff.1 hj).1
  refine ⟨by rw [hget_set_ne _ _ hne]; exact h.top, h.lok, by rw [List.length_set]; exact h.len, by rw [List.length_set]; exact h.kln, h.nd, fun i s ki h1 h2 => ?_⟩
  by_cases hij : j = i
  · subst hij
    rw [List.getElem?_set_self hjl] at h1
    cases h1
    rw [hkj] at h2; cases h2
    obtain ⟨gj', h3, h4, h5⟩ := h.row j r kj hj hkj
    rw [hg] at h4; cases h4
    exact ⟨gj, by rw [hl]; exact h3, hget_set _ _ (hlt_of_get hg), h5⟩
  · rw [List.getElem?_set_ne hij] at h1
    obtain ⟨gi, h3, h4, h5⟩ := h.row i s ki h1 h2
    refine ⟨gi, h3, ?_, h5⟩
    rw [hget_set_ne _ _ ?_]; exact h4
    intro e
    subst e
    have hnd := (List.nodup_cons.1 h.nd).2
    exact hij ((List.getElem?_inj (List.getElem?_eq_some_iff.1 hkj).1 hnd).1 (hkj.trans h2.symm))

theorem pur_ints {H : Heap} {k g : Nat} {r : List Int} (h : hget H k = some (g, r.map I)) (n : Nat) : Pur H (n + 1) (.own k g 1 0 r.length) (.sl false r.length (r.map I)) := by
  refine .inr ⟨r.map I, r.map I, h, by simp, rfl, ?_⟩
  rw [List.drop_zero, List.take_of_length_le (by simp)]
  exact All2.refl (fun v => Pur.refl _ _ v) _
/-- The table, frozen. -/
theorem OTab.pur {lo : Nat} {H Hf : Heap} {k g : Nat} {rows : List AVal} {ks : List Nat} {t : List (List Int)} (h : OTab lo H k g rows ks t) (hf : ∀ i, lo ≤ i → hget Hf i = hget H i) :
    Pur Hf 2 (.own k g 1 0 t.length) (.sl false t.length (t.map fun r => .sl false r.length (r.map I))) := by
  refine .inr ⟨rows, t.map fun r => .sl false r.length (r.map I), by rw [hf k h.lok]; exact h.top, by rw [h.len]; omega, rfl, ?_⟩
  rw [List.drop_zero, List.take_of_length_le (by rw [h.len]; omega)]
  have key : ∀ (rows : List AVal) (t : List (List Int)), rows.length = t.length → (∀ (j : Nat) (c : AVal) (r : List Int), rows[j]? = some c → t[j]? = some r → Pur Hf 1 c (.sl false r.length (r.map I))) → All2 (Pur Hf 1) rows (t.map fun r => .sl false r.length (r.map I)) := by
    intro rows
    induction rows with
    | nil => intro t hl _; have : t = [] := List.eq_nil_of_length_eq_zero (by simpa using hl.symm); subst this; rfl
    | cons c rows ih =>
      intro t hl hp
      cases t with
      | nil => cases hl
      | cons r t => exact ⟨_, _, rfl, hp 0 c r rfl rfl, ih t (by simpa using hl) fun j c' r' h1 h2 => hp (j + 1) c' r' h1 h2⟩
  refine key rows t h.len fun j c r h1 h2 => ?_
  obtain ⟨kj, gj, h3, h4, h5, h6, _⟩ := h.get h2
  rw [h1] at h4; cases h4
  exact pur_ints (by rw [hf kj h6]; exact h5) 0
theorem isTab_pure (t : List (List Int)) : IsTab (.sl false t.length (t.map fun r => .sl false r.length (r.map I))) t :=
  isSl_mk rfl (by simp) fun i c a hc ha => by
    rw [List.getElem?_map, ha] at hc
    cases hc
    exact isInts_map false a
theorem IsOTab.pur {lo : Nat} {H Hf : Heap} {v : AVal} {t : List (List Int)} (h : IsOTab lo H v t) (hf : ∀ i, lo ≤ i → hget Hf i = hget H i) : ∃ v', Pur Hf 2 v v' ∧ IsTab v' t := by
  rcases h with ⟨rfl, rfl⟩ | ⟨k, g, rows, ks, rfl, h⟩
  · exact ⟨.nilS, Pur.refl _ _ _, .inl ⟨rfl, rfl⟩⟩
  · exact ⟨_, h.pur hf, isTab_pure t⟩
theorem IsOTab.len {lo : Nat} {H : Heap} {v : AVal} {t : List (List Int)} (h : IsOTab lo H v t) {K : AVal → Prop} (k : K (I t.length)) : LENK v K := by
  rcases h with ⟨rfl, rfl⟩ | ⟨k', g, rows, ks, rfl, h⟩ <;> exact k
theorem nw_above (H H1 : Heap) {i : Nat} (hi : H.length ≤ i) : hget (nw H H1) i = hget H1 i := by
  rw [hget_nw]
  cases hb : Nat.blt i H.length with
  | false => rfl
  | true => have := blt_f hb; omega

theorem OTab.lt {lo : Nat} {H : Heap} {k g : Nat} {rows : List AVal} {ks : List Nat} {t : List (List Int)} (h : OTab lo H k g rows ks t) : ∀ i ∈ k :: ks, i < H.length := by
  intro i hi
  rcases List.mem_cons.1 hi with rfl | hi
  · exact hlt_of_get h.top
  · obtain ⟨j, hj, rfl⟩ := List.getElem_of_mem hi
    obtain ⟨gj, _, h2, _⟩ := h.row j _ _ (List.getElem?_eq_getElem (show j < t.length by rw [← h.kln]; exact hj)) (List.getElem?_eq_getElem hj)
    exact hlt_of_get h2
/-- A table, and a block that is none of its own. -/
def IsOTabN (lo : Nat) (H : Heap) (v : AVal) (t : List (List Int)) (kr : Nat) : Prop := (v = .nilS ∧ t = []) ∨ ∃ k g rows ks, v = .own k g 1 0 t.length ∧ OTab lo H k g rows ks t ∧ kr ∉ k :: ks
theorem IsOTab.new {lo : Nat} {H : Heap} {v : AVal} {t : List (List Int)} (h : IsOTab lo H v t) (g : Nat) (cs : List AVal) : IsOTabN lo (hnew H g cs) v t H.length := by
  rcases h with h | ⟨k, g', rows, ks, hv, h⟩
  · exact .inl h
  · exact .inr ⟨k, g', rows, ks, hv, h.frame fun i _ hi => hget_old g cs hi, fun hm => Nat.lt_irrefl _ (h.lt _ hm)⟩
/-- One block is new, or one from 'lo' on is written. -/
def Chg (lo : Nat) (H H' : Heap) : Prop := ∃ g cs, IFrees cs = true ∧ (H' = hnew H g cs ∨ ∃ j, lo ≤ j ∧ H' = hset H j g cs)
theorem Fresh.chg {H0 H H' : Heap} {lo : Nat} (hF : Fresh H0 H) (hlo : H0.length ≤ lo) (h : Chg lo H H') : Fresh H0 H' := by
  obtain ⟨g, cs, hc, rfl | ⟨j, hj, rfl⟩⟩ := h
  · exact hF.trans (fresh_new H g hc)
  · exact hF.set (Nat.le_trans hlo hj) g hc
/-- One more row. -/
theorem IsOTabN.snoc {lo : Nat} {H : Heap} {v : AVal} {t : List (List Int)} {kr gr : Nat} (h : IsOTabN lo H v t kr) {r : List Int} (hr : hget H kr = some (gr, r.map I)) (hlo : lo ≤ kr) (hlen : t.length < 1000000000) (hloH : lo ≤ H.length)
    {b : Bool} {K : AVal → Heap → Prop} (k : ∀ v' H', IsOTab lo H' v' (t ++ [r]) → Chg lo H H' → K v' H') : APK 1 H v (.sl b 1 [.own kr gr 1 0 r.length]) K := by
  unfold APK elemsOf
  refine ⟨rfl, ?_⟩
  rcases h with ⟨rfl, rfl⟩ | ⟨k', g, rows, ks, rfl, h, hn⟩
  · refine ⟨by omega, (fun h => by cases h), fun _ g => k _ _ (.inr ⟨H.length, g, [.own kr gr 1 0 r.length], [kr], rfl, ?_⟩) ⟨g, _, rfl, .inl rfl⟩⟩
    have hkr := hlt_of_get hr
    refine ⟨hget_new _ _ _, hloH, rfl, rfl, by simp; omega, fun j s kj h1 h2 => ?_⟩
    cases j with
    | zero => cases h1; cases h2; exact ⟨gr, rfl, by rw [hget_old _ _ hkr]; exact hr, hlo⟩
    | succ j => simp at h1
  · have hk' := hlt_of_get h.top
    have hnd := List.nodup_cons.1 h.nd
    refine ⟨rfl, rfl, by omega, rows, h.top, by rw [h.len]; omega, fun g' => ?_⟩
    have htk : rows.take (t.length * 1) = rows := List.take_of_length_le (by rw [h.len]; omega)
    rw [htk]
    have hrf : IFrees rows = true := by
      rw [ifrees_iff]
      intro c hc
      obtain ⟨j, hj, rfl⟩ := List.getElem_of_mem hc
      obtain ⟨kj, gj, _, h4, _⟩ := h.get (List.getElem?_eq_getElem (show j < t.length by rw [← h.len]; exact hj))
      rw [List.getElem?_eq_getElem hj] at h4
      rw [Option.some.inj h4]; rfl
    refine k _ _ (.inr ⟨k', g', rows ++ [.own kr gr 1 0 r.length], ks ++ [kr], by simp, ?_⟩) ⟨g', _, ?_, .inr ⟨k', h.lok, rfl⟩⟩
    · refine ⟨hget_set _ _ hk', h.lok, by simp [h.len], by simp [h.kln], ?_, fun j s kj h1 h2 => ?_⟩
      · rw [List.nodup_cons]
        simp only [List.mem_cons, not_or] at hn
        refine ⟨?_, ?_⟩
        · simp only [List.mem_append, List.mem_singleton, not_or]; exact ⟨hnd.1, fun e => hn.1 e.symm⟩
        · rw [List.nodup_append]
          refine ⟨hnd.2, by simp, ?_⟩
          intro a ha b hb e
          simp at hb
          subst hb; subst e
          exact hn.2 ha
      · by_cases hjl : j < t.length
        · rw [List.getElem?_append_left hjl] at h1
          rw [List.getElem?_append_left (by rw [h.kln]; exact hjl)] at h2
          obtain ⟨gj, h3, h4, h5⟩ := h.row j s kj h1 h2
          refine ⟨gj, by rw [List.getElem?_append_left (by rw [h.len]; exact hjl)]; exact h3, ?_, h5⟩
          rw [hget_set_ne _ _ ?_]; exact h4
          intro e; subst e
          exact hnd.1 (List.mem_of_getElem? h2)
        · have hj : j = t.length := by
            have := (List.getElem?_eq_some_iff.1 h1).1
            simp at this; omega
          subst hj
          rw [List.getElem?_append_right (Nat.le_refl _), Nat.sub_self] at h1
          rw [List.getElem?_append_right (by rw [h.kln]; exact Nat.le_refl _), h.kln, Nat.sub_self] at h2
          cases h1; cases h2
          refine ⟨gr, by rw [List.getElem?_append_right (by rw [h.len]; exact Nat.le_refl _), h.len, Nat.sub_self]; rfl, ?_, hlo⟩
          rw [hget_set_ne _ _ ?_]; exact hr
          intro e; subst e; simp at hn
    · rw [ifrees_iff] at hrf ⊢
      intro c hc
      rcases List.mem_append.1 hc with hc | hc
      · exact hrf c hc
      · simp at hc; subst hc; rfl

end Go.Proofs.Ytccioplhchmilaa.AL

set_option linter.unusedVariables false
set_option maxRecDepth 100000
namespace Go.Proofs.Ytccioplhchmilaa.AL
open Go Go.Proofs

/-! spec.sgZero (slots: 0 n, 1 n, 3 out, 4 i) -/
namespace spec_sgZero
def lv : List (Nat × List Nat) := [(3, [0, 3, 4])]
noncomputable def K3 : List KF := [.lp (cB (cB (cR (cL (cR (cR (bodyOf Try.f123))))))), .bl 0, .sq (cR (cR (cR (bodyOf Try.f123))))]
def L3 (Q : AVal → Heap → Prop) (v0 v3 v4 : AVal) (H : Heap) : Prop := At Try.prog 123 16 K3 Q (slotsOf [(0, v0), (3, v3), (4, v4)]) H
theorem L3_frz {Q : AVal → Heap → Prop} {v0 v3 v4 w0 w3 w4 : AVal} {H Hf Hk : Heap} {k : Nat} (hs : Split H Hf Hk) (hp : PurL Hf k [(0, v0, w0), (3, v3, w3), (4, v4, w4)]) (h : L3 Q w0 w3 w4 Hk) : L3 Q v0 v3 v4 H := at_frz (ks := K3) hs hp h
def start_vc (Q : AVal → Heap → Prop) (a0 : AVal) (H : Heap) : Prop :=
 spec_sgZero.L3 Q a0 AVal.nilS (AVal.int .i64 0) H
theorem start_eq (Q : AVal → Heap → Prop) (a0 : AVal) (H : Heap) : vs Try.prog lv 123 16 Try.f123.results.toList Q true 1000 [.sq (bodyOf Try.f123)] (entry [a0]) H = start_vc Q a0 H := by kernel_rfl
theorem start {Q : AVal → Heap → Prop} {a0 : AVal} {H : Heap} (h : start_vc Q a0 H) : ACalls Try.prog 123 [a0] H Q := acalls_vs (lv := lv) mixed Try.func123 rfl (by kernel_rfl) (by kernel_rfl) (start_eq Q a0 H ▸ h)
def step3_vc (Q : AVal → Heap → Prop) (v0 v3 v4 : AVal) (H : Heap) : Prop :=
 BINK .lss v4 v0 fun x1 =>
 BRK x1 (((Go.Operand.tmp 11) = (Go.Operand.tmp 11)) ∧ TT ∧ MKK 1 (AVal.int .i64 0) v0 H fun x2 H3 =>
 TT ∧ TT ∧ TT ∧ BSK 1 [x2] H3 fun x4 H5 =>
 TT ∧ TT ∧ APK 1 H5 v3 x4 fun x6 H7 =>
 BINK .add v4 (AVal.int .i64 1) fun x8 =>
 spec_sgZero.L3 Q v0 x6 x8 H7) (Q v3 H)
theorem step3_eq (Q : AVal → Heap → Prop) (v0 v3 v4 : AVal) (H : Heap) : vs Try.prog lv 123 16 Try.f123.results.toList Q true 1000 (.sq (cB (cB (cR (cL (cR (cR (bodyOf Try.f123))))))) :: K3) (slotsOf [(0, v0), (3, v3), (4, v4)]) H = step3_vc Q v0 v3 v4 H := by kernel_rfl
theorem step3 {Q : AVal → Heap → Prop} {v0 v3 v4 : AVal} {H : Heap} (h : step3_vc Q v0 v3 v4 H) : L3 Q v0 v3 v4 H := at_lp_vs (lv := lv) (ks := K3.tail) mixed Try.func123 (step3_eq Q v0 v3 v4 H ▸ h)
end spec_sgZero

/-! spec.sgFrom (slots: 0 c, 1 c, 3 out, 4 i, 5 j) -/
namespace spec_sgFrom
def lv : List (Nat × List Nat) := [(3, [0, 3, 10, 11]), (6, [0, 3, 4, 10, 11, 15, 16])]
noncomputable def K3 : List KF := [.lp (cB (cB (cR (cL (cR (cR (bodyOf Try.f124))))))), .bl 0, .sq (cR (cR (cR (bodyOf Try.f124))))]
def L3 (Q : AVal → Heap → Prop) (v0 v3 v10 v11 : AVal) (H : Heap) : Prop := At Try.prog 124 51 K3 Q (slotsOf [(0, v0), (3, v3), (10, v10), (11, v11)]) H
theorem L3_frz {Q : AVal → Heap → Prop} {v0 v3 v10 v11 w0 w3 w10 w11 : AVal} {H Hf Hk : Heap} {k : Nat} (hs : Split H Hf Hk) (hp : PurL Hf k [(0, v0, w0), (3, v3, w3), (10, v10, w10), (11, v11, w11)]) (h : L3 Q w0 w3 w10 w11 Hk) : L3 Q v0 v3 v10 v11 H := at_frz (ks := K3) hs hp h
noncomputable def K6 : List KF := [.lp (cB (cB (cR (cR (cB (cL (cR (cR (cB (cB (cR (cL (cR (cR (bodyOf Try.f124))))))))))))))), .bl 2, .bl 1, .sq (cR (cR (cR (cB (cB (cR (cL (cR (cR (bodyOf Try.f124)))))))))), .lp (cB (cB (cR (cL (cR (cR (bodyOf Try.f124))))))), .bl 0, .sq (cR (cR (cR (bodyOf Try.f124))))]
def L6 (Q : AVal → Heap → Prop) (v0 v3 v4 v10 v11 v15 v16 : AVal) (H : Heap) : Prop := At Try.prog 124 51 K6 Q (slotsOf [(0, v0), (3, v3), (4, v4), (10, v10), (11, v11), (15, v15), (16, v16)]) H
theorem L6_frz {Q : AVal → Heap → Prop} {v0 v3 v4 v10 v11 v15 v16 w0 w3 w4 w10 w11 w15 w16 : AVal} {H Hf Hk : Heap} {k : Nat} (hs : Split H Hf Hk) (hp : PurL Hf k [(0, v0, w0), (3, v3, w3), (4, v4, w4), (10, v10, w10), (11, v11, w11), (15, v15, w15), (16, v16, w16)]) (h : L6 Q w0 w3 w4 w10 w11 w15 w16 Hk) : L6 Q v0 v3 v4 v10 v11 v15 v16 H := at_frz (ks := K6) hs hp h
def start_vc (Q : AVal → Heap → Prop) (a0 : AVal) (H : Heap) : Prop :=
 LENK a0 fun x1 =>
 ACalls Try.prog 123 [x1] H fun x2 H3 =>
 LENK a0 fun x4 =>
 spec_sgFrom.L3 Q a0 x2 x4 (AVal.int .i64 0) H3
theorem start_eq (Q : AVal → Heap → Prop) (a0 : AVal) (H : Heap) : vs Try.prog lv 124 51 Try.f124.results.toList Q true 1000 [.sq (bodyOf Try.f124)] (entry [a0]) H = start_vc Q a0 H := by kernel_rfl
theorem start {Q : AVal → Heap → Prop} {a0 : AVal} {H : Heap} (h : start_vc Q a0 H) : ACalls Try.prog 124 [a0] H Q := acalls_vs (lv := lv) mixed Try.func124 rfl (by kernel_rfl) (by kernel_rfl) (start_eq Q a0 H ▸ h)
def step3_vc (Q : AVal → Heap → Prop) (v0 v3 v10 v11 : AVal) (H : Heap) : Prop :=
 BINK .lss v11 v10 fun x1 =>
 BRK x1 (LENK v0 fun x2 =>
 spec_sgFrom.L6 Q v0 v3 v11 v10 v11 x2 (AVal.int .i64 0) H) (Q v3 H)
theorem step3_eq (Q : AVal → Heap → Prop) (v0 v3 v10 v11 : AVal) (H : Heap) : vs Try.prog lv 124 51 Try.f124.results.toList Q true 1000 (.sq (cB (cB (cR (cL (cR (cR (bodyOf Try.f124))))))) :: K3) (slotsOf [(0, v0), (3, v3), (10, v10), (11, v11)]) H = step3_vc Q v0 v3 v10 v11 H := by kernel_rfl
theorem step3 {Q : AVal → Heap → Prop} {v0 v3 v10 v11 : AVal} {H : Heap} (h : step3_vc Q v0 v3 v10 v11 H) : L3 Q v0 v3 v10 v11 H := at_lp_vs (lv := lv) (ks := K3.tail) mixed Try.func124 (step3_eq Q v0 v3 v10 v11 H ▸ h)
def step6_vc (Q : AVal → Heap → Prop) (v0 v3 v4 v10 v11 v15 v16 : AVal) (H : Heap) : Prop :=
 BINK .lss v16 v15 fun x1 =>
 BRK x1 (TT ∧ TT ∧ IXK 1 v3 v4 fun x2 =>
 TT ∧ TT ∧ LDK false 1 H x2 fun x3 =>
 BINK .sub v4 (AVal.int .i64 1) fun x4 =>
 BINK .sub v16 (AVal.int .i64 1) fun x5 =>
 BINK .sub v4 (AVal.int .i64 1) fun x6 =>
 BINK .sub v16 (AVal.int .i64 1) fun x7 =>
 ACalls Try.prog 115 [v0, v4, v16] H fun x8 H9 =>
 (TT ∧ TT ∧ LDK false 1 H9 x2 fun x10 =>
 x10 = x3) ∧
 ACalls Try.prog 115 [v0, x4, v16] H9 fun x11 H12 =>
 (TT ∧ TT ∧ LDK false 1 H12 x2 fun x13 =>
 x13 = x3) ∧
 BINK .sub x8 x11 fun x14 =>
 ACalls Try.prog 115 [v0, v4, x5] H12 fun x15 H16 =>
 (TT ∧ TT ∧ LDK false 1 H16 x2 fun x17 =>
 x17 = x3) ∧
 BINK .sub x14 x15 fun x18 =>
 ACalls Try.prog 115 [v0, x6, x7] H16 fun x19 H20 =>
 (TT ∧ TT ∧ LDK false 1 H20 x2 fun x21 =>
 x21 = x3) ∧
 BINK .add x18 x19 fun x22 =>
 TT ∧ IXK 1 x3 v16 fun x23 =>
 TT ∧ STK 1 H20 x23 x22 fun H24 =>
 BINK .add v16 (AVal.int .i64 1) fun x25 =>
 spec_sgFrom.L6 Q v0 v3 v4 v10 v11 v15 x25 H24) (BINK .add v11 (AVal.int .i64 1) fun x26 =>
 spec_sgFrom.L3 Q v0 v3 v10 x26 H)
theorem step6_eq (Q : AVal → Heap → Prop) (v0 v3 v4 v10 v11 v15 v16 : AVal) (H : Heap) : vs Try.prog lv 124 51 Try.f124.results.toList Q true 1000 (.sq (cB (cB (cR (cR (cB (cL (cR (cR (cB (cB (cR (cL (cR (cR (bodyOf Try.f124))))))))))))))) :: K6) (slotsOf [(0, v0), (3, v3), (4, v4), (10, v10), (11, v11), (15, v15), (16, v16)]) H = step6_vc Q v0 v3 v4 v10 v11 v15 v16 H := by kernel_rfl
theorem step6 {Q : AVal → Heap → Prop} {v0 v3 v4 v10 v11 v15 v16 : AVal} {H : Heap} (h : step6_vc Q v0 v3 v4 v10 v11 v15 v16 H) : L6 Q v0 v3 v4 v10 v11 v15 v16 H := at_lp_vs (lv := lv) (ks := K6.tail) mixed Try.func124 (step6_eq Q v0 v3 v4 v10 v11 v15 v16 H ▸ h)
end spec_sgFrom


theorem rep_ints (n : Nat) (x : Int) : rep n [I x] = (List.replicate n x).map I := by
  unfold rep
  induction n with
  | zero => rfl
  | succ n ih => rw [List.replicate_succ, List.flatten_cons, ih, List.replicate_succ]; rfl
theorem rMKI {n : Int} {H : Heap} {K : AVal → Heap → Prop} (h0 : 0 ≤ n) (h1 : n ≤ 1000000000) (k : ∀ g, K (.own H.length g 1 0 n.toNat) (hnew H g ((List.replicate n.toNat 0).map I))) : MKK 1 (I 0) (I n) H K := by
  refine ⟨h0, h1, rfl, rfl, fun g => ?_⟩
  rw [rep_ints]; exact k g

def zeros (n : Nat) : List (List Int) := List.replicate n (List.replicate n 0)
theorem sgZero_loop {m : Nat} (hm : m ≤ 1000000) {H0 : Heap} {Q : AVal → Heap → Prop} (hq : ∀ v H, IsOTab H0.length H v (zeros m) → Fresh H0 H → Q v H) : ∀ (n k : Nat) (v : AVal) (H : Heap), k + n = m → IsOTab H0.length H v (List.replicate k (List.replicate m 0)) → Fresh H0 H →
    spec_sgZero.L3 Q (I m) v (I k) H := by
  intro n
  induction n with
  | zero =>
    intro k v H hk hv hF
    apply spec_sgZero.step3
    unfold spec_sgZero.step3_vc
    repeat' (with_reducible first
 | refine rTT ?_
 | refine rRFL ?_
 | refine rLEN (by assumption) ?_
 | (refine rIXk (by assumption) (by assumption) ?_; intro p hp)
 | (refine rIX (by assumption) (by omega) (by omega) ?_; intro p a ha hp)
 | refine rLDi (by assumption) ?_
 | (refine rLD (by assumption) ?_; intro c hc)
 | refine rADD (by omega) ?_
 | refine rSUB (by omega) ?_
 | refine rLSS ?_
 | refine rLEQ ?_
 | refine rGTR ?_
 | refine rGEQ ?_
 | refine rEQL ?_
 | refine rNEQ ?_
 | refine rNOT ?_
 | (refine rBRK ?_ ?_ <;> intro hb)
 | (refine rBRKn ?_ ?_ <;> intro hb)
 | (refine rBRKnb ?_ ?_ <;> intro hb)
 | (refine rBRKb ?_ ?_ <;> intro hb)
 | (refine rSPL ?_ ?_ <;> intro hb)
 | (refine rSPLn ?_ ?_ <;> intro hb)
 | (refine rSPLnb ?_ ?_ <;> intro hb)
 | (refine rSPLb ?_ ?_ <;> intro hb)
 | (exfalso; omega))
    have : k = m := by omega
    subst this
    exact hq _ _ hv hF
  | succ n ih =>
    intro k v H hk hv hF
    apply spec_sgZero.step3
    unfold spec_sgZero.step3_vc
    repeat' (with_reducible first
 | refine rTT ?_
 | refine rRFL ?_
 | refine rLEN (by assumption) ?_
 | (refine rIXk (by assumption) (by assumption) ?_; intro p hp)
 | (refine rIX (by assumption) (by omega) (by omega) ?_; intro p a ha hp)
 | refine rLDi (by assumption) ?_
 | (refine rLD (by assumption) ?_; intro c hc)
 | refine rADD (by omega) ?_
 | refine rSUB (by omega) ?_
 | refine rLSS ?_
 | refine rLEQ ?_
 | refine rGTR ?_
 | refine rGEQ ?_
 | refine rEQL ?_
 | refine rNEQ ?_
 | refine rNOT ?_
 | (refine rBRK ?_ ?_ <;> intro hb)
 | (refine rBRKn ?_ ?_ <;> intro hb)
 | (refine rBRKnb ?_ ?_ <;> intro hb)
 | (refine rBRKb ?_ ?_ <;> intro hb)
 | (refine rSPL ?_ ?_ <;> intro hb)
 | (refine rSPLn ?_ ?_ <;> intro hb)
 | (refine rSPLnb ?_ ?_ <;> intro hb)
 | (refine rSPLb ?_ ?_ <;> intro hb)
 | (exfalso; omega))
    refine rMKI (by omega) (by omega) fun g => ?_
    rw [Int.toNat_natCast]
    refine ⟨rfl, rfl, rfl, rLIT1 rfl ⟨rfl, rfl, ?_⟩⟩
    have hF1 : Fresh H0 (hnew H g ((List.replicate m 0).map I)) := hF.trans (fresh_new H g (ifrees_map _))
    have hl : m = (List.replicate m (0 : Int)).length := by simp
    have := (hv.new g ((List.replicate m 0).map I)).snoc (gr := g) (r := List.replicate m 0) (hget_new _ _ _) hF.len (by simp; omega) hF1.len (b := true)
      (K := fun x6 H7 => BINK .add (I k) (AVal.int .i64 1) fun x8 => spec_sgZero.L3 Q (I m) x6 x8 H7) (fun v' H' h1 h2 => ?_)
    · rw [← hl] at this; exact this
    · repeat' (with_reducible first
 | refine rTT ?_
 | refine rRFL ?_
 | refine rLEN (by assumption) ?_
 | (refine rIXk (by assumption) (by assumption) ?_; intro p hp)
 | (refine rIX (by assumption) (by omega) (by omega) ?_; intro p a ha hp)
 | refine rLDi (by assumption) ?_
 | (refine rLD (by assumption) ?_; intro c hc)
 | refine rADD (by omega) ?_
 | refine rSUB (by omega) ?_
 | refine rLSS ?_
 | refine rLEQ ?_
 | refine rGTR ?_
 | refine rGEQ ?_
 | refine rEQL ?_
 | refine rNEQ ?_
 | refine rNOT ?_
 | (refine rBRK ?_ ?_ <;> intro hb)
 | (refine rBRKn ?_ ?_ <;> intro hb)
 | (refine rBRKnb ?_ ?_ <;> intro hb)
 | (refine rBRKb ?_ ?_ <;> intro hb)
 | (refine rSPL ?_ ?_ <;> intro hb)
 | (refine rSPLn ?_ ?_ <;> intro hb)
 | (refine rSPLnb ?_ ?_ <;> intro hb)
 | (refine rSPLb ?_ ?_ <;> intro hb)
 | (exfalso; omega))
      refine ih (k + 1) v' H' (by omega) ?_ (hF1.chg (Nat.le_refl _) h2)
      rw [List.replicate_succ']
      exact h1

theorem sgZero_ok {m : Nat} (hm : m ≤ 1000000) {H : Heap} : ACalls Try.prog 123 [I m] H fun r H' => IsOTab H.length H' r (zeros m) ∧ Fresh H H' := by
  apply spec_sgZero.start
  unfold spec_sgZero.start_vc
  exact sgZero_loop hm (fun v H' h1 h2 => ⟨h1, h2⟩) m 0 _ _ (by omega) (.inl ⟨rfl, rfl⟩) (Fresh.refl H)

def atT (c : List (List Int)) (i j : Int) : Int := if i < 0 ∨ j < 0 then 0 else (c.getD i.toNat []).getD j.toNat 0
theorem sgAt_ok {c : List (List Int)} {v : AVal} (hv : IsTab v c) {i j : Int} (hi : i < c.length) (hj : ∀ r ∈ c, j < r.length) {H : Heap} : ACalls Try.prog 115 [v, I i, I j] H fun r H' => r = I (atT c i j) ∧ H' = H := by
  apply spec_sgAt.start
  unfold spec_sgAt.start_vc
  repeat' (with_reducible first
 | refine rTT ?_
 | refine rRFL ?_
 | refine rLEN (by assumption) ?_
 | (refine rIXk (by assumption) (by assumption) ?_; intro p hp)
 | (refine rIX (by assumption) (by omega) (by omega) ?_; intro p a ha hp)
 | refine rLDi (by assumption) ?_
 | (refine rLD (by assumption) ?_; intro c hc)
 | refine rADD (by omega) ?_
 | refine rSUB (by omega) ?_
 | refine rLSS ?_
 | refine rLEQ ?_
 | refine rGTR ?_
 | refine rGEQ ?_
 | refine rEQL ?_
 | refine rNEQ ?_
 | refine rNOT ?_
 | (refine rBRK ?_ ?_ <;> intro hb)
 | (refine rBRKn ?_ ?_ <;> intro hb)
 | (refine rBRKnb ?_ ?_ <;> intro hb)
 | (refine rBRKb ?_ ?_ <;> intro hb)
 | (refine rSPL ?_ ?_ <;> intro hb)
 | (refine rSPLn ?_ ?_ <;> intro hb)
 | (refine rSPLnb ?_ ?_ <;> intro hb)
 | (refine rSPLb ?_ ?_ <;> intro hb)
 | (exfalso; omega))
  · exact ⟨by rw [atT, if_pos (by omega)], rfl⟩
  · exact ⟨by rw [atT, if_pos (by omega)], rfl⟩
  · have := hj a (List.mem_of_getElem? ha)
    have ha' := ha
    repeat' (with_reducible first
 | refine rTT ?_
 | refine rRFL ?_
 | refine rLEN (by assumption) ?_
 | (refine rIXk (by assumption) (by assumption) ?_; intro p hp)
 | (refine rIX (by assumption) (by omega) (by omega) ?_; intro p a ha hp)
 | refine rLDi (by assumption) ?_
 | (refine rLD (by assumption) ?_; intro c hc)
 | refine rADD (by omega) ?_
 | refine rSUB (by omega) ?_
 | refine rLSS ?_
 | refine rLEQ ?_
 | refine rGTR ?_
 | refine rGEQ ?_
 | refine rEQL ?_
 | refine rNEQ ?_
 | refine rNOT ?_
 | (refine rBRK ?_ ?_ <;> intro hb)
 | (refine rBRKn ?_ ?_ <;> intro hb)
 | (refine rBRKnb ?_ ?_ <;> intro hb)
 | (refine rBRKb ?_ ?_ <;> intro hb)
 | (refine rSPL ?_ ?_ <;> intro hb)
 | (refine rSPLn ?_ ?_ <;> intro hb)
 | (refine rSPLnb ?_ ?_ <;> intro hb)
 | (refine rSPLb ?_ ?_ <;> intro hb)
 | (exfalso; omega))
    refine ⟨?_, rfl⟩
    rw [atT, if_neg (by omega)]
    simp [List.getD, ha', ha]

def fromAt (c : List (List Int)) (i j : Nat) : Int := w64 (w64 (w64 (atT c i j - atT c (i - 1) j) - atT c i (j - 1)) + atT c (i - 1) (j - 1))
def fromRow (c : List (List Int)) (i : Nat) : List Int := (List.range c.length).map (fromAt c i)
def fromT (c : List (List Int)) : List (List Int) := (List.range c.length).map (fromRow c)
theorem sgFrom_in {c : List (List Int)} {v : AVal} {w10 w11 : AVal} (hv : IsTab v c) (hl : c.length ≤ 1000000) (hs : isSquareB c = true) {H0 : Heap} {i : Nat} (hi : i < c.length) {k g : Nat} {rows : List AVal} {ks : List Nat} {t : List (List Int)} (htl : t.length = c.length) {Q : AVal → Heap → Prop}
    (hq : ∀ (t' : List (List Int)) (H : Heap), t'.length = c.length → (∀ j, j ≠ i → t'[j]? = t[j]?) → t'[i]? = some (fromRow c i) → OTab H0.length H k g rows ks t' → Fresh H0 H → spec_sgFrom.L6 Q v (.own k g 1 0 c.length) (I i) w10 w11 (I c.length) (I c.length) H) : ∀ (n j : Nat) (t1 : List (List Int)) (r : List Int) (H : Heap), j + n = c.length → t1.length = c.length → (∀ x, x ≠ i → t1[x]? = t[x]?) → t1[i]? = some r → r.length = c.length → r.take j = (fromRow c i).take j →
      OTab H0.length H k g rows ks t1 → Fresh H0 H → spec_sgFrom.L6 Q v (.own k g 1 0 c.length) (I i) w10 w11 (I c.length) (I j) H := by
  intro n
  induction n with
  | zero =>
    intro j t1 r H hj h1 h2 h3 h4 h5 ho hF
    have : j = c.length := by omega
    subst this
    refine hq t1 H h1 h2 ?_ ho hF
    rw [h3, List.take_of_length_le (by omega), List.take_of_length_le (by simp [fromRow])] at *
    rw [h5]
  | succ n ih =>
    intro j t1 r H hj h1 h2 h3 h4 h5 ho hF
    obtain ⟨kj, gj, g1, g2, g3, g4, g5⟩ := ho.get h3
    apply spec_sgFrom.step6
    unfold spec_sgFrom.step6_vc
    repeat' (with_reducible first
 | refine rTT ?_
 | refine rRFL ?_
 | refine rLEN (by assumption) ?_
 | (refine rIXk (by assumption) (by assumption) ?_; intro p hp)
 | (refine rIX (by assumption) (by omega) (by omega) ?_; intro p a ha hp)
 | refine rLDi (by assumption) ?_
 | (refine rLD (by assumption) ?_; intro c hc)
 | refine rADD (by omega) ?_
 | refine rSUB (by omega) ?_
 | refine rLSS ?_
 | refine rLEQ ?_
 | refine rGTR ?_
 | refine rGEQ ?_
 | refine rEQL ?_
 | refine rNEQ ?_
 | refine rNOT ?_
 | (refine rBRK ?_ ?_ <;> intro hb)
 | (refine rBRKn ?_ ?_ <;> intro hb)
 | (refine rBRKnb ?_ ?_ <;> intro hb)
 | (refine rBRKb ?_ ?_ <;> intro hb)
 | (refine rSPL ?_ ?_ <;> intro hb)
 | (refine rSPLn ?_ ?_ <;> intro hb)
 | (refine rSPLnb ?_ ?_ <;> intro hb)
 | (refine rSPLb ?_ ?_ <;> intro hb)
 | (exfalso; omega))
    refine rIXo hi ?_
    repeat' (with_reducible first
 | refine rTT ?_
 | refine rRFL ?_
 | refine rLEN (by assumption) ?_
 | (refine rIXk (by assumption) (by assumption) ?_; intro p hp)
 | (refine rIX (by assumption) (by omega) (by omega) ?_; intro p a ha hp)
 | refine rLDi (by assumption) ?_
 | (refine rLD (by assumption) ?_; intro c hc)
 | refine rADD (by omega) ?_
 | refine rSUB (by omega) ?_
 | refine rLSS ?_
 | refine rLEQ ?_
 | refine rGTR ?_
 | refine rGEQ ?_
 | refine rEQL ?_
 | refine rNEQ ?_
 | refine rNOT ?_
 | (refine rBRK ?_ ?_ <;> intro hb)
 | (refine rBRKn ?_ ?_ <;> intro hb)
 | (refine rBRKnb ?_ ?_ <;> intro hb)
 | (refine rBRKb ?_ ?_ <;> intro hb)
 | (refine rSPL ?_ ?_ <;> intro hb)
 | (refine rSPLn ?_ ?_ <;> intro hb)
 | (refine rSPLnb ?_ ?_ <;> intro hb)
 | (refine rSPLb ?_ ?_ <;> intro hb)
 | (exfalso; omega))
    refine rLDf ho.top g2 ?_
    have hrow : ∀ (r : List Int), r ∈ c → r.length = c.length := fun r hr => sq_len hs hr
    have pend : ∀ {H1 : Heap}, H1 = H → (TT ∧ TT ∧ LDK false 1 H1 (.ptr k g i) fun x => x = .own kj gj 1 0 r.length) := fun e => by subst e; exact ⟨rfl, rfl, rLDf ho.top g2 rfl⟩
    repeat' (with_reducible first
 | refine rTT ?_
 | refine rRFL ?_
 | refine rLEN (by assumption) ?_
 | (refine rIXk (by assumption) (by assumption) ?_; intro p hp)
 | (refine rIX (by assumption) (by omega) (by omega) ?_; intro p a ha hp)
 | refine rLDi (by assumption) ?_
 | (refine rLD (by assumption) ?_; intro c hc)
 | refine rADD (by omega) ?_
 | refine rSUB (by omega) ?_
 | refine rLSS ?_
 | refine rLEQ ?_
 | refine rGTR ?_
 | refine rGEQ ?_
 | refine rEQL ?_
 | refine rNEQ ?_
 | refine rNOT ?_
 | (refine rBRK ?_ ?_ <;> intro hb)
 | (refine rBRKn ?_ ?_ <;> intro hb)
 | (refine rBRKnb ?_ ?_ <;> intro hb)
 | (refine rBRKb ?_ ?_ <;> intro hb)
 | (refine rSPL ?_ ?_ <;> intro hb)
 | (refine rSPLn ?_ ?_ <;> intro hb)
 | (refine rSPLnb ?_ ?_ <;> intro hb)
 | (refine rSPLb ?_ ?_ <;> intro hb)
 | (exfalso; omega))
    refine ACalls.mono (sgAt_ok hv (by omega) (fun r hr => by rw [hrow r hr]; omega)) ?_
    rintro r1 H1 ⟨rfl, rfl⟩
    refine ⟨pend rfl, ?_⟩
    refine ACalls.mono (sgAt_ok hv (by omega) (fun r hr => by rw [hrow r hr]; omega)) ?_
    rintro r1 H1 ⟨rfl, rfl⟩
    refine ⟨pend rfl, ?_⟩
    refine rSUBw ?_
    refine ACalls.mono (sgAt_ok hv (by omega) (fun r hr => by rw [hrow r hr]; omega)) ?_
    rintro r1 H1 ⟨rfl, rfl⟩
    refine ⟨pend rfl, ?_⟩
    refine rSUBw ?_
    refine ACalls.mono (sgAt_ok hv (by omega) (fun r hr => by rw [hrow r hr]; omega)) ?_
    rintro r1 H1 ⟨rfl, rfl⟩
    refine ⟨pend rfl, ?_⟩
    refine rADDw ?_
    repeat' (with_reducible first
 | refine rTT ?_
 | refine rRFL ?_
 | refine rLEN (by assumption) ?_
 | (refine rIXk (by assumption) (by assumption) ?_; intro p hp)
 | (refine rIX (by assumption) (by omega) (by omega) ?_; intro p a ha hp)
 | refine rLDi (by assumption) ?_
 | (refine rLD (by assumption) ?_; intro c hc)
 | refine rADD (by omega) ?_
 | refine rSUB (by omega) ?_
 | refine rLSS ?_
 | refine rLEQ ?_
 | refine rGTR ?_
 | refine rGEQ ?_
 | refine rEQL ?_
 | refine rNEQ ?_
 | refine rNOT ?_
 | (refine rBRK ?_ ?_ <;> intro hb)
 | (refine rBRKn ?_ ?_ <;> intro hb)
 | (refine rBRKnb ?_ ?_ <;> intro hb)
 | (refine rBRKb ?_ ?_ <;> intro hb)
 | (refine rSPL ?_ ?_ <;> intro hb)
 | (refine rSPLn ?_ ?_ <;> intro hb)
 | (refine rSPLnb ?_ ?_ <;> intro hb)
 | (refine rSPLb ?_ ?_ <;> intro hb)
 | (exfalso; omega))
    rw [h4]
    refine rIXo (by omega) ?_
    repeat' (with_reducible first
 | refine rTT ?_
 | refine rRFL ?_
 | refine rLEN (by assumption) ?_
 | (refine rIXk (by assumption) (by assumption) ?_; intro p hp)
 | (refine rIX (by assumption) (by omega) (by omega) ?_; intro p a ha hp)
 | refine rLDi (by assumption) ?_
 | (refine rLD (by assumption) ?_; intro c hc)
 | refine rADD (by omega) ?_
 | refine rSUB (by omega) ?_
 | refine rLSS ?_
 | refine rLEQ ?_
 | refine rGTR ?_
 | refine rGEQ ?_
 | refine rEQL ?_
 | refine rNEQ ?_
 | refine rNOT ?_
 | (refine rBRK ?_ ?_ <;> intro hb)
 | (refine rBRKn ?_ ?_ <;> intro hb)
 | (refine rBRKnb ?_ ?_ <;> intro hb)
 | (refine rBRKb ?_ ?_ <;> intro hb)
 | (refine rSPL ?_ ?_ <;> intro hb)
 | (refine rSPLn ?_ ?_ <;> intro hb)
 | (refine rSPLnb ?_ ?_ <;> intro hb)
 | (refine rSPLb ?_ ?_ <;> intro hb)
 | (exfalso; omega))
    refine rSTp g3 (by simp; omega) rfl ?_
    repeat' (with_reducible first
 | refine rTT ?_
 | refine rRFL ?_
 | refine rLEN (by assumption) ?_
 | (refine rIXk (by assumption) (by assumption) ?_; intro p hp)
 | (refine rIX (by assumption) (by omega) (by omega) ?_; intro p a ha hp)
 | refine rLDi (by assumption) ?_
 | (refine rLD (by assumption) ?_; intro c hc)
 | refine rADD (by omega) ?_
 | refine rSUB (by omega) ?_
 | refine rLSS ?_
 | refine rLEQ ?_
 | refine rGTR ?_
 | refine rGEQ ?_
 | refine rEQL ?_
 | refine rNEQ ?_
 | refine rNOT ?_
 | (refine rBRK ?_ ?_ <;> intro hb)
 | (refine rBRKn ?_ ?_ <;> intro hb)
 | (refine rBRKnb ?_ ?_ <;> intro hb)
 | (refine rBRKb ?_ ?_ <;> intro hb)
 | (refine rSPL ?_ ?_ <;> intro hb)
 | (refine rSPLn ?_ ?_ <;> intro hb)
 | (refine rSPLnb ?_ ?_ <;> intro hb)
 | (refine rSPLb ?_ ?_ <;> intro hb)
 | (exfalso; omega))
    have hset1 : (r.map I).set j (I (fromAt c i j)) = (r.set j (fromAt c i j)).map I := by rw [List.map_set]
    have ho1 := ho.put h3 g1 g3 (r' := r.set j (fromAt c i j)) (by simp)
    rw [← hset1] at ho1
    have h3l := (List.getElem?_eq_some_iff.1 h3).1
    refine ih (j + 1) (t1.set i (r.set j (fromAt c i j))) (r.set j (fromAt c i j)) _ (by omega) (by simpa using h1) ?_ (by rw [List.getElem?_set_self h3l]) (by simpa using h4) ?_ ho1 (hF.set g4 _ ?_)
    · intro x hx
      rw [List.getElem?_set_ne (fun e => hx e.symm)]; exact h2 x hx
    · have e1 : (r.set j (fromAt c i j))[j]? = some (fromAt c i j) := List.getElem?_set_self (by omega)
      have e2 : (fromRow c i)[j]? = some (fromAt c i j) := by simp [fromRow, List.getElem?_range (show j < c.length by omega)]
      rw [take_some e1, take_some e2, List.take_set_of_le (Nat.le_refl _), h5]
    · show IFrees ((r.map I).set j (I (fromAt c i j))) = true
      rw [hset1]; exact ifrees_map _

theorem sgFrom_loop {c : List (List Int)} {v : AVal} (hv : IsTab v c) (hl : c.length ≤ 1000000) (hs : isSquareB c = true) {H0 : Heap} {k g : Nat} {rows : List AVal} {ks : List Nat} {Q : AVal → Heap → Prop}
    (hq : ∀ H, OTab H0.length H k g rows ks (fromT c) → Fresh H0 H → Q (.own k g 1 0 c.length) H) : ∀ (n i : Nat) (t : List (List Int)) (H : Heap), i + n = c.length → t.length = c.length → (∀ x, x < i → t[x]? = some (fromRow c x)) → (∀ x, i ≤ x → x < c.length → t[x]? = some (List.replicate c.length 0)) →
      OTab H0.length H k g rows ks t → Fresh H0 H → spec_sgFrom.L3 Q v (.own k g 1 0 c.length) (I c.length) (I i) H := by
  intro n
  induction n with
  | zero =>
    intro i t H hi h1 h2 h3 ho hF
    apply spec_sgFrom.step3
    unfold spec_sgFrom.step3_vc
    repeat' (with_reducible first
 | refine rTT ?_
 | refine rRFL ?_
 | refine rLEN (by assumption) ?_
 | (refine rIXk (by assumption) (by assumption) ?_; intro p hp)
 | (refine rIX (by assumption) (by omega) (by omega) ?_; intro p a ha hp)
 | refine rLDi (by assumption) ?_
 | (refine rLD (by assumption) ?_; intro c hc)
 | refine rADD (by omega) ?_
 | refine rSUB (by omega) ?_
 | refine rLSS ?_
 | refine rLEQ ?_
 | refine rGTR ?_
 | refine rGEQ ?_
 | refine rEQL ?_
 | refine rNEQ ?_
 | refine rNOT ?_
 | (refine rBRK ?_ ?_ <;> intro hb)
 | (refine rBRKn ?_ ?_ <;> intro hb)
 | (refine rBRKnb ?_ ?_ <;> intro hb)
 | (refine rBRKb ?_ ?_ <;> intro hb)
 | (refine rSPL ?_ ?_ <;> intro hb)
 | (refine rSPLn ?_ ?_ <;> intro hb)
 | (refine rSPLnb ?_ ?_ <;> intro hb)
 | (refine rSPLb ?_ ?_ <;> intro hb)
 | (exfalso; omega))
    have : t = fromT c := by
      refine List.ext_getElem? fun x => ?_
      by_cases hx : x < c.length
      · rw [h2 x (by omega)]
        simp [fromT, List.getElem?_range hx]
      · rw [List.getElem?_eq_none (by omega), List.getElem?_eq_none (by simp [fromT]; omega)]
    subst this
    exact hq H ho hF
  | succ n ih =>
    intro i t H hi h1 h2 h3 ho hF
    apply spec_sgFrom.step3
    unfold spec_sgFrom.step3_vc
    repeat' (with_reducible first
 | refine rTT ?_
 | refine rRFL ?_
 | refine rLEN (by assumption) ?_
 | (refine rIXk (by assumption) (by assumption) ?_; intro p hp)
 | (refine rIX (by assumption) (by omega) (by omega) ?_; intro p a ha hp)
 | refine rLDi (by assumption) ?_
 | (refine rLD (by assumption) ?_; intro c hc)
 | refine rADD (by omega) ?_
 | refine rSUB (by omega) ?_
 | refine rLSS ?_
 | refine rLEQ ?_
 | refine rGTR ?_
 | refine rGEQ ?_
 | refine rEQL ?_
 | refine rNEQ ?_
 | refine rNOT ?_
 | (refine rBRK ?_ ?_ <;> intro hb)
 | (refine rBRKn ?_ ?_ <;> intro hb)
 | (refine rBRKnb ?_ ?_ <;> intro hb)
 | (refine rBRKb ?_ ?_ <;> intro hb)
 | (refine rSPL ?_ ?_ <;> intro hb)
 | (refine rSPLn ?_ ?_ <;> intro hb)
 | (refine rSPLnb ?_ ?_ <;> intro hb)
 | (refine rSPLb ?_ ?_ <;> intro hb)
 | (exfalso; omega))
    refine sgFrom_in hv hl hs (t := t) (by omega) h1 (fun t' H' g1 g2 g3 ho' hF' => ?_) c.length 0 t (List.replicate c.length 0) H (by omega) h1 (fun _ _ => rfl) (h3 i (by omega) (by omega)) (by simp) rfl ho hF
    apply spec_sgFrom.step6
    unfold spec_sgFrom.step6_vc
    repeat' (with_reducible first
 | refine rTT ?_
 | refine rRFL ?_
 | refine rLEN (by assumption) ?_
 | (refine rIXk (by assumption) (by assumption) ?_; intro p hp)
 | (refine rIX (by assumption) (by omega) (by omega) ?_; intro p a ha hp)
 | refine rLDi (by assumption) ?_
 | (refine rLD (by assumption) ?_; intro c hc)
 | refine rADD (by omega) ?_
 | refine rSUB (by omega) ?_
 | refine rLSS ?_
 | refine rLEQ ?_
 | refine rGTR ?_
 | refine rGEQ ?_
 | refine rEQL ?_
 | refine rNEQ ?_
 | refine rNOT ?_
 | (refine rBRK ?_ ?_ <;> intro hb)
 | (refine rBRKn ?_ ?_ <;> intro hb)
 | (refine rBRKnb ?_ ?_ <;> intro hb)
 | (refine rBRKb ?_ ?_ <;> intro hb)
 | (refine rSPL ?_ ?_ <;> intro hb)
 | (refine rSPLn ?_ ?_ <;> intro hb)
 | (refine rSPLnb ?_ ?_ <;> intro hb)
 | (refine rSPLb ?_ ?_ <;> intro hb)
 | (exfalso; omega))
    refine ih (i + 1) t' H' (by omega) g1 ?_ ?_ ho' hF'
    · intro x hx
      by_cases hxi : x = i
      · subst hxi; exact g3
      · rw [g2 x hxi]; exact h2 x (by omega)
    · intro x hx hxc
      rw [g2 x (by omega)]; exact h3 x (by omega) hxc
theorem sgFrom_ok {c : List (List Int)} {v : AVal} (hv : IsTab v c) (hl : c.length ≤ 1000000) (hs : isSquareB c = true) {H : Heap} : ACalls Try.prog 124 [v] H fun r H' => IsOTab H.length H' r (fromT c) ∧ Fresh H H' := by
  apply spec_sgFrom.start
  unfold spec_sgFrom.start_vc
  repeat' (with_reducible first
 | refine rTT ?_
 | refine rRFL ?_
 | refine rLEN (by assumption) ?_
 | (refine rIXk (by assumption) (by assumption) ?_; intro p hp)
 | (refine rIX (by assumption) (by omega) (by omega) ?_; intro p a ha hp)
 | refine rLDi (by assumption) ?_
 | (refine rLD (by assumption) ?_; intro c hc)
 | refine rADD (by omega) ?_
 | refine rSUB (by omega) ?_
 | refine rLSS ?_
 | refine rLEQ ?_
 | refine rGTR ?_
 | refine rGEQ ?_
 | refine rEQL ?_
 | refine rNEQ ?_
 | refine rNOT ?_
 | (refine rBRK ?_ ?_ <;> intro hb)
 | (refine rBRKn ?_ ?_ <;> intro hb)
 | (refine rBRKnb ?_ ?_ <;> intro hb)
 | (refine rBRKb ?_ ?_ <;> intro hb)
 | (refine rSPL ?_ ?_ <;> intro hb)
 | (refine rSPLn ?_ ?_ <;> intro hb)
 | (refine rSPLnb ?_ ?_ <;> intro hb)
 | (refine rSPLb ?_ ?_ <;> intro hb)
 | (exfalso; omega))
  refine ACalls.mono (sgZero_ok hl) ?_
  rintro r H1 ⟨h1, h2⟩
  repeat' (with_reducible first
 | refine rTT ?_
 | refine rRFL ?_
 | refine rLEN (by assumption) ?_
 | (refine rIXk (by assumption) (by assumption) ?_; intro p hp)
 | (refine rIX (by assumption) (by omega) (by omega) ?_; intro p a ha hp)
 | refine rLDi (by assumption) ?_
 | (refine rLD (by assumption) ?_; intro c hc)
 | refine rADD (by omega) ?_
 | refine rSUB (by omega) ?_
 | refine rLSS ?_
 | refine rLEQ ?_
 | refine rGTR ?_
 | refine rGEQ ?_
 | refine rEQL ?_
 | refine rNEQ ?_
 | refine rNOT ?_
 | (refine rBRK ?_ ?_ <;> intro hb)
 | (refine rBRKn ?_ ?_ <;> intro hb)
 | (refine rBRKnb ?_ ?_ <;> intro hb)
 | (refine rBRKb ?_ ?_ <;> intro hb)
 | (refine rSPL ?_ ?_ <;> intro hb)
 | (refine rSPLn ?_ ?_ <;> intro hb)
 | (refine rSPLnb ?_ ?_ <;> intro hb)
 | (refine rSPLb ?_ ?_ <;> intro hb)
 | (exfalso; omega))
  rcases h1 with ⟨rfl, ht⟩ | ⟨k, g, rows, ks, rfl, ho⟩
  · have hc0 : c = [] := List.eq_nil_of_length_eq_zero (by simpa [zeros] using ht)
    subst hc0
    apply spec_sgFrom.step3
    unfold spec_sgFrom.step3_vc
    refine rLSS ?_
    exact rBRK (fun h => absurd h (by simp)) (fun _ => ⟨.inl ⟨rfl, rfl⟩, h2⟩)
  · have hz : (zeros c.length).length = c.length := by simp [zeros]
    rw [hz]
    refine sgFrom_loop hv hl hs (fun H' h3 h4 => ⟨.inr ⟨k, g, rows, ks, by simp [fromT], h3⟩, h4⟩) c.length 0 (zeros c.length) H1 (by omega) hz (fun x hx => by omega) (fun x _ hx => by simp [zeros, hx]) ho h2

end Go.Proofs.Ytccioplhchmilaa.AL

set_option linter.unusedVariables false
set_option maxRecDepth 100000
namespace Go.Proofs.Ytccioplhchmilaa.AL
open Go Go.Proofs

/-! (*spec.l1Cur).sure (slots: 0 c, 1 n, 2 c, 3 n, 5 corners, 6 i, 7 j, 8 k, 9 i, 10 j, 11 step) -/
namespace spec_l1Cur_sure
def lv : List (Nat × List Nat) := [(3, [0, 1, 5, 15, 16]), (6, [0, 1, 5, 6, 15, 16, 20, 21]), (12, [0, 1, 5, 8])]
noncomputable def K3 : List KF := [.lp (cB (cB (cR (cL (cR (cR (bodyOf Try.f101))))))), .bl 0, .sq (cR (cR (cR (bodyOf Try.f101))))]
def L3 (Q : AVal → Heap → Prop) (v0 v1 v5 v15 v16 : AVal) (H : Heap) : Prop := At Try.prog 101 88 K3 Q (slotsOf [(0, v0), (1, v1), (5, v5), (15, v15), (16, v16)]) H
theorem L3_frz {Q : AVal → Heap → Prop} {v0 v1 v5 v15 v16 w0 w1 w5 w15 w16 : AVal} {H Hf Hk : Heap} {k : Nat} (hs : Split H Hf Hk) (hp : PurL Hf k [(0, v0, w0), (1, v1, w1), (5, v5, w5), (15, v15, w15), (16, v16, w16)]) (h : L3 Q w0 w1 w5 w15 w16 Hk) : L3 Q v0 v1 v5 v15 v16 H := at_frz (ks := K3) hs hp h
noncomputable def K6 : List KF := [.lp (cB (cB (cR (cR (cB (cL (cR (cR (cB (cB (cR (cL (cR (cR (bodyOf Try.f101))))))))))))))), .bl 2, .bl 1, .sq (cR (cR (cR (cB (cB (cR (cL (cR (cR (bodyOf Try.f101)))))))))), .lp (cB (cB (cR (cL (cR (cR (bodyOf Try.f101))))))), .bl 0, .sq (cR (cR (cR (bodyOf Try.f101))))]
def L6 (Q : AVal → Heap → Prop) (v0 v1 v5 v6 v15 v16 v20 v21 : AVal) (H : Heap) : Prop := At Try.prog 101 88 K6 Q (slotsOf [(0, v0), (1, v1), (5, v5), (6, v6), (15, v15), (16, v16), (20, v20), (21, v21)]) H
theorem L6_frz {Q : AVal → Heap → Prop} {v0 v1 v5 v6 v15 v16 v20 v21 w0 w1 w5 w6 w15 w16 w20 w21 : AVal} {H Hf Hk : Heap} {k : Nat} (hs : Split H Hf Hk) (hp : PurL Hf k [(0, v0, w0), (1, v1, w1), (5, v5, w5), (6, v6, w6), (15, v15, w15), (16, v16, w16), (20, v20, w20), (21, v21, w21)]) (h : L6 Q w0 w1 w5 w6 w15 w16 w20 w21 Hk) : L6 Q v0 v1 v5 v6 v15 v16 v20 v21 H := at_frz (ks := K6) hs hp h
noncomputable def K12 : List KF := [.lp (cB (cB (cR (cL (cR (cR (cR (bodyOf Try.f101)))))))), .bl 4, .sq (cR (cR (cR (cR (bodyOf Try.f101)))))]
def L12 (Q : AVal → Heap → Prop) (v0 v1 v5 v8 : AVal) (H : Heap) : Prop := At Try.prog 101 88 K12 Q (slotsOf [(0, v0), (1, v1), (5, v5), (8, v8)]) H
theorem L12_frz {Q : AVal → Heap → Prop} {v0 v1 v5 v8 w0 w1 w5 w8 : AVal} {H Hf Hk : Heap} {k : Nat} (hs : Split H Hf Hk) (hp : PurL Hf k [(0, v0, w0), (1, v1, w1), (5, v5, w5), (8, v8, w8)]) (h : L12 Q w0 w1 w5 w8 Hk) : L12 Q v0 v1 v5 v8 H := at_frz (ks := K12) hs hp h
def start_vc (Q : AVal → Heap → Prop) (a0 a1 : AVal) (H : Heap) : Prop :=
 ACalls Try.prog 123 [a1] H fun x1 H2 =>
 LENK x1 fun x3 =>
 spec_l1Cur_sure.L3 Q a0 a1 x1 x3 (AVal.int .i64 0) H2
theorem start_eq (Q : AVal → Heap → Prop) (a0 a1 : AVal) (H : Heap) : vs Try.prog lv 101 88 Try.f101.results.toList Q true 1000 [.sq (bodyOf Try.f101)] (entry [a0, a1]) H = start_vc Q a0 a1 H := by kernel_rfl
theorem start {Q : AVal → Heap → Prop} {a0 a1 : AVal} {H : Heap} (h : start_vc Q a0 a1 H) : ACalls Try.prog 101 [a0, a1] H Q := acalls_vs (lv := lv) mixed Try.func101 rfl (by kernel_rfl) (by kernel_rfl) (start_eq Q a0 a1 H ▸ h)
def step3_vc (Q : AVal → Heap → Prop) (v0 v1 v5 v15 v16 : AVal) (H : Heap) : Prop :=
 BINK .lss v16 v15 fun x1 =>
 BRK x1 (LENK v5 fun x2 =>
 spec_l1Cur_sure.L6 Q v0 v1 v5 v16 v15 v16 x2 (AVal.int .i64 0) H) (BINK .mul (AVal.int .i64 3) v1 fun x3 =>
 BINK .mul x3 v1 fun x4 =>
 ACalls Try.prog 68 [v0, x4] H fun x5 H6 =>
 spec_l1Cur_sure.L12 Q v0 v1 v5 x5 H6)
theorem step3_eq (Q : AVal → Heap → Prop) (v0 v1 v5 v15 v16 : AVal) (H : Heap) : vs Try.prog lv 101 88 Try.f101.results.toList Q true 1000 (.sq (cB (cB (cR (cL (cR (cR (bodyOf Try.f101))))))) :: K3) (slotsOf [(0, v0), (1, v1), (5, v5), (15, v15), (16, v16)]) H = step3_vc Q v0 v1 v5 v15 v16 H := by kernel_rfl
theorem step3 {Q : AVal → Heap → Prop} {v0 v1 v5 v15 v16 : AVal} {H : Heap} (h : step3_vc Q v0 v1 v5 v15 v16 H) : L3 Q v0 v1 v5 v15 v16 H := at_lp_vs (lv := lv) (ks := K3.tail) mixed Try.func101 (step3_eq Q v0 v1 v5 v15 v16 H ▸ h)
def step6_vc (Q : AVal → Heap → Prop) (v0 v1 v5 v6 v15 v16 v20 v21 : AVal) (H : Heap) : Prop :=
 BINK .lss v21 v20 fun x1 =>
 BRK x1 (TT ∧ TT ∧ IXK 1 v5 v6 fun x2 =>
 TT ∧ TT ∧ LDK false 1 H x2 fun x3 =>
 ACalls Try.prog 135 [v6, v21] H fun x4 H5 =>
 (TT ∧ TT ∧ LDK false 1 H5 x2 fun x6 =>
 x6 = x3) ∧
 BINK .add x4 (AVal.int .i64 1) fun x7 =>
 TT ∧ IXK 1 x3 v21 fun x8 =>
 TT ∧ STK 1 H5 x8 x7 fun H9 =>
 BINK .add v21 (AVal.int .i64 1) fun x10 =>
 spec_l1Cur_sure.L6 Q v0 v1 v5 v6 v15 v16 v20 x10 H9) (BINK .add v16 (AVal.int .i64 1) fun x11 =>
 spec_l1Cur_sure.L3 Q v0 v1 v5 v15 x11 H)
theorem step6_eq (Q : AVal → Heap → Prop) (v0 v1 v5 v6 v15 v16 v20 v21 : AVal) (H : Heap) : vs Try.prog lv 101 88 Try.f101.results.toList Q true 1000 (.sq (cB (cB (cR (cR (cB (cL (cR (cR (cB (cB (cR (cL (cR (cR (bodyOf Try.f101))))))))))))))) :: K6) (slotsOf [(0, v0), (1, v1), (5, v5), (6, v6), (15, v15), (16, v16), (20, v20), (21, v21)]) H = step6_vc Q v0 v1 v5 v6 v15 v16 v20 v21 H := by kernel_rfl
theorem step6 {Q : AVal → Heap → Prop} {v0 v1 v5 v6 v15 v16 v20 v21 : AVal} {H : Heap} (h : step6_vc Q v0 v1 v5 v6 v15 v16 v20 v21 H) : L6 Q v0 v1 v5 v6 v15 v16 v20 v21 H := at_lp_vs (lv := lv) (ks := K6.tail) mixed Try.func101 (step6_eq Q v0 v1 v5 v6 v15 v16 v20 v21 H ▸ h)
def step12_vc (Q : AVal → Heap → Prop) (v0 v1 v5 v8 : AVal) (H : Heap) : Prop :=
 BINK .gtr v8 (AVal.int .i64 0) fun x1 =>
 SPL x1 (BINK .gtr v1 (AVal.int .i64 1) fun x2 =>
 BRK x2 (BINK .sub v1 (AVal.int .i64 1) fun x3 =>
 ACalls Try.prog 68 [v0, x3] H fun x4 H5 =>
 BINK .sub v1 (AVal.int .i64 1) fun x6 =>
 ACalls Try.prog 68 [v0, x6] H5 fun x7 H8 =>
 ACalls Try.prog 68 [v0, (AVal.int .i64 2)] H8 fun x9 H10 =>
 BINK .mul (AVal.int .i64 2) x9 fun x11 =>
 BINK .sub x11 (AVal.int .i64 1) fun x12 =>
 TT ∧ IXK 1 v5 x4 fun x13 =>
 TT ∧ TT ∧ LDK false 1 H10 x13 fun x14 =>
 TT ∧ IXK 1 x14 x7 fun x15 =>
 TT ∧ TT ∧ LDK false 1 H10 x15 fun x16 =>
 BINK .add x16 x12 fun x17 =>
 TT ∧ IXK 1 x14 x7 fun x18 =>
 TT ∧ STK 1 H10 x18 x17 fun H19 =>
 ACalls Try.prog 124 [v5] H19 fun x20 H21 =>
 ACalls Try.prog 53 [x20] H21 fun x22 H23 =>
 NOTK x22 fun x24 =>
 BRK x24 (TT ∧ IXK 1 v5 x4 fun x25 =>
 TT ∧ TT ∧ LDK false 1 H23 x25 fun x26 =>
 TT ∧ IXK 1 x26 x7 fun x27 =>
 TT ∧ TT ∧ LDK false 1 H23 x27 fun x28 =>
 BINK .sub x28 x12 fun x29 =>
 TT ∧ IXK 1 x26 x7 fun x30 =>
 TT ∧ STK 1 H23 x30 x29 fun H31 =>
 BINK .sub v8 (AVal.int .i64 1) fun x32 =>
 spec_l1Cur_sure.L12 Q v0 v1 v5 x32 H31) (BINK .sub v8 (AVal.int .i64 1) fun x33 =>
 spec_l1Cur_sure.L12 Q v0 v1 v5 x33 H23)) (ACalls Try.prog 124 [v5] H fun x34 H35 =>
 Q x34 H35)) (ACalls Try.prog 124 [v5] H fun x36 H37 =>
 Q x36 H37)
theorem step12_eq (Q : AVal → Heap → Prop) (v0 v1 v5 v8 : AVal) (H : Heap) : vs Try.prog lv 101 88 Try.f101.results.toList Q true 1000 (.sq (cB (cB (cR (cL (cR (cR (cR (bodyOf Try.f101)))))))) :: K12) (slotsOf [(0, v0), (1, v1), (5, v5), (8, v8)]) H = step12_vc Q v0 v1 v5 v8 H := by kernel_rfl
theorem step12 {Q : AVal → Heap → Prop} {v0 v1 v5 v8 : AVal} {H : Heap} (h : step12_vc Q v0 v1 v5 v8 H) : L12 Q v0 v1 v5 v8 H := at_lp_vs (lv := lv) (ks := K12.tail) mixed Try.func101 (step12_eq Q v0 v1 v5 v8 H ▸ h)
end spec_l1Cur_sure


/-- Blocks that were there are as they were, but the cursor's. -/
structure After (A : Int) (i g : Nat) (H H' : Heap) : Prop where
  len : H.length ≤ H'.length
  old : ∀ j, j < H.length → j ≠ i → hget H' j = hget H j
  cur : Cur A H' i g
  new : ∀ j g' cs, H.length ≤ j → hget H' j = some (g', cs) → IFrees cs = true
  lt : i < H.length
theorem Cur.lt {A : Int} {H : Heap} {i g : Nat} (h : Cur A H i g) : i < H.length := by
  obtain ⟨cv, code, a, s, h1, _⟩ := h
  exact hlt_of_get h1
theorem Cur.old {A : Int} {H H' : Heap} {i g : Nat} (h : Cur A H i g) (hh : hget H' i = hget H i) : Cur A H' i g := by
  obtain ⟨cv, code, a, s, h1, h2⟩ := h
  exact ⟨cv, code, a, s, hh.trans h1, h2⟩
theorem After.refl {A : Int} {H : Heap} {i g : Nat} (h : Cur A H i g) : After A i g H H :=
  ⟨Nat.le_refl _, fun _ _ _ => rfl, h, fun j g' cs hj hg => by have := hlt_of_get hg; omega, h.lt⟩
theorem After.le {A B : Int} {H H' : Heap} {i g : Nat} (h : After A i g H H') (hab : A ≤ B) : After B i g H H' := ⟨h.len, h.old, h.cur.le hab, h.new, h.lt⟩
theorem After.set {A B : Int} {H H' : Heap} {i g : Nat} {cs : List AVal} (h : After A i g H H') (hc : Cur B (hset H' i g cs) i g) : After B i g H (hset H' i g cs) :=
  ⟨by rw [hlen_set]; exact h.len, fun j hj hne => by rw [hget_set_ne _ _ (fun e => hne e.symm)]; exact h.old j hj hne, hc, fun j g' ds hj hg => by
    rw [hget_set_ne _ _ (by have := h.lt; omega)] at hg; exact h.new j g' ds hj hg, h.lt⟩
theorem After.fresh {A : Int} {H H' H2 : Heap} {i g : Nat} (h : After A i g H H') (hf : Fresh H' H2) : After A i g H H2 := by
  have hlt := h.lt
  have hl := h.len
  refine ⟨Nat.le_trans h.len hf.len, fun j hj hne => by rw [hf.old j (by omega)]; exact h.old j hj hne, h.cur.old (hf.old i (by omega)), fun j g' cs hj hg => ?_, h.lt⟩
  by_cases hjl : j < H'.length
  · rw [hf.old j hjl] at hg; exact h.new j g' cs hj hg
  · exact hf.new j g' cs (by omega) hg
theorem After.put {A : Int} {H H' : Heap} {i g k : Nat} (h : After A i g H H') (hk : H.length ≤ k) (g' : Nat) {cs : List AVal} (hc : IFrees cs = true) : After A i g H (hset H' k g' cs) := by
  have hlt := h.lt
  refine ⟨by rw [hlen_set]; exact h.len, fun j hj hne => by rw [hget_set_ne _ _ (by omega)]; exact h.old j hj hne, h.cur.old (hget_set_ne _ _ (by omega)), fun j g2 ds hj hg => ?_, h.lt⟩
  by_cases hkj : k = j
  · subst hkj
    have := hlt_of_get hg
    rw [hlen_set] at this
    rw [hget_set _ _ this] at hg
    cases hg; exact hc
  · rw [hget_set_ne _ _ hkj] at hg; exact h.new j g2 ds hj hg
theorem After.chg {A : Int} {H H' H2 : Heap} {i g lo : Nat} (h : After A i g H H') (hlo : H.length ≤ lo) (hc : Chg lo H' H2) : After A i g H H2 := by
  obtain ⟨g', cs, hf, rfl | ⟨j, hj, rfl⟩⟩ := hc
  · exact h.fresh (fresh_new H' g' hf)
  · exact h.put (Nat.le_trans hlo hj) g' hf
theorem After.trans {A B : Int} {H H1 H2 : Heap} {i g : Nat} (h : After A i g H H1) (k : After B i g H1 H2) : After B i g H H2 := by
  have hl := h.len
  refine ⟨Nat.le_trans h.len k.len, fun j hj hne => (k.old j (by omega) hne).trans (h.old j hj hne), k.cur, fun j g' cs hj hg => ?_, h.lt⟩
  by_cases hjl : j < H1.length
  · by_cases hji : j = i
    · have := h.lt; omega
    · rw [k.old j hjl hji] at hg; exact h.new j g' cs hj hg
  · exact k.new j g' cs (by omega) hg
/-- A table beside the cursor stays. -/
theorem IsOTab.step {A B : Int} {lo : Nat} {H H' : Heap} {i g : Nat} {v : AVal} {t : List (List Int)} (h : IsOTab lo H v t) (hi : i < lo) (ha : After B i g H H') : IsOTab lo H' v t :=
  h.frame fun j hj hl => ha.old j hl (by omega)

/-! ### Lending a table -/
theorem lend_otab {P : Program} {f : FuncId} {v v' : AVal} {H : Heap} {t : List (List Int)} (hp : Pur H 2 v v') (h : ∀ H, ACalls P f [v'] H fun r H' => IsOTab H.length H' r t ∧ Fresh H H') :
    ACalls P f [v] H fun r H' => IsOTab H.length H' r t ∧ Fresh H H' := by
  refine ACalls.lend (k := 2) (args' := [v']) ⟨v', [], rfl, hp, rfl⟩ ((h (dead H)).mono ?_)
  rintro r H1 ⟨h1, h2⟩
  rw [dead_length] at h1
  have hn : ∀ i g cs, hget H1 i = some (g, cs) → IFrees cs = true := by
    intro i g cs hi
    by_cases hl : i < H.length
    · rw [h2.old i (by rw [dead_length]; exact hl), hget_dead] at hi; cases hi
    · exact h2.new i g cs (by rw [dead_length]; omega) hi
  have hm : ∀ i, H.length ≤ i → hget (mrg H H1) i = hget H1 i := by
    intro i hi
    rw [hget_mrg]
    cases hb : Nat.blt i H.length with
    | false => rfl
    | true => have := blt_f hb; omega
  refine ⟨?_, hn, h1.frame fun i hi _ => hm i hi, ?_⟩
  · rcases h1 with ⟨rfl, _⟩ | ⟨k, g, rows, ks, rfl, _⟩ <;> rfl
  · have hl : H.length ≤ (mrg H H1).length := by simp [mrg]
    refine ⟨hl, fun i hi => by rw [hget_mrg, blt_t hi]; rfl, fun i g cs hi hg => ?_⟩
    rw [hm i hi] at hg; exact hn i g cs hg
theorem lend_flat {P : Program} {f : FuncId} {args args' : List AVal} {H : Heap} {Q0 : AVal → Prop} {k : Nat} (hp : All2 (Pur H k) args args') (hq : ∀ r, Q0 r → IFree r = true) (h : ∀ H, ACalls P f args' H fun r H' => Q0 r ∧ H' = H) :
    ACalls P f args H fun r H' => Q0 r ∧ H' = H := by
  refine ACalls.lend hp ((h (dead H)).mono ?_)
  rintro r H1 ⟨h1, rfl⟩
  exact ⟨hq r h1, (fun i g cs hi => by rw [hget_dead] at hi; cases hi), h1, mrg_dead H⟩

theorem sgGood_own {lo : Nat} {t : List (List Int)} {v : AVal} {H : Heap} (hv : IsOTab lo H v t) (hl : t.length ≤ 1000000) (hr : ∀ r ∈ t, r.length ≤ 1000000) : ACalls Try.prog 53 [v] H fun r H' => r = .bool (goodB t) ∧ H' = H := by
  obtain ⟨v', h1, h2⟩ := hv.pur (Hf := H) fun _ _ => rfl
  exact lend_flat (args' := [v']) (Q0 := fun r => r = .bool (goodB t)) ⟨v', [], rfl, h1, rfl⟩ (by rintro r rfl; rfl) fun H => sgGood_ok h2 hl hr
theorem sgFrom_own {lo : Nat} {t : List (List Int)} {v : AVal} {H : Heap} (hv : IsOTab lo H v t) (hl : t.length ≤ 1000000) (hs : isSquareB t = true) : ACalls Try.prog 124 [v] H fun r H' => IsOTab H.length H' r (fromT t) ∧ Fresh H H' := by
  obtain ⟨v', h1, h2⟩ := hv.pur (Hf := H) fun _ _ => rfl
  exact lend_otab h1 fun H => sgFrom_ok h2 hl hs
theorem fromT_len (c : List (List Int)) : (fromT c).length = c.length := by simp [fromT]
theorem fromT_sq (c : List (List Int)) : isSquareB (fromT c) = true := by
  simp only [isSquareB, List.all_eq_true, decide_eq_true_eq, fromT_len]
  intro r hr
  simp only [fromT, List.mem_map] at hr
  obtain ⟨i, _, rfl⟩ := hr
  simp [fromRow]

/-! ### Corner sums that are filled in -/
theorem sq_set {t : List (List Int)} (hs : isSquareB t = true) {i : Nat} {r r' : List Int} (hi : t[i]? = some r) (hl : r'.length = r.length) : isSquareB (t.set i r') = true := by
  simp only [isSquareB, List.all_eq_true, decide_eq_true_eq, List.length_set]
  intro s hs'
  rcases List.mem_or_eq_of_mem_set hs' with h | rfl
  · exact sq_len hs h
  · rw [hl]; exact sq_len hs (List.mem_of_getElem? hi)
theorem sure_in {A : Int} {n : Nat} (hn : n ≤ 6) {H0 : Heap} {ic gc : Nat} {Q : AVal → Heap → Prop} {k g : Nat} {rows : List AVal} {ks : List Nat} {i : Nat} (hi : i < n) {w15 w16 : AVal}
    (hq : ∀ (t : List (List Int)) (H : Heap), t.length = n → isSquareB t = true → OTab H0.length H k g rows ks t → After A ic gc H0 H → spec_l1Cur_sure.L6 Q (.ptr ic gc 0) (I n) (.own k g 1 0 n) (I i) w15 w16 (I n) (I n) H) :
    ∀ (m j : Nat) (t : List (List Int)) (H : Heap), j + m = n → t.length = n → isSquareB t = true → OTab H0.length H k g rows ks t → After A ic gc H0 H → spec_l1Cur_sure.L6 Q (.ptr ic gc 0) (I n) (.own k g 1 0 n) (I i) w15 w16 (I n) (I j) H := by
  intro m
  induction m with
  | zero =>
    intro j t H hj h1 h2 ho hA
    have : j = n := by omega
    subst this
    exact hq t H h1 h2 ho hA
  | succ m ih =>
    intro j t H hj h1 h2 ho hA
    obtain ⟨r, hr⟩ := ex_get (l := t) (k := i) (by omega)
    have hrl := sq_len h2 (List.mem_of_getElem? hr)
    obtain ⟨kj, gj, g1, g2, g3, g4, g5⟩ := ho.get hr
    apply spec_l1Cur_sure.step6
    unfold spec_l1Cur_sure.step6_vc
    repeat' (with_reducible first
 | refine rTT ?_
 | refine rRFL ?_
 | refine rLEN (by assumption) ?_
 | (refine rIXk (by assumption) (by assumption) ?_; intro p hp)
 | (refine rIX (by assumption) (by omega) (by omega) ?_; intro p a ha hp)
 | refine rLDi (by assumption) ?_
 | (refine rLD (by assumption) ?_; intro c hc)
 | refine rADD (by omega) ?_
 | refine rSUB (by omega) ?_
 | refine rLSS ?_
 | refine rLEQ ?_
 | refine rGTR ?_
 | refine rGEQ ?_
 | refine rEQL ?_
 | refine rNEQ ?_
 | refine rNOT ?_
 | (refine rBRK ?_ ?_ <;> intro hb)
 | (refine rBRKn ?_ ?_ <;> intro hb)
 | (refine rBRKnb ?_ ?_ <;> intro hb)
 | (refine rBRKb ?_ ?_ <;> intro hb)
 | (refine rSPL ?_ ?_ <;> intro hb)
 | (refine rSPLn ?_ ?_ <;> intro hb)
 | (refine rSPLnb ?_ ?_ <;> intro hb)
 | (refine rSPLb ?_ ?_ <;> intro hb)
 | (exfalso; omega))
    refine rIXo hi ?_
    repeat' (with_reducible first
 | refine rTT ?_
 | refine rRFL ?_
 | refine rLEN (by assumption) ?_
 | (refine rIXk (by assumption) (by assumption) ?_; intro p hp)
 | (refine rIX (by assumption) (by omega) (by omega) ?_; intro p a ha hp)
 | refine rLDi (by assumption) ?_
 | (refine rLD (by assumption) ?_; intro c hc)
 | refine rADD (by omega) ?_
 | refine rSUB (by omega) ?_
 | refine rLSS ?_
 | refine rLEQ ?_
 | refine rGTR ?_
 | refine rGEQ ?_
 | refine rEQL ?_
 | refine rNEQ ?_
 | refine rNOT ?_
 | (refine rBRK ?_ ?_ <;> intro hb)
 | (refine rBRKn ?_ ?_ <;> intro hb)
 | (refine rBRKnb ?_ ?_ <;> intro hb)
 | (refine rBRKb ?_ ?_ <;> intro hb)
 | (refine rSPL ?_ ?_ <;> intro hb)
 | (refine rSPLn ?_ ?_ <;> intro hb)
 | (refine rSPLnb ?_ ?_ <;> intro hb)
 | (refine rSPLb ?_ ?_ <;> intro hb)
 | (exfalso; omega))
    refine rLDf ho.top g2 ?_
    refine ACalls.mono l1Least_ok ?_
    rintro r1 H1 ⟨rfl, rfl⟩
    refine ⟨⟨rfl, rfl, rLDf ho.top g2 rfl⟩, ?_⟩
    generalize hx : (if (i : Int) < (j : Int) then (i : Int) else (j : Int)) = x
    have hx1 : x ≤ 1000000 := by rw [← hx]; split <;> omega
    have hx0 : 0 ≤ x := by rw [← hx]; split <;> omega
    repeat' (with_reducible first
 | refine rTT ?_
 | refine rRFL ?_
 | refine rLEN (by assumption) ?_
 | (refine rIXk (by assumption) (by assumption) ?_; intro p hp)
 | (refine rIX (by assumption) (by omega) (by omega) ?_; intro p a ha hp)
 | refine rLDi (by assumption) ?_
 | (refine rLD (by assumption) ?_; intro c hc)
 | refine rADD (by omega) ?_
 | refine rSUB (by omega) ?_
 | refine rLSS ?_
 | refine rLEQ ?_
 | refine rGTR ?_
 | refine rGEQ ?_
 | refine rEQL ?_
 | refine rNEQ ?_
 | refine rNOT ?_
 | (refine rBRK ?_ ?_ <;> intro hb)
 | (refine rBRKn ?_ ?_ <;> intro hb)
 | (refine rBRKnb ?_ ?_ <;> intro hb)
 | (refine rBRKb ?_ ?_ <;> intro hb)
 | (refine rSPL ?_ ?_ <;> intro hb)
 | (refine rSPLn ?_ ?_ <;> intro hb)
 | (refine rSPLnb ?_ ?_ <;> intro hb)
 | (refine rSPLb ?_ ?_ <;> intro hb)
 | (exfalso; omega))
    refine rIXo (by omega) ?_
    repeat' (with_reducible first
 | refine rTT ?_
 | refine rRFL ?_
 | refine rLEN (by assumption) ?_
 | (refine rIXk (by assumption) (by assumption) ?_; intro p hp)
 | (refine rIX (by assumption) (by omega) (by omega) ?_; intro p a ha hp)
 | refine rLDi (by assumption) ?_
 | (refine rLD (by assumption) ?_; intro c hc)
 | refine rADD (by omega) ?_
 | refine rSUB (by omega) ?_
 | refine rLSS ?_
 | refine rLEQ ?_
 | refine rGTR ?_
 | refine rGEQ ?_
 | refine rEQL ?_
 | refine rNEQ ?_
 | refine rNOT ?_
 | (refine rBRK ?_ ?_ <;> intro hb)
 | (refine rBRKn ?_ ?_ <;> intro hb)
 | (refine rBRKnb ?_ ?_ <;> intro hb)
 | (refine rBRKb ?_ ?_ <;> intro hb)
 | (refine rSPL ?_ ?_ <;> intro hb)
 | (refine rSPLn ?_ ?_ <;> intro hb)
 | (refine rSPLnb ?_ ?_ <;> intro hb)
 | (refine rSPLb ?_ ?_ <;> intro hb)
 | (exfalso; omega))
    refine rSTp g3 (by simp; omega) rfl ?_
    repeat' (with_reducible first
 | refine rTT ?_
 | refine rRFL ?_
 | refine rLEN (by assumption) ?_
 | (refine rIXk (by assumption) (by assumption) ?_; intro p hp)
 | (refine rIX (by assumption) (by omega) (by omega) ?_; intro p a ha hp)
 | refine rLDi (by assumption) ?_
 | (refine rLD (by assumption) ?_; intro c hc)
 | refine rADD (by omega) ?_
 | refine rSUB (by omega) ?_
 | refine rLSS ?_
 | refine rLEQ ?_
 | refine rGTR ?_
 | refine rGEQ ?_
 | refine rEQL ?_
 | refine rNEQ ?_
 | refine rNOT ?_
 | (refine rBRK ?_ ?_ <;> intro hb)
 | (refine rBRKn ?_ ?_ <;> intro hb)
 | (refine rBRKnb ?_ ?_ <;> intro hb)
 | (refine rBRKb ?_ ?_ <;> intro hb)
 | (refine rSPL ?_ ?_ <;> intro hb)
 | (refine rSPLn ?_ ?_ <;> intro hb)
 | (refine rSPLnb ?_ ?_ <;> intro hb)
 | (refine rSPLb ?_ ?_ <;> intro hb)
 | (exfalso; omega))
    have hset1 : (r.map I).set j (I (x + 1)) = (r.set j (x + 1)).map I := by rw [List.map_set]
    rw [hset1]
    refine ih (j + 1) (t.set i (r.set j (x + 1))) _ (by omega) (by simpa using h1) (sq_set h2 hr (by simp)) (ho.put hr g1 g3 (by simp)) (hA.put g4 _ (ifrees_map _))

theorem sure_fill {A : Int} {n : Nat} (hn : n ≤ 6) {H0 : Heap} {ic gc : Nat} {Q : AVal → Heap → Prop} {k g : Nat} {rows : List AVal} {ks : List Nat}
    (hq : ∀ (t : List (List Int)) (H : Heap), t.length = n → isSquareB t = true → OTab H0.length H k g rows ks t → After A ic gc H0 H → spec_l1Cur_sure.L3 Q (.ptr ic gc 0) (I n) (.own k g 1 0 n) (I n) (I n) H) :
    ∀ (m i : Nat) (t : List (List Int)) (H : Heap), i + m = n → t.length = n → isSquareB t = true → OTab H0.length H k g rows ks t → After A ic gc H0 H → spec_l1Cur_sure.L3 Q (.ptr ic gc 0) (I n) (.own k g 1 0 n) (I n) (I i) H := by
  intro m
  induction m with
  | zero =>
    intro i t H hi h1 h2 ho hA
    have : i = n := by omega
    subst this
    exact hq t H h1 h2 ho hA
  | succ m ih =>
    intro i t H hi h1 h2 ho hA
    apply spec_l1Cur_sure.step3
    unfold spec_l1Cur_sure.step3_vc
    repeat' (with_reducible first
 | refine rTT ?_
 | refine rRFL ?_
 | refine rLEN (by assumption) ?_
 | (refine rIXk (by assumption) (by assumption) ?_; intro p hp)
 | (refine rIX (by assumption) (by omega) (by omega) ?_; intro p a ha hp)
 | refine rLDi (by assumption) ?_
 | (refine rLD (by assumption) ?_; intro c hc)
 | refine rADD (by omega) ?_
 | refine rSUB (by omega) ?_
 | refine rLSS ?_
 | refine rLEQ ?_
 | refine rGTR ?_
 | refine rGEQ ?_
 | refine rEQL ?_
 | refine rNEQ ?_
 | refine rNOT ?_
 | (refine rBRK ?_ ?_ <;> intro hb)
 | (refine rBRKn ?_ ?_ <;> intro hb)
 | (refine rBRKnb ?_ ?_ <;> intro hb)
 | (refine rBRKb ?_ ?_ <;> intro hb)
 | (refine rSPL ?_ ?_ <;> intro hb)
 | (refine rSPLn ?_ ?_ <;> intro hb)
 | (refine rSPLnb ?_ ?_ <;> intro hb)
 | (refine rSPLb ?_ ?_ <;> intro hb)
 | (exfalso; omega))
    show spec_l1Cur_sure.L6 Q _ _ _ _ _ _ (I n) _ _
    refine sure_in hn (i := i) (by omega) (fun t' H' g1 g2 g3 g4 => ?_) n 0 t H (by omega) h1 h2 ho hA
    apply spec_l1Cur_sure.step6
    unfold spec_l1Cur_sure.step6_vc
    repeat' (with_reducible first
 | refine rTT ?_
 | refine rRFL ?_
 | refine rLEN (by assumption) ?_
 | (refine rIXk (by assumption) (by assumption) ?_; intro p hp)
 | (refine rIX (by assumption) (by omega) (by omega) ?_; intro p a ha hp)
 | refine rLDi (by assumption) ?_
 | (refine rLD (by assumption) ?_; intro c hc)
 | refine rADD (by omega) ?_
 | refine rSUB (by omega) ?_
 | refine rLSS ?_
 | refine rLEQ ?_
 | refine rGTR ?_
 | refine rGEQ ?_
 | refine rEQL ?_
 | refine rNEQ ?_
 | refine rNOT ?_
 | (refine rBRK ?_ ?_ <;> intro hb)
 | (refine rBRKn ?_ ?_ <;> intro hb)
 | (refine rBRKnb ?_ ?_ <;> intro hb)
 | (refine rBRKb ?_ ?_ <;> intro hb)
 | (refine rSPL ?_ ?_ <;> intro hb)
 | (refine rSPLn ?_ ?_ <;> intro hb)
 | (refine rSPLnb ?_ ?_ <;> intro hb)
 | (refine rSPLb ?_ ?_ <;> intro hb)
 | (exfalso; omega))
    exact ih (i + 1) t' H' (by omega) g1 g2 g3 g4

theorem IsOTab.lo {a b : Nat} {H : Heap} {v : AVal} {t : List (List Int)} (h : IsOTab b H v t) (hab : a ≤ b) : IsOTab a H v t := by
  rcases h with h | ⟨k, g, rows, ks, hv, h⟩
  · exact .inl h
  · refine .inr ⟨k, g, rows, ks, hv, h.top, Nat.le_trans hab h.lok, h.len, h.kln, h.nd, fun j r kj h1 h2 => ?_⟩
    obtain ⟨gj, h3, h4, h5⟩ := h.row j r kj h1 h2
    exact ⟨gj, h3, h4, Nat.le_trans hab h5⟩
def Sure (A : Int) (n : Nat) (ic gc : Nat) (H0 : Heap) (r : AVal) (H : Heap) : Prop := ∃ t, IsOTab H0.length H r t ∧ t.length = n ∧ isSquareB t = true ∧ After A ic gc H0 H
theorem sure_end {A B : Int} {n : Nat} (hn : n ≤ 6) {H0 H : Heap} {ic gc k g : Nat} {rows : List AVal} {ks : List Nat} {t : List (List Int)} (h1 : t.length = n) (h2 : isSquareB t = true) (ho : OTab H0.length H k g rows ks t) (hA : After B ic gc H0 H) (hB : B ≤ A) :
    ACalls Try.prog 124 [.own k g 1 0 n] H (Sure A n ic gc H0) := by
  refine ACalls.mono (sgFrom_own (lo := H0.length) (t := t) (.inr ⟨k, g, rows, ks, by rw [h1], ho⟩) (by omega) h2) ?_
  rintro r H' ⟨h3, h4⟩
  exact ⟨fromT t, h3.lo hA.len, by rw [fromT_len]; exact h1, fromT_sq t, (hA.fresh h4).le hB⟩
theorem OTab.is {lo : Nat} {H : Heap} {k g n : Nat} {rows : List AVal} {ks : List Nat} {t : List (List Int)} (ho : OTab lo H k g rows ks t) (h : t.length = n) : IsOTab lo H (.own k g 1 0 n) t := .inr ⟨k, g, rows, ks, by rw [h], ho⟩
theorem After.draw {A B : Int} {i g : Nat} {H H1 H2 : Heap} {n : Int} {r : AVal} (h : After A i g H H1) (hd : Drawn B i g H1 n r H2) : ∃ x, r = I x ∧ 0 ≤ x ∧ (x < n ∨ x = 0) ∧ After B i g H H2 ∧ (∀ j, j ≠ i → hget H2 j = hget H1 j) ∧ H2.length = H1.length := by
  obtain ⟨x, cs, h1, h2, h3, rfl, h5⟩ := hd
  exact ⟨x, h1, h2, h3, h.set h5, fun j hj => hget_set_ne _ _ (fun e => hj e.symm), hlen_set _ _ _ _⟩
theorem sure_loop {A : Int} (hA1 : A ≤ 100000000) {n : Nat} (hn : n ≤ 6) {H0 : Heap} {ic gc k g : Nat} {rows : List AVal} {ks : List Nat} : ∀ (m : Nat) (kk B : Int) (t : List (List Int)) (H : Heap), kk ≤ m → m ≤ 120 → B + 6 * m ≤ A → t.length = n → isSquareB t = true → OTab H0.length H k g rows ks t → After B ic gc H0 H →
    spec_l1Cur_sure.L12 (Sure A n ic gc H0) (.ptr ic gc 0) (I n) (.own k g 1 0 n) (I kk) H := by
  intro m
  induction m with
  | zero =>
    intro kk B t H hk hm hB h1 h2 ho hA
    apply spec_l1Cur_sure.step12
    unfold spec_l1Cur_sure.step12_vc
    repeat' (with_reducible first
 | refine rTT ?_
 | refine rRFL ?_
 | refine rLEN (by assumption) ?_
 | (refine rIXk (by assumption) (by assumption) ?_; intro p hp)
 | (refine rIX (by assumption) (by omega) (by omega) ?_; intro p a ha hp)
 | refine rLDi (by assumption) ?_
 | (refine rLD (by assumption) ?_; intro c hc)
 | refine rADD (by omega) ?_
 | refine rSUB (by omega) ?_
 | refine rLSS ?_
 | refine rLEQ ?_
 | refine rGTR ?_
 | refine rGEQ ?_
 | refine rEQL ?_
 | refine rNEQ ?_
 | refine rNOT ?_
 | (refine rBRK ?_ ?_ <;> intro hb)
 | (refine rBRKn ?_ ?_ <;> intro hb)
 | (refine rBRKnb ?_ ?_ <;> intro hb)
 | (refine rBRKb ?_ ?_ <;> intro hb)
 | (refine rSPL ?_ ?_ <;> intro hb)
 | (refine rSPLn ?_ ?_ <;> intro hb)
 | (refine rSPLnb ?_ ?_ <;> intro hb)
 | (refine rSPLb ?_ ?_ <;> intro hb)
 | (exfalso; omega))
    exact sure_end hn h1 h2 ho hA (by omega)
  | succ m ih =>
    intro kk B t H hk hm hB h1 h2 ho hA
    have hlt := hA.lt
    apply spec_l1Cur_sure.step12
    unfold spec_l1Cur_sure.step12_vc
    repeat' (with_reducible first
 | refine rTT ?_
 | refine rRFL ?_
 | refine rLEN (by assumption) ?_
 | (refine rIXk (by assumption) (by assumption) ?_; intro p hp)
 | (refine rIX (by assumption) (by omega) (by omega) ?_; intro p a ha hp)
 | refine rLDi (by assumption) ?_
 | (refine rLD (by assumption) ?_; intro c hc)
 | refine rADD (by omega) ?_
 | refine rSUB (by omega) ?_
 | refine rLSS ?_
 | refine rLEQ ?_
 | refine rGTR ?_
 | refine rGEQ ?_
 | refine rEQL ?_
 | refine rNEQ ?_
 | refine rNOT ?_
 | (refine rBRK ?_ ?_ <;> intro hb)
 | (refine rBRKn ?_ ?_ <;> intro hb)
 | (refine rBRKnb ?_ ?_ <;> intro hb)
 | (refine rBRKb ?_ ?_ <;> intro hb)
 | (refine rSPL ?_ ?_ <;> intro hb)
 | (refine rSPLn ?_ ?_ <;> intro hb)
 | (refine rSPLnb ?_ ?_ <;> intro hb)
 | (refine rSPLb ?_ ?_ <;> intro hb)
 | (exfalso; omega))
    · refine ACalls.mono (pick_ok hA.cur (by omega) (by omega)) ?_
      intro r1 H1 hd1
      obtain ⟨x, rfl, hx0, hx1, hA1', hf1, hl1⟩ := hA.draw hd1
      have ho1 := ho.frame (H' := H1) fun j hj _ => hf1 j (by omega)
      repeat' (with_reducible first
 | refine rTT ?_
 | refine rRFL ?_
 | refine rLEN (by assumption) ?_
 | (refine rIXk (by assumption) (by assumption) ?_; intro p hp)
 | (refine rIX (by assumption) (by omega) (by omega) ?_; intro p a ha hp)
 | refine rLDi (by assumption) ?_
 | (refine rLD (by assumption) ?_; intro c hc)
 | refine rADD (by omega) ?_
 | refine rSUB (by omega) ?_
 | refine rLSS ?_
 | refine rLEQ ?_
 | refine rGTR ?_
 | refine rGEQ ?_
 | refine rEQL ?_
 | refine rNEQ ?_
 | refine rNOT ?_
 | (refine rBRK ?_ ?_ <;> intro hb)
 | (refine rBRKn ?_ ?_ <;> intro hb)
 | (refine rBRKnb ?_ ?_ <;> intro hb)
 | (refine rBRKb ?_ ?_ <;> intro hb)
 | (refine rSPL ?_ ?_ <;> intro hb)
 | (refine rSPLn ?_ ?_ <;> intro hb)
 | (refine rSPLnb ?_ ?_ <;> intro hb)
 | (refine rSPLb ?_ ?_ <;> intro hb)
 | (exfalso; omega))
      refine ACalls.mono (pick_ok hA1'.cur (by omega) (by omega)) ?_
      intro r2 H2 hd2
      obtain ⟨y, rfl, hy0, hy1, hA2', hf2, hl2⟩ := hA1'.draw hd2
      have ho2 := ho1.frame (H' := H2) fun j hj _ => hf2 j (by omega)
      refine ACalls.mono (pick_ok hA2'.cur (by omega) (by omega)) ?_
      intro r3 H3 hd3
      obtain ⟨z, rfl, hz0, hz1, hA3', hf3, hl3⟩ := hA2'.draw hd3
      have ho3 := ho2.frame (H' := H3) fun j hj _ => hf3 j (by omega)
      refine rMUL (by omega) ?_
      repeat' (with_reducible first
 | refine rTT ?_
 | refine rRFL ?_
 | refine rLEN (by assumption) ?_
 | (refine rIXk (by assumption) (by assumption) ?_; intro p hp)
 | (refine rIX (by assumption) (by omega) (by omega) ?_; intro p a ha hp)
 | refine rLDi (by assumption) ?_
 | (refine rLD (by assumption) ?_; intro c hc)
 | refine rADD (by omega) ?_
 | refine rSUB (by omega) ?_
 | refine rLSS ?_
 | refine rLEQ ?_
 | refine rGTR ?_
 | refine rGEQ ?_
 | refine rEQL ?_
 | refine rNEQ ?_
 | refine rNOT ?_
 | (refine rBRK ?_ ?_ <;> intro hb)
 | (refine rBRKn ?_ ?_ <;> intro hb)
 | (refine rBRKnb ?_ ?_ <;> intro hb)
 | (refine rBRKb ?_ ?_ <;> intro hb)
 | (refine rSPL ?_ ?_ <;> intro hb)
 | (refine rSPLn ?_ ?_ <;> intro hb)
 | (refine rSPLnb ?_ ?_ <;> intro hb)
 | (refine rSPLb ?_ ?_ <;> intro hb)
 | (exfalso; omega))
      obtain ⟨xn, rfl⟩ : ∃ xn : Nat, x = xn := ⟨x.toNat, by omega⟩
      obtain ⟨yn, rfl⟩ : ∃ yn : Nat, y = yn := ⟨y.toNat, by omega⟩
      obtain ⟨row, hrow⟩ := ex_get (l := t) (k := xn) (by omega)
      have hrl := sq_len h2 (List.mem_of_getElem? hrow)
      obtain ⟨kj, gj, g1, g2, g3, g4, g5⟩ := ho3.get hrow
      obtain ⟨e, he⟩ := ex_get (l := row) (k := yn) (by omega)
      refine rIXo (by omega) ?_
      repeat' (with_reducible first
 | refine rTT ?_
 | refine rRFL ?_
 | refine rLEN (by assumption) ?_
 | (refine rIXk (by assumption) (by assumption) ?_; intro p hp)
 | (refine rIX (by assumption) (by omega) (by omega) ?_; intro p a ha hp)
 | refine rLDi (by assumption) ?_
 | (refine rLD (by assumption) ?_; intro c hc)
 | refine rADD (by omega) ?_
 | refine rSUB (by omega) ?_
 | refine rLSS ?_
 | refine rLEQ ?_
 | refine rGTR ?_
 | refine rGEQ ?_
 | refine rEQL ?_
 | refine rNEQ ?_
 | refine rNOT ?_
 | (refine rBRK ?_ ?_ <;> intro hb)
 | (refine rBRKn ?_ ?_ <;> intro hb)
 | (refine rBRKnb ?_ ?_ <;> intro hb)
 | (refine rBRKb ?_ ?_ <;> intro hb)
 | (refine rSPL ?_ ?_ <;> intro hb)
 | (refine rSPLn ?_ ?_ <;> intro hb)
 | (refine rSPLnb ?_ ?_ <;> intro hb)
 | (refine rSPLb ?_ ?_ <;> intro hb)
 | (exfalso; omega))
      refine rLDf ho3.top g2 ?_
      repeat' (with_reducible first
 | refine rTT ?_
 | refine rRFL ?_
 | refine rLEN (by assumption) ?_
 | (refine rIXk (by assumption) (by assumption) ?_; intro p hp)
 | (refine rIX (by assumption) (by omega) (by omega) ?_; intro p a ha hp)
 | refine rLDi (by assumption) ?_
 | (refine rLD (by assumption) ?_; intro c hc)
 | refine rADD (by omega) ?_
 | refine rSUB (by omega) ?_
 | refine rLSS ?_
 | refine rLEQ ?_
 | refine rGTR ?_
 | refine rGEQ ?_
 | refine rEQL ?_
 | refine rNEQ ?_
 | refine rNOT ?_
 | (refine rBRK ?_ ?_ <;> intro hb)
 | (refine rBRKn ?_ ?_ <;> intro hb)
 | (refine rBRKnb ?_ ?_ <;> intro hb)
 | (refine rBRKb ?_ ?_ <;> intro hb)
 | (refine rSPL ?_ ?_ <;> intro hb)
 | (refine rSPLn ?_ ?_ <;> intro hb)
 | (refine rSPLnb ?_ ?_ <;> intro hb)
 | (refine rSPLb ?_ ?_ <;> intro hb)
 | (exfalso; omega))
      refine rIXo (by omega) ?_
      repeat' (with_reducible first
 | refine rTT ?_
 | refine rRFL ?_
 | refine rLEN (by assumption) ?_
 | (refine rIXk (by assumption) (by assumption) ?_; intro p hp)
 | (refine rIX (by assumption) (by omega) (by omega) ?_; intro p a ha hp)
 | refine rLDi (by assumption) ?_
 | (refine rLD (by assumption) ?_; intro c hc)
 | refine rADD (by omega) ?_
 | refine rSUB (by omega) ?_
 | refine rLSS ?_
 | refine rLEQ ?_
 | refine rGTR ?_
 | refine rGEQ ?_
 | refine rEQL ?_
 | refine rNEQ ?_
 | refine rNOT ?_
 | (refine rBRK ?_ ?_ <;> intro hb)
 | (refine rBRKn ?_ ?_ <;> intro hb)
 | (refine rBRKnb ?_ ?_ <;> intro hb)
 | (refine rBRKb ?_ ?_ <;> intro hb)
 | (refine rSPL ?_ ?_ <;> intro hb)
 | (refine rSPLn ?_ ?_ <;> intro hb)
 | (refine rSPLnb ?_ ?_ <;> intro hb)
 | (refine rSPLb ?_ ?_ <;> intro hb)
 | (exfalso; omega))
      refine rLDf g3 (by rw [List.getElem?_map, he]; rfl) ?_
      refine rADDw ?_
      repeat' (with_reducible first
 | refine rTT ?_
 | refine rRFL ?_
 | refine rLEN (by assumption) ?_
 | (refine rIXk (by assumption) (by assumption) ?_; intro p hp)
 | (refine rIX (by assumption) (by omega) (by omega) ?_; intro p a ha hp)
 | refine rLDi (by assumption) ?_
 | (refine rLD (by assumption) ?_; intro c hc)
 | refine rADD (by omega) ?_
 | refine rSUB (by omega) ?_
 | refine rLSS ?_
 | refine rLEQ ?_
 | refine rGTR ?_
 | refine rGEQ ?_
 | refine rEQL ?_
 | refine rNEQ ?_
 | refine rNOT ?_
 | (refine rBRK ?_ ?_ <;> intro hb)
 | (refine rBRKn ?_ ?_ <;> intro hb)
 | (refine rBRKnb ?_ ?_ <;> intro hb)
 | (refine rBRKb ?_ ?_ <;> intro hb)
 | (refine rSPL ?_ ?_ <;> intro hb)
 | (refine rSPLn ?_ ?_ <;> intro hb)
 | (refine rSPLnb ?_ ?_ <;> intro hb)
 | (refine rSPLb ?_ ?_ <;> intro hb)
 | (exfalso; omega))
      refine rIXo (by omega) ?_
      repeat' (with_reducible first
 | refine rTT ?_
 | refine rRFL ?_
 | refine rLEN (by assumption) ?_
 | (refine rIXk (by assumption) (by assumption) ?_; intro p hp)
 | (refine rIX (by assumption) (by omega) (by omega) ?_; intro p a ha hp)
 | refine rLDi (by assumption) ?_
 | (refine rLD (by assumption) ?_; intro c hc)
 | refine rADD (by omega) ?_
 | refine rSUB (by omega) ?_
 | refine rLSS ?_
 | refine rLEQ ?_
 | refine rGTR ?_
 | refine rGEQ ?_
 | refine rEQL ?_
 | refine rNEQ ?_
 | refine rNOT ?_
 | (refine rBRK ?_ ?_ <;> intro hb)
 | (refine rBRKn ?_ ?_ <;> intro hb)
 | (refine rBRKnb ?_ ?_ <;> intro hb)
 | (refine rBRKb ?_ ?_ <;> intro hb)
 | (refine rSPL ?_ ?_ <;> intro hb)
 | (refine rSPLn ?_ ?_ <;> intro hb)
 | (refine rSPLnb ?_ ?_ <;> intro hb)
 | (refine rSPLb ?_ ?_ <;> intro hb)
 | (exfalso; omega))
      refine rSTp g3 (by simp; omega) rfl ?_
      repeat' (with_reducible first
 | refine rTT ?_
 | refine rRFL ?_
 | refine rLEN (by assumption) ?_
 | (refine rIXk (by assumption) (by assumption) ?_; intro p hp)
 | (refine rIX (by assumption) (by omega) (by omega) ?_; intro p a ha hp)
 | refine rLDi (by assumption) ?_
 | (refine rLD (by assumption) ?_; intro c hc)
 | refine rADD (by omega) ?_
 | refine rSUB (by omega) ?_
 | refine rLSS ?_
 | refine rLEQ ?_
 | refine rGTR ?_
 | refine rGEQ ?_
 | refine rEQL ?_
 | refine rNEQ ?_
 | refine rNOT ?_
 | (refine rBRK ?_ ?_ <;> intro hb)
 | (refine rBRKn ?_ ?_ <;> intro hb)
 | (refine rBRKnb ?_ ?_ <;> intro hb)
 | (refine rBRKb ?_ ?_ <;> intro hb)
 | (refine rSPL ?_ ?_ <;> intro hb)
 | (refine rSPLn ?_ ?_ <;> intro hb)
 | (refine rSPLnb ?_ ?_ <;> intro hb)
 | (refine rSPLb ?_ ?_ <;> intro hb)
 | (exfalso; omega))
      have hset1 : ∀ w, (row.map I).set yn (I w) = (row.set yn w).map I := fun w => by rw [List.map_set]
      rw [hset1]
      have ho4 := ho3.put hrow g1 g3 (r' := row.set yn (w64 (e + (2 * z - 1)))) (by simp)
      have h2' := sq_set h2 hrow (r' := row.set yn (w64 (e + (2 * z - 1)))) (by simp)
      have h1' : (t.set xn (row.set yn (w64 (e + (2 * z - 1))))).length = n := by simpa using h1
      have hA4 := hA3'.put g4 gj (ifrees_map (row.set yn (w64 (e + (2 * z - 1)))))
      refine ACalls.mono (sgFrom_own (ho4.is h1') (by omega) h2') ?_
      rintro r5 H5 ⟨h5, hF5⟩
      refine ACalls.mono (sgGood_own h5 (by rw [fromT_len]; omega) (fun r hr => by rw [sq_len (fromT_sq _) hr, fromT_len]; omega)) ?_
      rintro r6 H6 ⟨rfl, rfl⟩
      have ho5 := ho4.frame (H' := H6) fun j _ hj => hF5.old j hj
      have hA5 := hA4.fresh hF5
      repeat' (with_reducible first
 | refine rTT ?_
 | refine rRFL ?_
 | refine rLEN (by assumption) ?_
 | (refine rIXk (by assumption) (by assumption) ?_; intro p hp)
 | (refine rIX (by assumption) (by omega) (by omega) ?_; intro p a ha hp)
 | refine rLDi (by assumption) ?_
 | (refine rLD (by assumption) ?_; intro c hc)
 | refine rADD (by omega) ?_
 | refine rSUB (by omega) ?_
 | refine rLSS ?_
 | refine rLEQ ?_
 | refine rGTR ?_
 | refine rGEQ ?_
 | refine rEQL ?_
 | refine rNEQ ?_
 | refine rNOT ?_
 | (refine rBRK ?_ ?_ <;> intro hb)
 | (refine rBRKn ?_ ?_ <;> intro hb)
 | (refine rBRKnb ?_ ?_ <;> intro hb)
 | (refine rBRKb ?_ ?_ <;> intro hb)
 | (refine rSPL ?_ ?_ <;> intro hb)
 | (refine rSPLn ?_ ?_ <;> intro hb)
 | (refine rSPLnb ?_ ?_ <;> intro hb)
 | (refine rSPLb ?_ ?_ <;> intro hb)
 | (exfalso; omega))
      · have hrow' : (t.set xn (row.set yn (w64 (e + (2 * z - 1)))))[xn]? = some (row.set yn (w64 (e + (2 * z - 1)))) := List.getElem?_set_self (List.getElem?_eq_some_iff.1 hrow).1
        obtain ⟨kj', gj', q1, q2, q3, q4, q5⟩ := ho5.get hrow'
        refine rIXo (by omega) ?_
        repeat' (with_reducible first
 | refine rTT ?_
 | refine rRFL ?_
 | refine rLEN (by assumption) ?_
 | (refine rIXk (by assumption) (by assumption) ?_; intro p hp)
 | (refine rIX (by assumption) (by omega) (by omega) ?_; intro p a ha hp)
 | refine rLDi (by assumption) ?_
 | (refine rLD (by assumption) ?_; intro c hc)
 | refine rADD (by omega) ?_
 | refine rSUB (by omega) ?_
 | refine rLSS ?_
 | refine rLEQ ?_
 | refine rGTR ?_
 | refine rGEQ ?_
 | refine rEQL ?_
 | refine rNEQ ?_
 | refine rNOT ?_
 | (refine rBRK ?_ ?_ <;> intro hb)
 | (refine rBRKn ?_ ?_ <;> intro hb)
 | (refine rBRKnb ?_ ?_ <;> intro hb)
 | (refine rBRKb ?_ ?_ <;> intro hb)
 | (refine rSPL ?_ ?_ <;> intro hb)
 | (refine rSPLn ?_ ?_ <;> intro hb)
 | (refine rSPLnb ?_ ?_ <;> intro hb)
 | (refine rSPLb ?_ ?_ <;> intro hb)
 | (exfalso; omega))
        refine rLDf ho5.top q2 ?_
        repeat' (with_reducible first
 | refine rTT ?_
 | refine rRFL ?_
 | refine rLEN (by assumption) ?_
 | (refine rIXk (by assumption) (by assumption) ?_; intro p hp)
 | (refine rIX (by assumption) (by omega) (by omega) ?_; intro p a ha hp)
 | refine rLDi (by assumption) ?_
 | (refine rLD (by assumption) ?_; intro c hc)
 | refine rADD (by omega) ?_
 | refine rSUB (by omega) ?_
 | refine rLSS ?_
 | refine rLEQ ?_
 | refine rGTR ?_
 | refine rGEQ ?_
 | refine rEQL ?_
 | refine rNEQ ?_
 | refine rNOT ?_
 | (refine rBRK ?_ ?_ <;> intro hb)
 | (refine rBRKn ?_ ?_ <;> intro hb)
 | (refine rBRKnb ?_ ?_ <;> intro hb)
 | (refine rBRKb ?_ ?_ <;> intro hb)
 | (refine rSPL ?_ ?_ <;> intro hb)
 | (refine rSPLn ?_ ?_ <;> intro hb)
 | (refine rSPLnb ?_ ?_ <;> intro hb)
 | (refine rSPLb ?_ ?_ <;> intro hb)
 | (exfalso; omega))
        refine rIXo (by simp; omega) ?_
        repeat' (with_reducible first
 | refine rTT ?_
 | refine rRFL ?_
 | refine rLEN (by assumption) ?_
 | (refine rIXk (by assumption) (by assumption) ?_; intro p hp)
 | (refine rIX (by assumption) (by omega) (by omega) ?_; intro p a ha hp)
 | refine rLDi (by assumption) ?_
 | (refine rLD (by assumption) ?_; intro c hc)
 | refine rADD (by omega) ?_
 | refine rSUB (by omega) ?_
 | refine rLSS ?_
 | refine rLEQ ?_
 | refine rGTR ?_
 | refine rGEQ ?_
 | refine rEQL ?_
 | refine rNEQ ?_
 | refine rNOT ?_
 | (refine rBRK ?_ ?_ <;> intro hb)
 | (refine rBRKn ?_ ?_ <;> intro hb)
 | (refine rBRKnb ?_ ?_ <;> intro hb)
 | (refine rBRKb ?_ ?_ <;> intro hb)
 | (refine rSPL ?_ ?_ <;> intro hb)
 | (refine rSPLn ?_ ?_ <;> intro hb)
 | (refine rSPLnb ?_ ?_ <;> intro hb)
 | (refine rSPLb ?_ ?_ <;> intro hb)
 | (exfalso; omega))
        refine rLDf q3 (by rw [List.getElem?_map, List.getElem?_set_self (by omega)]; rfl) ?_
        refine rSUBw ?_
        repeat' (with_reducible first
 | refine rTT ?_
 | refine rRFL ?_
 | refine rLEN (by assumption) ?_
 | (refine rIXk (by assumption) (by assumption) ?_; intro p hp)
 | (refine rIX (by assumption) (by omega) (by omega) ?_; intro p a ha hp)
 | refine rLDi (by assumption) ?_
 | (refine rLD (by assumption) ?_; intro c hc)
 | refine rADD (by omega) ?_
 | refine rSUB (by omega) ?_
 | refine rLSS ?_
 | refine rLEQ ?_
 | refine rGTR ?_
 | refine rGEQ ?_
 | refine rEQL ?_
 | refine rNEQ ?_
 | refine rNOT ?_
 | (refine rBRK ?_ ?_ <;> intro hb)
 | (refine rBRKn ?_ ?_ <;> intro hb)
 | (refine rBRKnb ?_ ?_ <;> intro hb)
 | (refine rBRKb ?_ ?_ <;> intro hb)
 | (refine rSPL ?_ ?_ <;> intro hb)
 | (refine rSPLn ?_ ?_ <;> intro hb)
 | (refine rSPLnb ?_ ?_ <;> intro hb)
 | (refine rSPLb ?_ ?_ <;> intro hb)
 | (exfalso; omega))
        refine rIXo (by simp; omega) ?_
        repeat' (with_reducible first
 | refine rTT ?_
 | refine rRFL ?_
 | refine rLEN (by assumption) ?_
 | (refine rIXk (by assumption) (by assumption) ?_; intro p hp)
 | (refine rIX (by assumption) (by omega) (by omega) ?_; intro p a ha hp)
 | refine rLDi (by assumption) ?_
 | (refine rLD (by assumption) ?_; intro c hc)
 | refine rADD (by omega) ?_
 | refine rSUB (by omega) ?_
 | refine rLSS ?_
 | refine rLEQ ?_
 | refine rGTR ?_
 | refine rGEQ ?_
 | refine rEQL ?_
 | refine rNEQ ?_
 | refine rNOT ?_
 | (refine rBRK ?_ ?_ <;> intro hb)
 | (refine rBRKn ?_ ?_ <;> intro hb)
 | (refine rBRKnb ?_ ?_ <;> intro hb)
 | (refine rBRKb ?_ ?_ <;> intro hb)
 | (refine rSPL ?_ ?_ <;> intro hb)
 | (refine rSPLn ?_ ?_ <;> intro hb)
 | (refine rSPLnb ?_ ?_ <;> intro hb)
 | (refine rSPLb ?_ ?_ <;> intro hb)
 | (exfalso; omega))
        refine rSTp q3 (by simp; omega) rfl ?_
        repeat' (with_reducible first
 | refine rTT ?_
 | refine rRFL ?_
 | refine rLEN (by assumption) ?_
 | (refine rIXk (by assumption) (by assumption) ?_; intro p hp)
 | (refine rIX (by assumption) (by omega) (by omega) ?_; intro p a ha hp)
 | refine rLDi (by assumption) ?_
 | (refine rLD (by assumption) ?_; intro c hc)
 | refine rADD (by omega) ?_
 | refine rSUB (by omega) ?_
 | refine rLSS ?_
 | refine rLEQ ?_
 | refine rGTR ?_
 | refine rGEQ ?_
 | refine rEQL ?_
 | refine rNEQ ?_
 | refine rNOT ?_
 | (refine rBRK ?_ ?_ <;> intro hb)
 | (refine rBRKn ?_ ?_ <;> intro hb)
 | (refine rBRKnb ?_ ?_ <;> intro hb)
 | (refine rBRKb ?_ ?_ <;> intro hb)
 | (refine rSPL ?_ ?_ <;> intro hb)
 | (refine rSPLn ?_ ?_ <;> intro hb)
 | (refine rSPLnb ?_ ?_ <;> intro hb)
 | (refine rSPLb ?_ ?_ <;> intro hb)
 | (exfalso; omega))
        have hset2 : ∀ (l : List Int) w, (l.map I).set yn (I w) = (l.set yn w).map I := fun l w => by rw [List.map_set]
        rw [hset2]
        refine ih (kk - 1) (B + 2 + 2 + 2) _ _ (by omega) (by omega) (by omega) ?_ (sq_set h2' hrow' (by simp)) (ho5.put hrow' q1 q3 (by simp)) (hA5.put q4 _ (ifrees_map _))
        simpa using h1
      · exact ih (kk - 1) (B + 2 + 2 + 2) _ _ (by omega) (by omega) (by omega) h1' h2' ho5 hA5
    · exact sure_end hn h1 h2 ho hA (by omega)
    · exact sure_end hn h1 h2 ho hA (by omega)

theorem zeros_sq (n : Nat) : isSquareB (zeros n) = true := by
  simp only [isSquareB, List.all_eq_true, decide_eq_true_eq]
  intro r hr
  simp only [zeros, List.mem_replicate] at hr
  rw [hr.2]; simp [zeros]
theorem sure_ok {A : Int} {H : Heap} {i g n : Nat} (h : Cur A H i g) (hA : A ≤ 10000000) (h1 : 1 ≤ n) (hn : n ≤ 6) : ACalls Try.prog 101 [.ptr i g 0, I n] H (Sure (A + 1000) n i g H) := by
  apply spec_l1Cur_sure.start
  unfold spec_l1Cur_sure.start_vc
  refine ACalls.mono (sgZero_ok (by omega)) ?_
  rintro r H1 ⟨h2, h3⟩
  rcases h2 with ⟨_, ht⟩ | ⟨k, g', rows, ks, rfl, ho⟩
  · have := congrArg List.length ht
    simp [zeros] at this; omega
  · have hz : (zeros n).length = n := by simp [zeros]
    rw [hz]
    show LENK (.own k g' 1 0 n) _
    show spec_l1Cur_sure.L3 _ _ _ _ (I n) _ _
    refine sure_fill (A := A) hn (fun t H2 g1 g2 g3 g4 => ?_) n 0 (zeros n) H1 (by omega) hz (zeros_sq n) ho ((After.refl h).fresh h3)
    apply spec_l1Cur_sure.step3
    unfold spec_l1Cur_sure.step3_vc
    repeat' (with_reducible first
 | refine rTT ?_
 | refine rRFL ?_
 | refine rLEN (by assumption) ?_
 | (refine rIXk (by assumption) (by assumption) ?_; intro p hp)
 | (refine rIX (by assumption) (by omega) (by omega) ?_; intro p a ha hp)
 | refine rLDi (by assumption) ?_
 | (refine rLD (by assumption) ?_; intro c hc)
 | refine rADD (by omega) ?_
 | refine rSUB (by omega) ?_
 | refine rLSS ?_
 | refine rLEQ ?_
 | refine rGTR ?_
 | refine rGEQ ?_
 | refine rEQL ?_
 | refine rNEQ ?_
 | refine rNOT ?_
 | (refine rBRK ?_ ?_ <;> intro hb)
 | (refine rBRKn ?_ ?_ <;> intro hb)
 | (refine rBRKnb ?_ ?_ <;> intro hb)
 | (refine rBRKb ?_ ?_ <;> intro hb)
 | (refine rSPL ?_ ?_ <;> intro hb)
 | (refine rSPLn ?_ ?_ <;> intro hb)
 | (refine rSPLnb ?_ ?_ <;> intro hb)
 | (refine rSPLb ?_ ?_ <;> intro hb)
 | (exfalso; omega))
    refine rMUL (by omega) ?_
    have hnn : (3 * (n : Int)) * n ≤ 108 := by
      have : n = 1 ∨ n = 2 ∨ n = 3 ∨ n = 4 ∨ n = 5 ∨ n = 6 := by omega
      rcases this with rfl | rfl | rfl | rfl | rfl | rfl <;> decide
    have hnp : 0 ≤ (3 * (n : Int)) * n := Int.mul_nonneg (by omega) (by omega)
    refine rMUL (by omega) ?_
    refine ACalls.mono (pick_ok g4.cur (by omega) (by omega)) ?_
    intro r1 H3 hd
    obtain ⟨x, rfl, hx0, hx1, hA1', hf1, hl1⟩ := g4.draw hd
    have hlt := g4.lt
    refine sure_loop (by omega) hn 108 x (A + 2) t H3 (by omega) (by omega) (by omega) g1 g2 (g3.frame fun j hj _ => hf1 j (by omega)) hA1'

end Go.Proofs.Ytccioplhchmilaa.AL

set_option linter.unusedVariables false
set_option maxRecDepth 100000
namespace Go.Proofs.Ytccioplhchmilaa.AL
open Go Go.Proofs

/-! (*spec.l1Cur).signs (slots: 0 c, 1 most, 2 c, 3 most, 5 n, 6 m) -/
namespace spec_l1Cur_signs
def lv : List (Nat × List Nat) := []
def start_vc (Q : AVal → Heap → Prop) (a0 a1 : AVal) (H : Heap) : Prop :=
 ACalls Try.prog 68 [a0, a1] H fun x1 H2 =>
 BINK .add (AVal.int .i64 1) x1 fun x3 =>
 ACalls Try.prog 101 [a0, x3] H2 fun x4 H5 =>
 ACalls Try.prog 68 [a0, (AVal.int .i64 20)] H5 fun x6 H7 =>
 BINK .eql x6 (AVal.int .i64 0) fun x8 =>
 BRK x8 (TT ∧ TT ∧ TT ∧ TT ∧ allCells 1 [(AVal.int .i64 (-2)), (AVal.int .i64 (-1)), (AVal.int .i64 0), (AVal.int .i64 1), (AVal.int .i64 2), (AVal.int .i64 4611686018427387904)] fun c9 =>
 ACalls Try.prog 68 [a0, x3] H7 fun x10 H11 =>
 TT ∧ IXK 1 x4 x10 fun x12 =>
 TT ∧ TT ∧ LDK false 1 H11 x12 fun x13 =>
 ACalls Try.prog 68 [a0, x3] H11 fun x14 H15 =>
 (TT ∧ TT ∧ LDK false 1 H15 x12 fun x16 =>
 x16 = x13) ∧
 ACalls Try.prog 50 [a0, (AVal.sl true 6 c9)] H15 fun x17 H18 =>
 (TT ∧ TT ∧ LDK false 1 H18 x12 fun x19 =>
 x19 = x13) ∧
 TT ∧ IXK 1 x13 x14 fun x20 =>
 TT ∧ STK 1 H18 x20 x17 fun H21 =>
 Q x4 H21) (BINK .eql x6 (AVal.int .i64 1) fun x22 =>
 BRK x22 (((Go.Operand.tmp 34) = (Go.Operand.tmp 34)) ∧ TT ∧ MKK 1 (AVal.int .i64 0) x3 H7 fun x23 H24 =>
 TT ∧ TT ∧ TT ∧ BSK 1 [x23] H24 fun x25 H26 =>
 TT ∧ TT ∧ APK 1 H26 x4 x25 fun x27 H28 =>
 Q x27 H28) (BINK .eql x6 (AVal.int .i64 2) fun x29 =>
 BRK x29 (TT ∧ IXK 1 x4 (AVal.int .i64 0) fun x30 =>
 TT ∧ TT ∧ LDK false 1 H7 x30 fun x31 =>
 TT ∧ TT ∧ TT ∧ BSK 1 [(AVal.int .i64 0)] H7 fun x32 H33 =>
 TT ∧ TT ∧ APK 1 H33 x31 x32 fun x34 H35 =>
 TT ∧ IXK 1 x4 (AVal.int .i64 0) fun x36 =>
 TT ∧ STK 1 H35 x36 x34 fun H37 =>
 Q x4 H37) (BINK .eql x6 (AVal.int .i64 3) fun x38 =>
 BRK x38 (ACalls Try.prog 101 [a0, (AVal.int .i64 6)] H7 fun x39 H40 =>
 ACalls Try.prog 70 [a0, (AVal.int .i64 2)] H40 fun x41 H42 =>
 BRK x41 (Q AVal.nilS H42) (Q x39 H42)) (Q x4 H7))))
theorem start_eq (Q : AVal → Heap → Prop) (a0 a1 : AVal) (H : Heap) : vs Try.prog lv 49 54 Try.f49.results.toList Q true 1000 [.sq (bodyOf Try.f49)] (entry [a0, a1]) H = start_vc Q a0 a1 H := by kernel_rfl
theorem start {Q : AVal → Heap → Prop} {a0 a1 : AVal} {H : Heap} (h : start_vc Q a0 a1 H) : ACalls Try.prog 49 [a0, a1] H Q := acalls_vs (lv := lv) mixed Try.func49 rfl (by kernel_rfl) (by kernel_rfl) (start_eq Q a0 a1 H ▸ h)
end spec_l1Cur_signs

/-! spec.DrawIsSignMatrix (slots: 0 code, 1 code, 3 c) -/
namespace spec_DrawIsSignMatrix
def lv : List (Nat × List Nat) := []
def start_vc (Q : AVal → Heap → Prop) (a0 : AVal) (H : Heap) : Prop :=
 TT ∧ BLDK [AVal.nilS, (AVal.int .i64 0), (AVal.int .u64 0)] [((0, 1), a0)] fun x1 =>
 BOXK x1 H fun x2 H3 =>
 ACalls Try.prog 49 [x2, (AVal.int .i64 5)] H3 fun x4 H5 =>
 Q x4 H5
theorem start_eq (Q : AVal → Heap → Prop) (a0 : AVal) (H : Heap) : vs Try.prog lv 75 9 Try.f75.results.toList Q true 1000 [.sq (bodyOf Try.f75)] (entry [a0]) H = start_vc Q a0 H := by kernel_rfl
theorem start {Q : AVal → Heap → Prop} {a0 : AVal} {H : Heap} (h : start_vc Q a0 H) : ACalls Try.prog 75 [a0] H Q := acalls_vs (lv := lv) mixed Try.func75 rfl (by kernel_rfl) (by kernel_rfl) (start_eq Q a0 H ▸ h)
end spec_DrawIsSignMatrix


/-- A row is replaced by another one in the same block, that stands elsewhere now. -/
theorem OTab.regrow {lo : Nat} {H : Heap} {k g : Nat} {rows : List AVal} {ks : List Nat} {t : List (List Int)} (h : OTab lo H k g rows ks t) {j : Nat} {r : List Int} (hj : t[j]? = some r) {kj : Nat} (hkj : ks[j]? = some kj) (r' : List Int) (g' : Nat) :
    OTab lo (hset (hset H kj g' (r'.map I)) k g (rows.set j (.own kj g' 1 0 r'.length))) k g (rows.set j (.own kj g' 1 0 r'.length)) ks (t.set j r') := by
  have hne : kj ≠ k := fun e => (List.nodup_cons.1 h.nd).1 (e ▸ List.mem_of_getElem? hkj)
  have hjl := (List.getElem?_eq_some_iff.1 hj).1
  obtain ⟨gj0, h3, h4, h5⟩ := h.row j r kj hj hkj
  have hkl := hlt_of_get h4
  refine ⟨hget_set _ _ (by rw [hlen_set]; exact hlt_of_get h.top), h.lok, by simp [h.len], by simp [h.kln], h.nd, fun i s ki h1 h2 => ?_⟩
  by_cases hij : j = i
  · subst hij
    rw [List.getElem?_set_self hjl] at h1
    cases h1
    rw [hkj] at h2; cases h2
    exact ⟨g', List.getElem?_set_self (by rw [h.len]; exact hjl), by rw [hget_set_ne _ _ hne.symm]; exact hget_set _ _ hkl, h5⟩
  · rw [List.getElem?_set_ne hij] at h1
    obtain ⟨gi, h6, h7, h8⟩ := h.row i s ki h1 h2
    refine ⟨gi, by rw [List.getElem?_set_ne hij]; exact h6, ?_, h8⟩
    have hk2 : k ≠ ki := fun e => (List.nodup_cons.1 h.nd).1 (e ▸ List.mem_of_getElem? h2)
    have hk3 : kj ≠ ki := fun e => hij ((List.getElem?_inj (List.getElem?_eq_some_iff.1 hkj).1 (List.nodup_cons.1 h.nd).2).1 (hkj.trans (e ▸ h2.symm)))
    rw [hget_set_ne _ _ hk2, hget_set_ne _ _ hk3]; exact h7

/-- A drawn table. -/
def Table (A : Int) (i g : Nat) (H0 : Heap) (r : AVal) (H : Heap) : Prop := ∃ t, IsOTab H0.length H r t ∧ t.length ≤ 7 ∧ (∀ r ∈ t, r.length ≤ 7) ∧ After A i g H0 H
theorem Sure.table {A B : Int} {n i g : Nat} {H0 H : Heap} {r : AVal} (h : Sure A n i g H0 r H) (hn : n ≤ 6) (hab : A ≤ B) : Table B i g H0 r H := by
  obtain ⟨t, h1, h2, h3, h4⟩ := h
  exact ⟨t, h1, by omega, fun r hr => by rw [sq_len h3 hr]; omega, h4.le hab⟩

theorem signs_ok {A most : Int} {H : Heap} {i g : Nat} (h : Cur A H i g) (hA : A ≤ 1000000) (h1 : 1 ≤ most) (hm : most ≤ 6) : ACalls Try.prog 49 [.ptr i g 0, I most] H (Table (A + 3000) i g H) := by
  have hlt := h.lt
  apply spec_l1Cur_signs.start
  unfold spec_l1Cur_signs.start_vc
  refine ACalls.mono (pick_ok h (by omega) (by omega)) ?_
  intro r1 H1 hd1
  obtain ⟨x, rfl, hx0, hx1, hA1, hf1, hl1⟩ := (After.refl h).draw hd1
  repeat' (with_reducible first
 | refine rTT ?_
 | refine rRFL ?_
 | refine rLEN (by assumption) ?_
 | (refine rIXk (by assumption) (by assumption) ?_; intro p hp)
 | (refine rIX (by assumption) (by omega) (by omega) ?_; intro p a ha hp)
 | refine rLDi (by assumption) ?_
 | (refine rLD (by assumption) ?_; intro c hc)
 | refine rADD (by omega) ?_
 | refine rSUB (by omega) ?_
 | refine rLSS ?_
 | refine rLEQ ?_
 | refine rGTR ?_
 | refine rGEQ ?_
 | refine rEQL ?_
 | refine rNEQ ?_
 | refine rNOT ?_
 | (refine rBRK ?_ ?_ <;> intro hb)
 | (refine rBRKn ?_ ?_ <;> intro hb)
 | (refine rBRKnb ?_ ?_ <;> intro hb)
 | (refine rBRKb ?_ ?_ <;> intro hb)
 | (refine rSPL ?_ ?_ <;> intro hb)
 | (refine rSPLn ?_ ?_ <;> intro hb)
 | (refine rSPLnb ?_ ?_ <;> intro hb)
 | (refine rSPLb ?_ ?_ <;> intro hb)
 | (exfalso; omega))
  obtain ⟨n, hn⟩ : ∃ n : Nat, 1 + x = n := ⟨(1 + x).toNat, by omega⟩
  rw [hn]
  refine ACalls.mono (sure_ok hA1.cur (by omega) (by omega) (by omega)) ?_
  rintro r2 H2 ⟨t, ht1, ht2, ht3, ht4⟩
  have hA2 := hA1.trans ht4
  have ht1 := ht1.lo hA1.len
  refine ACalls.mono (pick_ok hA2.cur (by omega) (by omega)) ?_
  intro r3 H3 hd3
  obtain ⟨y, rfl, hy0, hy1, hA3, hf3, hl3⟩ := hA2.draw hd3
  have ht1 := ht1.frame (H' := H3) fun j hj _ => hf3 j (by omega)
  rcases ht1 with ⟨_, ht⟩ | ⟨k, gk, rows, ks, rfl, ho⟩
  · rw [ht] at ht2; simp at ht2; omega
  have rl : ∀ r ∈ t, r.length = n := fun r hr => by rw [sq_len ht3 hr, ht2]
  repeat' (with_reducible first
 | refine rTT ?_
 | refine rRFL ?_
 | refine rLEN (by assumption) ?_
 | (refine rIXk (by assumption) (by assumption) ?_; intro p hp)
 | (refine rIX (by assumption) (by omega) (by omega) ?_; intro p a ha hp)
 | refine rLDi (by assumption) ?_
 | (refine rLD (by assumption) ?_; intro c hc)
 | refine rADD (by omega) ?_
 | refine rSUB (by omega) ?_
 | refine rLSS ?_
 | refine rLEQ ?_
 | refine rGTR ?_
 | refine rGEQ ?_
 | refine rEQL ?_
 | refine rNEQ ?_
 | refine rNOT ?_
 | (refine rBRK ?_ ?_ <;> intro hb)
 | (refine rBRKn ?_ ?_ <;> intro hb)
 | (refine rBRKnb ?_ ?_ <;> intro hb)
 | (refine rBRKb ?_ ?_ <;> intro hb)
 | (refine rSPL ?_ ?_ <;> intro hb)
 | (refine rSPLn ?_ ?_ <;> intro hb)
 | (refine rSPLnb ?_ ?_ <;> intro hb)
 | (refine rSPLb ?_ ?_ <;> intro hb)
 | (exfalso; omega))
  · -- a number is written
    refine ⟨rfl, rfl, rfl, rfl, rfl, rfl, rfl, rfl, rfl, rfl, rfl, rfl, ?_⟩
    refine ACalls.mono (pick_ok hA3.cur (by omega) (by omega)) ?_
    intro r4 H4 hd4
    obtain ⟨a, rfl, ha0, ha1, hA4, hf4, hl4⟩ := hA3.draw hd4
    have ho4 := ho.frame (H' := H4) fun j hj _ => hf4 j (by omega)
    obtain ⟨an, rfl⟩ : ∃ an : Nat, a = an := ⟨a.toNat, by omega⟩
    obtain ⟨row, hrow⟩ := ex_get (l := t) (k := an) (by omega)
    have hrl := rl _ (List.mem_of_getElem? hrow)
    obtain ⟨kj, gj, g1, g2, g3, g4, g5⟩ := ho4.get hrow
    repeat' (with_reducible first
 | refine rTT ?_
 | refine rRFL ?_
 | refine rLEN (by assumption) ?_
 | (refine rIXk (by assumption) (by assumption) ?_; intro p hp)
 | (refine rIX (by assumption) (by omega) (by omega) ?_; intro p a ha hp)
 | refine rLDi (by assumption) ?_
 | (refine rLD (by assumption) ?_; intro c hc)
 | refine rADD (by omega) ?_
 | refine rSUB (by omega) ?_
 | refine rLSS ?_
 | refine rLEQ ?_
 | refine rGTR ?_
 | refine rGEQ ?_
 | refine rEQL ?_
 | refine rNEQ ?_
 | refine rNOT ?_
 | (refine rBRK ?_ ?_ <;> intro hb)
 | (refine rBRKn ?_ ?_ <;> intro hb)
 | (refine rBRKnb ?_ ?_ <;> intro hb)
 | (refine rBRKb ?_ ?_ <;> intro hb)
 | (refine rSPL ?_ ?_ <;> intro hb)
 | (refine rSPLn ?_ ?_ <;> intro hb)
 | (refine rSPLnb ?_ ?_ <;> intro hb)
 | (refine rSPLb ?_ ?_ <;> intro hb)
 | (exfalso; omega))
    refine rIXo (by omega) ?_
    repeat' (with_reducible first
 | refine rTT ?_
 | refine rRFL ?_
 | refine rLEN (by assumption) ?_
 | (refine rIXk (by assumption) (by assumption) ?_; intro p hp)
 | (refine rIX (by assumption) (by omega) (by omega) ?_; intro p a ha hp)
 | refine rLDi (by assumption) ?_
 | (refine rLD (by assumption) ?_; intro c hc)
 | refine rADD (by omega) ?_
 | refine rSUB (by omega) ?_
 | refine rLSS ?_
 | refine rLEQ ?_
 | refine rGTR ?_
 | refine rGEQ ?_
 | refine rEQL ?_
 | refine rNEQ ?_
 | refine rNOT ?_
 | (refine rBRK ?_ ?_ <;> intro hb)
 | (refine rBRKn ?_ ?_ <;> intro hb)
 | (refine rBRKnb ?_ ?_ <;> intro hb)
 | (refine rBRKb ?_ ?_ <;> intro hb)
 | (refine rSPL ?_ ?_ <;> intro hb)
 | (refine rSPLn ?_ ?_ <;> intro hb)
 | (refine rSPLnb ?_ ?_ <;> intro hb)
 | (refine rSPLb ?_ ?_ <;> intro hb)
 | (exfalso; omega))
    refine rLDf ho4.top g2 ?_
    refine ACalls.mono (pick_ok hA4.cur (by omega) (by omega)) ?_
    intro r5 H5 hd5
    obtain ⟨b, rfl, hb0, hb1, hA5, hf5, hl5⟩ := hA4.draw hd5
    have ho5 := ho4.frame (H' := H5) fun j hj _ => hf5 j (by omega)
    refine ⟨⟨rfl, rfl, rLDf ho5.top g2 rfl⟩, ?_⟩
    refine ACalls.mono (among_ok (l := [-2, -1, 0, 1, 2, 4611686018427387904]) hA5.cur (by omega) (by have := isInts_map true [(-2 : Int), -1, 0, 1, 2, 4611686018427387904]; exact this) (by decide) (by decide)) ?_
    rintro r6 H6 ⟨c, cs, rfl, hc, rfl, hc6⟩
    have hA6 := hA5.set hc6
    have ho6 := ho5.frame (H' := hset H5 i g cs) fun j hj _ => hget_set_ne _ _ (by omega)
    refine ⟨⟨rfl, rfl, rLDf ho6.top g2 rfl⟩, ?_⟩
    obtain ⟨bn, rfl⟩ : ∃ bn : Nat, b = bn := ⟨b.toNat, by omega⟩
    have g3' : hget (hset H5 i g cs) kj = some (gj, row.map I) := by
      obtain ⟨gj', q1, q2, _⟩ := ho6.row an row kj hrow g1
      rw [g2] at q1; cases q1; exact q2
    repeat' (with_reducible first
 | refine rTT ?_
 | refine rRFL ?_
 | refine rLEN (by assumption) ?_
 | (refine rIXk (by assumption) (by assumption) ?_; intro p hp)
 | (refine rIX (by assumption) (by omega) (by omega) ?_; intro p a ha hp)
 | refine rLDi (by assumption) ?_
 | (refine rLD (by assumption) ?_; intro c hc)
 | refine rADD (by omega) ?_
 | refine rSUB (by omega) ?_
 | refine rLSS ?_
 | refine rLEQ ?_
 | refine rGTR ?_
 | refine rGEQ ?_
 | refine rEQL ?_
 | refine rNEQ ?_
 | refine rNOT ?_
 | (refine rBRK ?_ ?_ <;> intro hb)
 | (refine rBRKn ?_ ?_ <;> intro hb)
 | (refine rBRKnb ?_ ?_ <;> intro hb)
 | (refine rBRKb ?_ ?_ <;> intro hb)
 | (refine rSPL ?_ ?_ <;> intro hb)
 | (refine rSPLn ?_ ?_ <;> intro hb)
 | (refine rSPLnb ?_ ?_ <;> intro hb)
 | (refine rSPLb ?_ ?_ <;> intro hb)
 | (exfalso; omega))
    refine rIXo (by omega) ?_
    repeat' (with_reducible first
 | refine rTT ?_
 | refine rRFL ?_
 | refine rLEN (by assumption) ?_
 | (refine rIXk (by assumption) (by assumption) ?_; intro p hp)
 | (refine rIX (by assumption) (by omega) (by omega) ?_; intro p a ha hp)
 | refine rLDi (by assumption) ?_
 | (refine rLD (by assumption) ?_; intro c hc)
 | refine rADD (by omega) ?_
 | refine rSUB (by omega) ?_
 | refine rLSS ?_
 | refine rLEQ ?_
 | refine rGTR ?_
 | refine rGEQ ?_
 | refine rEQL ?_
 | refine rNEQ ?_
 | refine rNOT ?_
 | (refine rBRK ?_ ?_ <;> intro hb)
 | (refine rBRKn ?_ ?_ <;> intro hb)
 | (refine rBRKnb ?_ ?_ <;> intro hb)
 | (refine rBRKb ?_ ?_ <;> intro hb)
 | (refine rSPL ?_ ?_ <;> intro hb)
 | (refine rSPLn ?_ ?_ <;> intro hb)
 | (refine rSPLnb ?_ ?_ <;> intro hb)
 | (refine rSPLb ?_ ?_ <;> intro hb)
 | (exfalso; omega))
    refine rSTp g3' (by simp; omega) rfl ?_
    have hset1 : (row.map I).set bn (I c) = (row.set bn c).map I := by rw [List.map_set]
    rw [hset1]
    refine ⟨t.set an (row.set bn c), (ho6.put hrow g1 g3' (by simp)).is (by simp), by simp; omega, ?_, (hA6.put g4 _ (ifrees_map _)).le (by omega)⟩
    intro s hs
    rcases List.mem_or_eq_of_mem_set hs with h | rfl
    · rw [rl s h]; omega
    · simp; omega
  · -- one more row
    refine rMKI (by omega) (by omega) fun g' => ?_
    rw [Int.toNat_natCast]
    refine ⟨rfl, rfl, rfl, rLIT1 rfl ⟨rfl, rfl, ?_⟩⟩
    have hF1 := hA3.fresh (fresh_new H3 g' (ifrees_map (List.replicate n 0)))
    have hl : n = (List.replicate n (0 : Int)).length := by simp
    have := ((ho.is (n := t.length) rfl).new g' ((List.replicate n 0).map I)).snoc (gr := g') (r := List.replicate n 0) (hget_new _ _ _) hA3.len (by omega) hF1.len (b := true)
      (K := fun x27 H28 => Table (A + 3000) i g H x27 H28) (fun v' H' q1 q2 => ?_)
    · rw [← hl] at this; exact this
    · refine ⟨_, q1, by simp; omega, ?_, (hF1.chg (Nat.le_refl _) q2).le (by omega)⟩
      intro s hs
      rcases List.mem_append.1 hs with hs | hs
      · rw [rl s hs]; omega
      · have hs' : s = List.replicate n 0 := by simpa using hs
        rw [hs']; simp; omega
  · -- a longer row
    obtain ⟨row, hrow⟩ := ex_get (l := t) (k := 0) (by omega)
    have hrl := rl _ (List.mem_of_getElem? hrow)
    obtain ⟨kj, gj, g1, g2, g3, g4, g5⟩ := ho.get hrow
    refine rIXo (i := 0) (by omega) ?_
    repeat' (with_reducible first
 | refine rTT ?_
 | refine rRFL ?_
 | refine rLEN (by assumption) ?_
 | (refine rIXk (by assumption) (by assumption) ?_; intro p hp)
 | (refine rIX (by assumption) (by omega) (by omega) ?_; intro p a ha hp)
 | refine rLDi (by assumption) ?_
 | (refine rLD (by assumption) ?_; intro c hc)
 | refine rADD (by omega) ?_
 | refine rSUB (by omega) ?_
 | refine rLSS ?_
 | refine rLEQ ?_
 | refine rGTR ?_
 | refine rGEQ ?_
 | refine rEQL ?_
 | refine rNEQ ?_
 | refine rNOT ?_
 | (refine rBRK ?_ ?_ <;> intro hb)
 | (refine rBRKn ?_ ?_ <;> intro hb)
 | (refine rBRKnb ?_ ?_ <;> intro hb)
 | (refine rBRKb ?_ ?_ <;> intro hb)
 | (refine rSPL ?_ ?_ <;> intro hb)
 | (refine rSPLn ?_ ?_ <;> intro hb)
 | (refine rSPLnb ?_ ?_ <;> intro hb)
 | (refine rSPLb ?_ ?_ <;> intro hb)
 | (exfalso; omega))
    refine rLDf ho.top g2 ?_
    refine ⟨rfl, rfl, rfl, rLIT1 rfl ⟨rfl, rfl, ?_⟩⟩
    unfold APK elemsOf
    refine ⟨rfl, rfl, rfl, by omega, row.map I, g3, by simp, fun g' => ?_⟩
    have htk : (row.map I).take (row.length * 1) ++ [I 0] = (row ++ [0]).map I := by
      rw [List.take_of_length_le (by simp)]; simp
    rw [htk]
    repeat' (with_reducible first
 | refine rTT ?_
 | refine rRFL ?_
 | refine rLEN (by assumption) ?_
 | (refine rIXk (by assumption) (by assumption) ?_; intro p hp)
 | (refine rIX (by assumption) (by omega) (by omega) ?_; intro p a ha hp)
 | refine rLDi (by assumption) ?_
 | (refine rLD (by assumption) ?_; intro c hc)
 | refine rADD (by omega) ?_
 | refine rSUB (by omega) ?_
 | refine rLSS ?_
 | refine rLEQ ?_
 | refine rGTR ?_
 | refine rGEQ ?_
 | refine rEQL ?_
 | refine rNEQ ?_
 | refine rNOT ?_
 | (refine rBRK ?_ ?_ <;> intro hb)
 | (refine rBRKn ?_ ?_ <;> intro hb)
 | (refine rBRKnb ?_ ?_ <;> intro hb)
 | (refine rBRKb ?_ ?_ <;> intro hb)
 | (refine rSPL ?_ ?_ <;> intro hb)
 | (refine rSPLn ?_ ?_ <;> intro hb)
 | (refine rSPLnb ?_ ?_ <;> intro hb)
 | (refine rSPLb ?_ ?_ <;> intro hb)
 | (exfalso; omega))
    refine rIXo (i := 0) (by omega) ?_
    repeat' (with_reducible first
 | refine rTT ?_
 | refine rRFL ?_
 | refine rLEN (by assumption) ?_
 | (refine rIXk (by assumption) (by assumption) ?_; intro p hp)
 | (refine rIX (by assumption) (by omega) (by omega) ?_; intro p a ha hp)
 | refine rLDi (by assumption) ?_
 | (refine rLD (by assumption) ?_; intro c hc)
 | refine rADD (by omega) ?_
 | refine rSUB (by omega) ?_
 | refine rLSS ?_
 | refine rLEQ ?_
 | refine rGTR ?_
 | refine rGEQ ?_
 | refine rEQL ?_
 | refine rNEQ ?_
 | refine rNOT ?_
 | (refine rBRK ?_ ?_ <;> intro hb)
 | (refine rBRKn ?_ ?_ <;> intro hb)
 | (refine rBRKnb ?_ ?_ <;> intro hb)
 | (refine rBRKb ?_ ?_ <;> intro hb)
 | (refine rSPL ?_ ?_ <;> intro hb)
 | (refine rSPLn ?_ ?_ <;> intro hb)
 | (refine rSPLnb ?_ ?_ <;> intro hb)
 | (refine rSPLb ?_ ?_ <;> intro hb)
 | (exfalso; omega))
    have htop : hget (hset H3 kj g' ((row ++ [0]).map I)) k = some (gk, rows) := by rw [hget_set_ne _ _ g5]; exact ho.top
    refine rSTp htop (by rw [ho.len]; omega) rfl ?_
    have ho' := ho.regrow hrow g1 (row ++ [0]) g'
    have hlen : (row ++ [(0 : Int)]).length = row.length + 1 := by simp
    rw [hlen] at ho'
    refine ⟨t.set 0 (row ++ [0]), ho'.is (by simp), by simp; omega, ?_, ((hA3.put g4 _ (ifrees_map _)).put ho.lok _ ?_).le (by omega)⟩
    · intro s hs
      rcases List.mem_or_eq_of_mem_set hs with h | rfl
      · rw [rl s h]; omega
      · simp; omega
    · rw [ifrees_iff]
      intro c hc
      rcases List.mem_or_eq_of_mem_set hc with h | rfl
      · obtain ⟨j, hj, rfl⟩ := List.getElem_of_mem h
        obtain ⟨kj', gj', _, q4, _⟩ := ho.get (List.getElem?_eq_getElem (show j < t.length by rw [← ho.len]; exact hj))
        rw [List.getElem?_eq_getElem hj] at q4
        rw [Option.some.inj q4]; rfl
      · rfl
  · -- another one
    refine ACalls.mono (sure_ok (n := 6) hA3.cur (by omega) (by omega) (by omega)) ?_
    rintro r4 H4 ⟨t', q1, q2, q3, q4⟩
    have hA4 := hA3.trans q4
    refine ACalls.mono (one_ok hA4.cur (by omega) (by omega)) ?_
    rintro r5 H5 ⟨b, cs, rfl, rfl, hc5⟩
    have hA5 := hA4.set hc5
    refine rBRKb (fun _ => ?_) (fun _ => ?_)
    · exact ⟨[], .inl ⟨rfl, rfl⟩, by simp, by simp, hA5.le (by omega)⟩
    · exact ⟨t', (q1.lo hA3.len).frame fun j hj _ => hget_set_ne _ _ (by omega), by omega, fun r hr => by rw [sq_len q3 hr]; omega, hA5.le (by omega)⟩
  · exact ⟨t, ho.is rfl, by omega, fun r hr => by rw [rl r hr]; omega, hA3.le (by omega)⟩

end Go.Proofs.Ytccioplhchmilaa.AL
