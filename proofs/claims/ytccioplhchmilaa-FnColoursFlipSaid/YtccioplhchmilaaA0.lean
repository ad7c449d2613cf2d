/-
  An abstract program logic over the kit's model, part 0: abstract values, heaps, and what they say of a world.
-/
import Derived.Tactics
import Derived.Below
import Derived.OwnWalk
import Derived.KernelRfl
set_option linter.unusedVariables false
set_option linter.unusedSimpArgs false
namespace Go.Proofs.Ytccioplhchmilaa.AL
open Go Go.RowKit

/-- Abstract values. 'sl': a slice that is never written again, by its cells; 'own': a slice into a block of the heap at hand. -/
inductive AVal where
  | int (k : IntKind) (n : Int)
  | bool (b : Bool)
  | str (s : ByteArray)
  | nilS
  | sl (x : Bool) (n : Nat) (cs : List AVal)
  | pel (cs : List AVal) (i : Nat)
  | own (i g es off n : Nat)
  | ptr (i g off : Nat)
  | fn (f : FuncId) (first caps : List AVal)
  | nilF
  | nilP
  | agg (cs : List AVal)
  | tup (cs : List AVal)
  | nilI
  | iface (t : TypeId) (v : AVal)
  | junk
  deriving Inhabited

def AVal.one : AVal → Bool
  | .agg _ | .tup _ | .junk => false
  | _ => true

abbrev Blk := Option (Nat × List AVal)
abbrev Heap := List Blk
def hget (H : Heap) (i : Nat) : Blk := (H[i]?).getD none

mutual
def VRel (w : World) (I : Nat → Prop) : AVal → Value → Prop
  | .int k n, v => v = .int k n
  | .bool b, v => v = .bool b
  | .str s, v => v = .string s
  | .nilS, v => v = .slice none 0 0
  | .sl x n cs, v => (n = 0 ∧ cs = [] ∧ ∃ ad c, v = .slice ad 0 c ∧ (x = true → c = 0)) ∨
      ∃ g off c us, v = .slice (some ⟨g, off, none⟩) n c ∧ n ≤ c ∧ (x = true → c = n) ∧ I g ∧
        (∀ j u, us[j]? = some u → w.cell? ⟨g, off + j, none⟩ = some u) ∧ (∀ u ∈ us, u.oneCell' = true) ∧ VRels w I cs us
  | .pel cs i, v => ∃ g off us, v = .pointer (some ⟨g, off + i, none⟩) ∧ I g ∧
        (∀ j u, us[j]? = some u → w.cell? ⟨g, off + j, none⟩ = some u) ∧ (∀ u ∈ us, u.oneCell' = true) ∧ VRels w I cs us
  | .own _ g es off n, v => ∃ c, v = .slice (some ⟨g, off, none⟩) n c ∧ n ≤ c ∧ c ≤ maxLen ∧ ∃ cur T fr, w.heap[g]? = some (.cells cur T fr) ∧ off + c * es ≤ cur.size
  | .ptr _ g off, v => v = .pointer (some ⟨g, off, none⟩)
  | .fn f first caps, v => ∃ a b, v = .func (.func f) a b ∧ VRels w I first a.toList ∧ VRels w I caps b.toList
  | .nilF, v => v = .nilFunc
  | .nilP, v => v = .pointer none
  | .agg cs, v => ∃ us, v = .agg us ∧ VRels w I cs us.toList ∧ (∀ u ∈ us.toList, u.oneCell' = true)
  | .tup cs, v => ∃ us, v = .tuple us ∧ VRels w I cs us.toList
  | .nilI, v => v = .nilIface
  | .iface t x, v => ∃ y, v = .iface t y ∧ VRel w I x y
  | .junk, _ => True
def VRels (w : World) (I : Nat → Prop) : List AVal → List Value → Prop
  | [], us => us = []
  | c :: cs, us => ∃ u rest, us = u :: rest ∧ VRel w I c u ∧ VRels w I cs rest
end

/-- Cells in memory. -/
def CRels (w : World) (I : Nat → Prop) (cs : List AVal) (us : List Value) : Prop := VRels w I cs us ∧ ∀ u ∈ us, u.oneCell' = true

structure OwnBlk (w : World) (I : Nat → Prop) (B g : Nat) (cs : List AVal) : Prop where
  ge : B ≤ g
  out : ¬ I g
  cells : ∃ cur T us rest, w.heap[g]? = some (.cells cur T (0, 0)) ∧ cur.toList = us ++ rest ∧ CRels w I cs us

structure HRel (w : World) (I : Nat → Prop) (B : Nat) (H : Heap) : Prop where
  base : B ≤ w.heap.size
  imm : ∀ g, I g → g < w.heap.size
  blk : ∀ i g cs, hget H i = some (g, cs) → OwnBlk w I B g cs
  inj : ∀ i j g cs ds, hget H i = some (g, cs) → hget H j = some (g, ds) → i = j

structure Ext (B : Nat) (w : World) (I : Nat → Prop) (w' : World) (I' : Nat → Prop) : Prop where
  below : Below B w w'
  sub : ∀ g, I g → I' g
  imm : ∀ g, I g → w'.heap[g]? = w.heap[g]?
  shp : ∀ (g : Nat) (cur : Array Value) (T : TypeId) (fr : Nat × Nat), w.heap[g]? = some (Obj.cells cur T fr) → ∃ (cur' : Array Value) (fr' : Nat × Nat), w'.heap[g]? = some (.cells cur' T fr') ∧ cur'.size = cur.size

theorem Ext.refl (B : Nat) (w : World) (I : Nat → Prop) : Ext B w I w I := ⟨Below.refl _ _, fun _ h => h, fun _ _ => rfl, fun g cur T fr h => ⟨cur, fr, h, rfl⟩⟩
theorem Ext.trans {B : Nat} {w w1 w2 : World} {I I1 I2 : Nat → Prop} (h : Ext B w I w1 I1) (k : Ext B w1 I1 w2 I2) : Ext B w I w2 I2 :=
  ⟨h.below.trans k.below, fun g hg => k.sub g (h.sub g hg), fun g hg => (k.imm g (h.sub g hg)).trans (h.imm g hg), fun g cur T fr hg => by
    obtain ⟨c1, f1, h1, s1⟩ := h.shp g cur T fr hg
    obtain ⟨c2, f2, h2, s2⟩ := k.shp g c1 T f1 h1
    exact ⟨c2, f2, h2, s2.trans s1⟩⟩

theorem VRels_iff {w : World} {I : Nat → Prop} : ∀ {cs : List AVal} {us : List Value}, VRels w I cs us ↔ us.length = cs.length ∧ ∀ (j : Nat) (c : AVal) (u : Value), cs[j]? = some c → us[j]? = some u → VRel w I c u
  | [], us => by
    constructor
    · intro h; simp only [VRels] at h; subst h; simp
    · intro h; simp only [VRels]; exact List.eq_nil_of_length_eq_zero (by simpa using h.1)
  | c :: cs, us => by
    simp only [VRels]
    constructor
    · rintro ⟨u, rest, rfl, h1, h2⟩
      obtain ⟨hl, h3⟩ := VRels_iff.1 h2
      refine ⟨by simp [hl], ?_⟩
      intro j c' u' hc hu
      cases j with
      | zero => simp at hc hu; subst hc; subst hu; exact h1
      | succ j => simp at hc hu; exact h3 j c' u' hc hu
    · rintro ⟨hl, h⟩
      cases us with
      | nil => simp at hl
      | cons u rest =>
        refine ⟨u, rest, rfl, h 0 c u (by simp) (by simp), VRels_iff.2 ⟨by simpa using hl, fun j c' u' hc hu => h (j + 1) c' u' (by simpa using hc) (by simpa using hu)⟩⟩

theorem VRels.length {w : World} {I : Nat → Prop} {cs : List AVal} {us : List Value} (h : VRels w I cs us) : us.length = cs.length := (VRels_iff.1 h).1
theorem VRels.at {w : World} {I : Nat → Prop} {cs : List AVal} {us : List Value} (h : VRels w I cs us) {j : Nat} {c : AVal} (hc : cs[j]? = some c) : ∃ u, us[j]? = some u ∧ VRel w I c u := by
  obtain ⟨hl, h2⟩ := VRels_iff.1 h
  have hj : j < us.length := by
    have := (List.getElem?_eq_some_iff.1 hc).1
    omega
  exact ⟨us[j], List.getElem?_eq_getElem hj, h2 j c _ hc (List.getElem?_eq_getElem hj)⟩
theorem VRels.append {w : World} {I : Nat → Prop} : ∀ {cs : List AVal} {us : List Value} {ds : List AVal} {vs : List Value}, VRels w I cs us → VRels w I ds vs → VRels w I (cs ++ ds) (us ++ vs)
  | [], us, ds, vs, h, k => by simp only [VRels] at h; subst h; simpa using k
  | c :: cs, us, ds, vs, h, k => by
    simp only [VRels] at h
    obtain ⟨u, rest, rfl, h1, h2⟩ := h
    simp only [List.cons_append, VRels]
    exact ⟨u, rest ++ vs, rfl, h1, VRels.append h2 k⟩
theorem VRels.take {w : World} {I : Nat → Prop} {cs : List AVal} {us : List Value} (h : VRels w I cs us) (n : Nat) : VRels w I (cs.take n) (us.take n) := by
  obtain ⟨hl, h2⟩ := VRels_iff.1 h
  refine VRels_iff.2 ⟨by simp [hl], fun j c u hc hu => ?_⟩
  rw [List.getElem?_take] at hc hu
  split at hc
  · rw [if_pos (by assumption)] at hu; exact h2 j c u hc hu
  · cases hc
theorem VRels.drop {w : World} {I : Nat → Prop} {cs : List AVal} {us : List Value} (h : VRels w I cs us) (n : Nat) : VRels w I (cs.drop n) (us.drop n) := by
  obtain ⟨hl, h2⟩ := VRels_iff.1 h
  refine VRels_iff.2 ⟨by simp [hl], fun j c u hc hu => ?_⟩
  rw [List.getElem?_drop] at hc hu
  exact h2 _ c u hc hu
theorem VRels.set {w : World} {I : Nat → Prop} {cs : List AVal} {us : List Value} (h : VRels w I cs us) (i : Nat) {c : AVal} {u : Value} (hc : VRel w I c u) : VRels w I (cs.set i c) (us.set i u) := by
  obtain ⟨hl, h2⟩ := VRels_iff.1 h
  refine VRels_iff.2 ⟨by simp [hl], fun j c' u' hc' hu' => ?_⟩
  rw [List.getElem?_set] at hc' hu'
  by_cases hij : i = j
  · rw [if_pos hij] at hc' hu'
    split at hc'
    · split at hu'
      · cases hc'; cases hu'; exact hc
      · cases hu'
    · cases hc'
  · rw [if_neg hij] at hc' hu'; exact h2 j c' u' hc' hu'
theorem VRels.singleton {w : World} {I : Nat → Prop} {c : AVal} {u : Value} (h : VRel w I c u) : VRels w I [c] [u] := by
  simp only [VRels]; exact ⟨u, [], rfl, h, rfl⟩
theorem VRels.nil {w : World} {I : Nat → Prop} : VRels w I [] [] := by simp [VRels]

theorem VRel.one {w : World} {I : Nat → Prop} {a : AVal} {v : Value} (h : VRel w I a v) (ho : a.one = true) : v.oneCell' = true := by
  cases a <;> simp only [AVal.one, VRel] at h ho <;> try (first | (subst h; rfl) | cases ho)
  case sl x n cs => rcases h with ⟨_, _, ad, c, rfl, _⟩ | ⟨g, off, c, us, rfl, _⟩ <;> rfl
  case pel cs i => obtain ⟨g, off, us, rfl, _⟩ := h; rfl
  case own => obtain ⟨c, rfl, _⟩ := h; rfl
  case fn => obtain ⟨a, b, rfl, _⟩ := h; rfl
  case iface => obtain ⟨y, rfl, _⟩ := h; rfl

section mono
set_option linter.unusedSectionVars false
variable {B : Nat} {w w' : World} {I I' : Nat → Prop} (he : Ext B w I w' I')
include he
theorem cell_imm {g : Nat} (hg : I g) (o : Nat) : w'.cell? ⟨g, o, none⟩ = w.cell? ⟨g, o, none⟩ := World.cell?_of_block (w := w) (he.imm g hg)
mutual
theorem VRel.mono : ∀ {a : AVal} {v : Value}, VRel w I a v → VRel w' I' a v
  | .int .., v, h | .bool .., v, h | .str .., v, h | .nilS, v, h | .ptr .., v, h | .nilF, v, h | .nilP, v, h | .nilI, v, h => by simpa only [VRel] using h
  | .junk, v, h => by simp only [VRel]
  | .sl x n cs, v, h => by
    simp only [VRel] at h ⊢
    rcases h with h | ⟨g, off, c, us, h1, h2, h3, h4, h5, h6, h7⟩
    · exact .inl h
    · exact .inr ⟨g, off, c, us, h1, h2, h3, he.sub g h4, fun j u hu => by rw [cell_imm he h4]; exact h5 j u hu, h6, VRels.mono h7⟩
  | .pel cs i, v, h => by
    simp only [VRel] at h ⊢
    obtain ⟨g, off, us, h1, h4, h5, h6, h7⟩ := h
    exact ⟨g, off, us, h1, he.sub g h4, fun j u hu => by rw [cell_imm he h4]; exact h5 j u hu, h6, VRels.mono h7⟩
  | .own i g es off n, v, h => by
    simp only [VRel] at h ⊢
    obtain ⟨c, h1, h2, h3, cur, T, fr, h4, h5⟩ := h
    obtain ⟨cur', fr', h6, h7⟩ := he.shp g cur T fr h4
    exact ⟨c, h1, h2, h3, cur', T, fr', h6, by omega⟩
  | .fn f first caps, v, h => by
    simp only [VRel] at h ⊢
    obtain ⟨a, b, h1, h2, h3⟩ := h
    exact ⟨a, b, h1, VRels.mono h2, VRels.mono h3⟩
  | .agg cs, v, h => by
    simp only [VRel] at h ⊢
    obtain ⟨us, h1, h2, h3⟩ := h
    exact ⟨us, h1, VRels.mono h2, h3⟩
  | .tup cs, v, h => by
    simp only [VRel] at h ⊢
    obtain ⟨us, h1, h2⟩ := h
    exact ⟨us, h1, VRels.mono h2⟩
  | .iface t x, v, h => by
    simp only [VRel] at h ⊢
    obtain ⟨y, h1, h2⟩ := h
    exact ⟨y, h1, VRel.mono h2⟩
theorem VRels.mono : ∀ {cs : List AVal} {us : List Value}, VRels w I cs us → VRels w' I' cs us
  | [], us, h => by simpa only [VRels] using h
  | c :: cs, us, h => by
    simp only [VRels] at h ⊢
    obtain ⟨u, rest, h1, h2, h3⟩ := h
    exact ⟨u, rest, h1, VRel.mono h2, VRels.mono h3⟩
end
theorem CRels.mono {cs : List AVal} {us : List Value} (h : CRels w I cs us) : CRels w' I' cs us := ⟨VRels.mono he h.1, h.2⟩
end mono

end Go.Proofs.Ytccioplhchmilaa.AL
