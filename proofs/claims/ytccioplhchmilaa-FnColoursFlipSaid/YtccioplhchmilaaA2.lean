/-
  An abstract program logic over the kit's model, part 2: what allocating and writing do to the relation of heap and world.
-/
import Derived.Test.YtccioplhchmilaaA1
import Derived.Laws.CopyRow
set_option linter.unusedVariables false
set_option linter.unusedSimpArgs false
namespace Go.Proofs.Ytccioplhchmilaa.AL
open Go Go.RowKit

theorem hget_nil (i : Nat) : hget [] i = none := rfl
theorem hget_hnew (H : Heap) (g : Nat) (cs : List AVal) (i : Nat) : hget (hnew H g cs) i = if i < H.length then hget H i else if i = H.length then some (g, cs) else none := by
  unfold hget hnew
  by_cases h : i < H.length
  · rw [if_pos h, List.getElem?_append_left h]
  · rw [if_neg h, List.getElem?_append_right (by omega)]
    by_cases h2 : i = H.length
    · subst h2; simp
    · rw [if_neg h2]
      have : ∃ k, i - H.length = k + 1 := ⟨i - H.length - 1, by omega⟩
      obtain ⟨k, hk⟩ := this
      rw [hk]; simp
theorem hget_lt {H : Heap} {i : Nat} {x : Nat × List AVal} (h : hget H i = some x) : i < H.length := by
  unfold hget at h
  cases hi : H[i]? with
  | none => rw [hi] at h; cases h
  | some y => exact (List.getElem?_eq_some_iff.1 hi).1
theorem hget_hset (H : Heap) (i g : Nat) (cs : List AVal) (j : Nat) : hget (hset H i g cs) j = if i = j then (if j < H.length then some (g, cs) else none) else hget H j := by
  unfold hget hset
  rw [List.getElem?_set]
  by_cases h : i = j
  · rw [if_pos h, if_pos h]
    by_cases h2 : j < H.length
    · subst h; simp [h2]
    · subst h; simp [h2]
  · rw [if_neg h, if_neg h]
theorem hlen_hnew (H : Heap) (g : Nat) (cs : List AVal) : (hnew H g cs).length = H.length + 1 := by simp [hnew]
theorem hlen_hset (H : Heap) (i g : Nat) (cs : List AVal) : (hset H i g cs).length = H.length := by simp [hset]

theorem addr_add (g o n : Nat) : (⟨g, o, none⟩ : Addr).add n = ⟨g, o + n, none⟩ := by
  unfold Addr.add; split <;> simp_all

theorem ofV0_rel (w : World) (I : Nat → Prop) (v : Value) : VRel w I (ofV0 v) v := by
  unfold ofV0
  split <;> simp [VRel]
theorem ofV_rel (w : World) (I : Nat → Prop) (v : Value) : VRel w I (ofV v) v := by
  unfold ofV
  split
  · rename_i cs
    cases hc : cs.toList.all Value.oneCell' with
    | false => simp [VRel]
    | true =>
      simp only [cond_true, VRel]
      refine ⟨cs, rfl, VRels_iff.2 ⟨by simp, fun j c u hj hu => ?_⟩, fun u hu => by rw [List.all_eq_true] at hc; exact hc u hu⟩
      rw [List.getElem?_map, hu] at hj
      simp at hj
      subst hj
      exact ofV0_rel w I u
  · exact ofV0_rel w I _
theorem ev_rel {N : Nat} {w : World} {I : Nat → Prop} {σ : Slots} {a : Act} (h : FRel N w I σ a) (x : Operand) : VRel w I (ev σ x) (a.eval x) := by
  cases x with
  | tmp t => exact h.slots t
  | const v => exact ofV_rel w I v
  | global g => simp [ev, VRel]
  | func f => simp [ev, VRel, Act.eval, VRels]
theorem evs_rel {N : Nat} {w : World} {I : Nat → Prop} {σ : Slots} {a : Act} (h : FRel N w I σ a) : ∀ xs : List Operand, VRels w I (xs.map (ev σ)) (xs.map a.eval)
  | [] => by simp [VRels]
  | x :: xs => by simp only [List.map_cons, VRels]; exact ⟨_, _, rfl, ev_rel h x, evs_rel h xs⟩

/-! Worlds -/
theorem ext_heap {B : Nat} {w w' : World} {I : Nat → Prop} (hb : Below B w w') (h : w'.heap = w.heap) : Ext B w I w' I :=
  ⟨hb, fun _ h => h, fun _ _ => by rw [h], fun g cur T fr hg => ⟨cur, fr, by rw [h]; exact hg, rfl⟩⟩
theorem ext_drew (B : Nat) (w : World) (I : Nat → Prop) : Ext B w I w.drew I := ext_heap ((Below.refl _ _).drew) rfl
theorem ext_alloc {B : Nat} {w : World} {I : Nat → Prop} (hB : B ≤ w.heap.size) (hI : ∀ g, I g → g < w.heap.size) (o : Obj) : Ext B w I (w.alloc o) I :=
  ⟨(Below.refl _ _).alloc hB o, fun _ h => h, fun g hg => heap_alloc_old w o g (hI g hg), fun g cur T fr hg =>
    ⟨cur, fr, by rw [heap_alloc_old w o g (Array.getElem?_eq_some_iff.1 hg).1]; exact hg, rfl⟩⟩
theorem HRel.of_ext {B : Nat} {w w' : World} {I I' : Nat → Prop} {H : Heap} (h : HRel w I B H) (he : Ext B w I w' I')
    (hs : ∀ i g cs, hget H i = some (g, cs) → w'.heap[g]? = w.heap[g]? ∧ ¬ I' g) (hi : ∀ g, I' g → g < w'.heap.size) : HRel w' I' B H :=
  ⟨Nat.le_trans h.base he.below.size, hi, fun i g cs hg => by
    obtain ⟨h1, h2, cur, T, us, rest, h3, h4, h5⟩ := h.blk i g cs hg
    exact ⟨h1, (hs i g cs hg).2, cur, T, us, rest, by rw [(hs i g cs hg).1]; exact h3, h4, h5.mono he⟩, h.inj⟩
theorem HRel.lt {B : Nat} {w : World} {I : Nat → Prop} {H : Heap} (h : HRel w I B H) {i g : Nat} {cs : List AVal} (hg : hget H i = some (g, cs)) : g < w.heap.size := by
  obtain ⟨h1, h2, cur, T, us, rest, h3, h4, h5⟩ := h.blk i g cs hg
  exact (Array.getElem?_eq_some_iff.1 h3).1
theorem HRel.drew {B : Nat} {w : World} {I : Nat → Prop} {H : Heap} (h : HRel w I B H) : HRel w.drew I B H :=
  h.of_ext (ext_drew B w I) (fun i g cs hg => ⟨rfl, (h.blk i g cs hg).out⟩) h.imm
/-- A new block. -/
theorem HRel.new {B : Nat} {w : World} {I : Nat → Prop} {H : Heap} (h : HRel w I B H) {cs : List AVal} {us : List Value} (hc : CRels w I cs us) (arr : Array Value) (rest : List Value) (T : TypeId)
    (ha : arr.toList = us ++ rest) : HRel (w.alloc (.cells arr T)) I B (hnew H w.heap.size cs) ∧ Ext B w I (w.alloc (.cells arr T)) I := by
  have he := ext_alloc (I := I) h.base h.imm (.cells arr T)
  refine ⟨⟨Nat.le_trans h.base he.below.size, fun g hg => Nat.lt_of_lt_of_le (h.imm g hg) he.below.size, ?_, ?_⟩, he⟩
  · intro i g ds hg
    rw [hget_hnew] at hg
    split at hg
    · obtain ⟨h1, h2, cur, T', us', rest', h3, h4, h5⟩ := h.blk i g ds hg
      exact ⟨h1, h2, cur, T', us', rest', by rw [heap_alloc_old w _ g (Array.getElem?_eq_some_iff.1 h3).1]; exact h3, h4, h5.mono he⟩
    · split at hg
      · cases hg
        exact ⟨h.base, fun hI => Nat.lt_irrefl _ (h.imm _ hI), arr, T, us, rest, heap_alloc_new w _, ha, hc.mono he⟩
      · cases hg
  · intro i j g ds es hi hj
    rw [hget_hnew] at hi hj
    split at hi
    · split at hj
      · exact h.inj i j g ds es hi hj
      · split at hj
        · cases hj
          exact absurd (h.lt hi) (Nat.lt_irrefl _)
        · cases hj
    · split at hi
      · cases hi
        split at hj
        · exact absurd (h.lt hj) (Nat.lt_irrefl _)
        · split at hj
          · omega
          · cases hj
      · cases hi
/-- A block is written. -/
theorem HRel.put {B : Nat} {w : World} {I : Nat → Prop} {H : Heap} (h : HRel w I B H) {i g : Nat} {cs0 : List AVal} (hg : hget H i = some (g, cs0)) {cur : Array Value} {T : TypeId}
    (hcur : w.heap[g]? = some (.cells cur T (0, 0))) {cs : List AVal} {us : List Value} (hc : CRels w I cs us) (arr : Array Value) (rest : List Value) (ha : arr.toList = us ++ rest) (hs : arr.size = cur.size) :
    HRel (w.setRow g arr) I B (hset H i g cs) ∧ Ext B w I (w.setRow g arr) I := by
  have hb := h.blk i g cs0 hg
  have he : Ext B w I (w.setRow g arr) I := by
    refine ⟨⟨rfl, rfl, rfl, by simp, fun k hk => setRow_other w g k arr (by have := hb.ge; omega)⟩, fun _ h => h, fun k hk => setRow_other w g k arr (fun e => hb.out (e ▸ hk)), ?_⟩
    intro k cur' T' fr hk
    by_cases hkg : k = g
    · subst hkg
      rw [hcur] at hk
      cases hk
      exact ⟨arr, (0, 0), setRow_heap w k cur arr T (0, 0) hcur, hs⟩
    · exact ⟨cur', fr, by rw [setRow_other w g k arr hkg]; exact hk, rfl⟩
  refine ⟨⟨Nat.le_trans h.base he.below.size, fun k hk => Nat.lt_of_lt_of_le (h.imm k hk) he.below.size, ?_, ?_⟩, he⟩
  · intro j k ds hk
    rw [hget_hset] at hk
    split at hk
    · split at hk
      · cases hk
        exact ⟨hb.ge, hb.out, arr, T, us, rest, setRow_heap w g cur arr T (0, 0) hcur, ha, hc.mono he⟩
      · cases hk
    · rename_i hij
      obtain ⟨h1, h2, cur', T', us', rest', h3, h4, h5⟩ := h.blk j k ds hk
      have hkg : k ≠ g := fun e => hij (h.inj i j g cs0 ds hg (e ▸ hk))
      exact ⟨h1, h2, cur', T', us', rest', by rw [setRow_other w g k arr hkg]; exact h3, h4, h5.mono he⟩
  · intro j k q ds es hj hk
    rw [hget_hset] at hj hk
    split at hj
    · split at hj
      · cases hj
        split at hk
        · omega
        · rename_i hik
          exact absurd (h.inj i k g cs0 es hg hk) hik
      · cases hj
    · split at hk
      · split at hk
        · cases hk
          rename_i hij _ _
          exact absurd (h.inj i j g cs0 ds hg hj) hij
        · cases hk
      · exact h.inj j k q ds es hj hk
/-- A block moves to a new one. -/
theorem HRel.moved {B : Nat} {w : World} {I : Nat → Prop} {H : Heap} (h : HRel w I B H) {i g : Nat} {cs0 : List AVal} (hg : hget H i = some (g, cs0))
    {cs : List AVal} {us : List Value} (hc : CRels w I cs us) (arr : Array Value) (rest : List Value) (T : TypeId) (ha : arr.toList = us ++ rest) :
    HRel (w.alloc (.cells arr T)) I B (hset H i w.heap.size cs) ∧ Ext B w I (w.alloc (.cells arr T)) I := by
  have he := ext_alloc (I := I) h.base h.imm (.cells arr T)
  refine ⟨⟨Nat.le_trans h.base he.below.size, fun g hg => Nat.lt_of_lt_of_le (h.imm g hg) he.below.size, ?_, ?_⟩, he⟩
  · intro j k ds hk
    rw [hget_hset] at hk
    split at hk
    · split at hk
      · cases hk
        exact ⟨h.base, fun hI => Nat.lt_irrefl _ (h.imm _ hI), arr, T, us, rest, heap_alloc_new w _, ha, hc.mono he⟩
      · cases hk
    · obtain ⟨h1, h2, cur, T', us', rest', h3, h4, h5⟩ := h.blk j k ds hk
      exact ⟨h1, h2, cur, T', us', rest', by rw [heap_alloc_old w _ k (Array.getElem?_eq_some_iff.1 h3).1]; exact h3, h4, h5.mono he⟩
  · intro j k q ds es hj hk
    rw [hget_hset] at hj hk
    split at hj
    · split at hj
      · cases hj
        split at hk
        · omega
        · exact absurd (h.lt hk) (Nat.lt_irrefl _)
      · cases hj
    · split at hk
      · split at hk
        · cases hk
          exact absurd (h.lt hj) (Nat.lt_irrefl _)
        · cases hk
      · exact h.inj j k q ds es hj hk

theorem cells_own {B : Nat} {w : World} {I : Nat → Prop} {H : Heap} (h : HRel w I B H) {i g : Nat} {cs : List AVal} (hg : hget H i = some (g, cs)) :
    ∃ cur T us rest, w.heap[g]? = some (.cells cur T (0, 0)) ∧ cur.toList = us ++ rest ∧ CRels w I cs us ∧ us.length = cs.length ∧ ∀ (j : Nat) (u : Value), us[j]? = some u → w.cell? ⟨g, j, none⟩ = some u := by
  obtain ⟨h1, h2, cur, T, us, rest, h3, h4, h5⟩ := h.blk i g cs hg
  refine ⟨cur, T, us, rest, h3, h4, h5, h5.1.length, fun j u hu => ?_⟩
  rw [cell_of_row w g j cur T (0, 0) h3, ← Array.getElem?_toList, h4, List.getElem?_append_left (List.getElem?_eq_some_iff.1 hu).1]
  exact hu

theorem FRel.mono {N B : Nat} {w w' : World} {I I' : Nat → Prop} {σ : Slots} {a : Act} (h : FRel N w I σ a) (he : Ext B w I w' I') : FRel N w' I' σ a :=
  ⟨h.size, h.defers, fun i => (h.slots i).mono he⟩
theorem FRel.put {N : Nat} {w : World} {I : Nat → Prop} {σ : Slots} {a : Act} (h : FRel N w I σ a) {d : Nat} (hd : d < N) {v : AVal} {u : Value} (hv : VRel w I v u) : FRel N w I (upd σ d v) (a.put (some d) u) := by
  refine ⟨by simp [Act.put, h.size], h.defers, fun i => ?_⟩
  unfold upd
  by_cases hi : i = d
  · subst hi
    have : i < a.tmps.size := by rw [h.size]; exact hd
    simp [Act.put, this, hv]
  · have hb : Nat.beq i d = false := by
      cases hq : Nat.beq i d with
      | false => rfl
      | true => exact absurd (Nat.eq_of_beq_eq_true hq) hi
    rw [hb]
    have := h.slots i
    simp only [cond_false, Act.put]
    have e : (a.tmps.setIfInBounds d u).getD i undef = a.tmps.getD i undef := by
      simp only [Array.getD_eq_getD_getElem?]
      rw [Array.getElem?_setIfInBounds_ne (fun e => hi e.symm)]
    rw [e]; exact this
theorem PUT_sound {N : Nat} {w : World} {I : Nat → Prop} {σ : Slots} {a : Act} {d : Option Nat} {v : AVal} {K : Slots → Prop} (h : PUT N σ d v K) (hF : FRel N w I σ a) {u : Value} (hv : VRel w I v u) :
    ∃ σ', K σ' ∧ FRel N w I σ' (a.put d u) := by
  cases d with
  | none => exact ⟨σ, h, hF⟩
  | some d =>
    simp only [PUT] at h
    cases hb : Nat.blt d N with
    | false => rw [hb] at h; exact h.elim
    | true =>
      rw [hb] at h
      refine ⟨_, h, hF.put ?_ hv⟩
      exact Nat.lt_of_succ_le (by simpa [Nat.blt] using hb)

end Go.Proofs.Ytccioplhchmilaa.AL
