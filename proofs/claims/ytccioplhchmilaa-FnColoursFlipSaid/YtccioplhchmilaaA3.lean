/-
  An abstract program logic over the kit's model, part 3: each operation does what its abstract form says.
-/
import Derived.Test.YtccioplhchmilaaA2
import Derived.IntWalk
set_option linter.unusedVariables false
set_option linter.unusedSimpArgs false
namespace Go.Proofs.Ytccioplhchmilaa.AL
open Go Go.RowKit

def OpOk (P : Program) (s : Sem Value) (w : World) (I : Nat → Prop) (B : Nat) (K : AVal → Heap → Prop) : Prop :=
  ∃ u w' I' v H', s.run P w = .ok u w' ∧ K v H' ∧ HRel w' I' B H' ∧ VRel w' I' v u ∧ Ext B w I w' I'

section
variable {P : Program} {w : World} {I : Nat → Prop} {B : Nat} {H : Heap} (hH : HRel w I B H)
include hH

theorem ok_same {s : Sem Value} {K : AVal → Heap → Prop} {v : AVal} {u : Value} (hr : s.run P w = .ok u w) (hK : K v H) (hv : VRel w I v u) : OpOk P s w I B K :=
  ⟨u, w, I, v, H, hr, hK, hH, hv, Ext.refl _ _ _⟩

omit hH in
theorem info_of {e : TypeId} (h : bytesOk P e = true) : ∃ i, P.info? e = some i ∧ i.size = szOf P e ∧ 1 ≤ i.size ∧ 1 ≤ i.bytes ∧ i.bytes ≤ 1000 := by
  unfold bytesOk at h
  cases hi : P.info? e with
  | none => rw [hi] at h; cases h
  | some i =>
    rw [hi] at h
    simp only [Bool.and_eq_true, Nat.ble_eq] at h
    exact ⟨i, rfl, by simp [szOf, hi], h.1.2, h.1.1.2, h.1.1.1⟩
omit hH in
theorem zero_of {e : TypeId} (h : bytesOk P e = true) : ∃ z, (P.info? e).bind (·.zero) = some z ∧ z.cells.size = szOf P e := by
  unfold bytesOk at h
  cases hi : P.info? e with
  | none => rw [hi] at h; cases h
  | some i =>
    rw [hi] at h
    simp only [Bool.and_eq_true, Nat.ble_eq] at h
    cases hz : i.zero with
    | none => rw [hz] at h; simp at h
    | some z =>
      rw [hz] at h
      exact ⟨z, by simp [hz], by simpa [szOf, hi] using h.2⟩
omit hH in
theorem run_sizeOf {e : TypeId} {i : TypeInfo} (h : P.info? e = some i) (w : World) : (sizeOf e).run P w = .ok i.size w := by simp [sizeOf, typeInfo, h]
omit hH in
theorem run_isAgg {t : TypeId} (h : (P.underlying t).isSome = true) (w : World) : (isAgg t).run P w = .ok (aggOf P t) w := by
  cases hu : P.underlying t with
  | none => rw [hu] at h; cases h
  | some d => cases d <;> simp [isAgg, run_underlying hu, aggOf, hu]

theorem ixk_ok {t e : TypeId} {x i : AVal} {vx vi : Value} {K : AVal → Prop} (hu : P.underlying t = some (.slice e)) (hb : bytesOk P e = true) (h : IXK (szOf P e) x i K) (hx : VRel w I x vx) (hi : VRel w I i vi) :
    OpOk P (Instr.indexAt t vx vi) w I B fun v H' => H' = H ∧ K v := by
  obtain ⟨inf, h1, h2, _⟩ := info_of hb
  unfold IXK at h
  split at h
  · rename_i y n cs k m
    obtain ⟨h0, hlt, hK⟩ := h
    simp only [VRel] at hi
    subst hi
    simp only [VRel] at hx
    rcases hx with ⟨hn, _, _⟩ | ⟨g, off, c, us, rfl, hc, hxx, hg, hcell, hone, hus⟩
    · omega
    · refine ok_same hH (v := .pel cs (m.toNat * szOf P e)) (u := .pointer (some ⟨g, off + m.toNat * szOf P e, none⟩)) ?_ ⟨rfl, hK⟩ ?_
      · simp [Instr.indexAt, asIntOf, run_underlying hu, h0, hlt, run_sizeOf h1, h2, addr_add]
      · simp only [VRel]
        exact ⟨g, off, us, rfl, hg, hcell, hone, hus⟩
  · rename_i b g es off n k m
    obtain ⟨rfl, h0, hlt, hK⟩ := h
    simp only [VRel] at hi
    subst hi
    simp only [VRel] at hx
    obtain ⟨c, rfl, _⟩ := hx
    refine ok_same hH (v := .ptr b g (off + m.toNat * szOf P e)) (u := .pointer (some ⟨g, off + m.toNat * szOf P e, none⟩)) ?_ ⟨rfl, hK⟩ ?_
    · simp [Instr.indexAt, asIntOf, run_underlying hu, h0, hlt, run_sizeOf h1, h2, addr_add]
    · simp only [VRel]
  · exact h.elim

omit hH in
theorem cellsAt_ok {t : TypeId} {cs : List AVal} {o : Nat} {K : AVal → Prop} (hb : bytesOk P t = true) (hs : (P.underlying t).isSome = true) (h : cellsAt (aggOf P t) (szOf P t) cs o K)
    {g off : Nat} {us : List Value} (hcell : ∀ (j : Nat) (u : Value), us[j]? = some u → w.cell? ⟨g, off + j, none⟩ = some u) (hone : ∀ u ∈ us, u.oneCell' = true) (hus : VRels w I cs us) :
    ∃ v u, (loadVar t ⟨g, off + o, none⟩).run P w = .ok u w ∧ K v ∧ VRel w I v u := by
  obtain ⟨inf, h1, h2, _⟩ := info_of hb
  have hagg := run_isAgg hs w
  unfold cellsAt at h
  cases ha : aggOf P t with
  | true =>
    rw [ha] at h hagg
    simp only [cond_true] at h
    obtain ⟨hle, hK⟩ := h
    have hl := hus.length
    have hlen : ((us.drop o).take (szOf P t)).length = szOf P t := by simp; omega
    have hload := run_loadCells_list (P := P) w ⟨g, off + o, none⟩ ((us.drop o).take (szOf P t)) (by
      intro j v hv
      rw [addr_add]
      rw [List.getElem?_take] at hv
      split at hv
      · rw [List.getElem?_drop] at hv
        have := hcell (o + j) v hv
        rwa [← Nat.add_assoc] at this
      · cases hv)
    rw [hlen] at hload
    refine ⟨_, .agg ((us.drop o).take (szOf P t)).toArray, ?_, hK, ?_⟩
    · simp [loadVar, hagg, run_sizeOf h1, h2, hload]
    · simp only [VRel]
      exact ⟨_, rfl, (hus.drop o).take _, fun u hu => hone u (List.mem_of_mem_drop (List.mem_of_mem_take (by simpa using hu)))⟩
  | false =>
    rw [ha] at h hagg
    simp only [cond_false] at h
    obtain ⟨v, hv, hK⟩ := h
    obtain ⟨u, hu, hvu⟩ := hus.at hv
    refine ⟨v, u, ?_, hK, hvu⟩
    simp [loadVar, hagg, hcell o u hu]

theorem ldk_run {t : TypeId} {p : AVal} {vp : Value} {K : AVal → Prop} (hb : bytesOk P t = true) (hs : (P.underlying t).isSome = true) (h : LDK (aggOf P t) (szOf P t) H p K) (hp : VRel w I p vp) :
    ∃ ad v u, vp = .pointer (some ad) ∧ (loadVar t ad).run P w = .ok u w ∧ K v ∧ VRel w I v u := by
  unfold LDK at h
  split at h
  · rename_i i g off
    obtain ⟨cs, hg, hc⟩ := h
    simp only [VRel] at hp
    subst hp
    obtain ⟨cur, T, us, rest, h3, h4, h5, h6, h7⟩ := cells_own hH hg
    obtain ⟨v, u, hr, hK, hv⟩ := cellsAt_ok (off := 0) hb hs hc (g := g) (us := us) (by simpa using h7) h5.2 h5.1
    rw [Nat.zero_add] at hr
    exact ⟨_, v, u, rfl, hr, hK, hv⟩
  · rename_i cs i
    simp only [VRel] at hp
    obtain ⟨g, off, us, rfl, hg, hcell, hone, hus⟩ := hp
    obtain ⟨v, u, hr, hK, hv⟩ := cellsAt_ok hb hs h hcell hone hus
    exact ⟨_, v, u, rfl, hr, hK, hv⟩
  · exact h.elim
theorem ldk_ok {t : TypeId} {p : AVal} {vp : Value} {K : AVal → Prop} (hb : bytesOk P t = true) (hs : (P.underlying t).isSome = true) (h : LDK (aggOf P t) (szOf P t) H p K) (hp : VRel w I p vp) :
    OpOk P (Instr.loadAt t vp) w I B fun v H' => H' = H ∧ K v := by
  obtain ⟨ad, v, u, rfl, hr, hK, hv⟩ := ldk_run hH hb hs h hp
  exact ok_same hH (by simpa [Instr.loadAt, Instr.sureAddr] using hr) ⟨rfl, hK⟩ hv

omit hH in
theorem cellsOfV_ok {v : AVal} {u : Value} {K : List AVal → Prop} (h : cellsOfV v K) (hv : VRel w I v u) : ∃ cs, K cs ∧ CRels w I cs u.cells.toList := by
  unfold cellsOfV at h
  split at h
  · rename_i cs
    simp only [VRel] at hv
    obtain ⟨us, rfl, h1, h2⟩ := hv
    exact ⟨cs, h, h1, h2⟩
  · obtain ⟨ho, hK⟩ := h
    have h1 := hv.one ho
    have : u.cells = #[u] := by cases u <;> first | rfl | (simp [Value.oneCell'] at h1)
    rw [this]
    exact ⟨[v], hK, VRels.singleton hv, by simpa using h1⟩

theorem boxk_ok {t : TypeId} {v : AVal} {u : Value} {K : AVal → Heap → Prop} (h : BOXK v H K) (hv : VRel w I v u) : OpOk P (Instr.box t u) w I B K := by
  unfold BOXK at h
  obtain ⟨cs, hK, hc⟩ := cellsOfV_ok h hv
  obtain ⟨hH', he⟩ := hH.new hc u.cells [] t (by simp)
  refine ⟨.pointer (some ⟨w.heap.size, 0, none⟩), w.alloc (.cells u.cells t), I, _, _, ?_, hK w.heap.size, hH', by simp only [VRel], he⟩
  simp [Instr.box, newVar, newRow]

theorem allock_ok {t : TypeId} {K : AVal → Heap → Prop} (hb : bytesOk P t = true) (h : BOXK (zeroOf P t) H K) : OpOk P (Instr.alloc t true (.tuple #[])) w I B K := by
  obtain ⟨inf, h1, h2, _⟩ := info_of hb
  cases hz : inf.zero with
  | none =>
    have : zeroOf P t = .junk := by simp [zeroOf, h1, hz]
    rw [this] at h
    simp [BOXK, cellsOfV, AVal.one] at h
  | some z =>
    have : zeroOf P t = ofV z := by simp [zeroOf, h1, hz]
    rw [this] at h
    obtain ⟨cs, hK, hc⟩ := cellsOfV_ok h (ofV_rel w I z)
    obtain ⟨hH', he⟩ := hH.new hc z.cells [] t (by simp)
    refine ⟨.pointer (some ⟨w.heap.size, 0, none⟩), w.alloc (.cells z.cells t), I, _, _, ?_, hK w.heap.size, hH', by simp only [VRel], he⟩
    simp [Instr.alloc, zeroValue, typeInfo, h1, hz, newVar, newRow]

theorem stk_ok {t : TypeId} {p v : AVal} {vp u : Value} {K : Heap → Prop} (hb : bytesOk P t = true) (h : STK (szOf P t) H p v K) (hp : VRel w I p vp) (hv : VRel w I v u) :
    ∃ w' I' H', (Instr.storeAt t vp u).run P w = .ok () w' ∧ K H' ∧ HRel w' I' B H' ∧ Ext B w I w' I' := by
  obtain ⟨inf, h1, h2, _⟩ := info_of hb
  unfold STK at h
  split at h
  · rename_i i g off
    obtain ⟨cs, hg, hc⟩ := h
    simp only [VRel] at hp
    subst hp
    obtain ⟨cur, T, us, rest, h3, h4, h5, h6, h7⟩ := cells_own hH hg
    have key : ∀ (cs' : List AVal) (K' : Prop), K' → (K' → K (hset H i g cs')) → ∀ vs : List Value, u.cells.toList = vs → vs.length = szOf P t → off + vs.length ≤ us.length → CRels w I cs' (us.take off ++ vs ++ us.drop (off + vs.length)) → (∀ x ∈ vs, x.oneCell' = true) →
        ∃ w' I' H', (Instr.storeAt t (.pointer (some ⟨g, off, none⟩)) u).run P w = .ok () w' ∧ K H' ∧ HRel w' I' B H' ∧ Ext B w I w' I' := by
      intro cs' K' hK' hK vs huv hlen hle hcr hone
      have hsz : cur.size = us.length + rest.length := by rw [← Array.length_toList, h4]; simp
      have hst := run_storeCells_at P g off T vs 0 cur w h3 (by omega) hone
      have harr : (cur.toList.take (off + 0) ++ vs ++ cur.toList.drop (off + 0 + vs.length)).toArray.toList = (us.take off ++ vs ++ us.drop (off + vs.length)) ++ rest := by
        simp only [Nat.add_zero, h4]
        rw [List.take_append_of_le_length (by omega), List.drop_append_of_le_length (by omega)]
        simp
      obtain ⟨hH', he⟩ := hH.put hg h3 hcr _ rest harr (by
        simp only [List.size_toArray, List.length_append, List.length_take, List.length_drop, Array.length_toList]
        omega)
      refine ⟨_, I, _, ?_, hK hK', hH', he⟩
      have hcs : u.cells.size = inf.size := by rw [← Array.length_toList, huv, hlen, h2]
      simp [Instr.storeAt, Instr.sureAddr, storeVar, run_sizeOf h1, hcs, huv, hst]
    split at hc
    · rename_i vs
      obtain ⟨hl, hle, hK⟩ := hc
      simp only [VRel] at hv
      obtain ⟨ws, rfl, hws, hone⟩ := hv
      have hlw := hws.length
      refine key _ _ hK id ws.toList (by simp [Value.cells]) (by rw [hlw, hl]) (by rw [hlw, hl, h6]; exact hle) ⟨?_, ?_⟩ hone
      · rw [hlw, hl]
        exact ((h5.1.take off).append hws).append (h5.1.drop _)
      · intro x hx
        simp only [List.mem_append] at hx
        rcases hx with (hx | hx) | hx
        · exact h5.2 x (List.mem_of_mem_take hx)
        · exact hone x hx
        · exact h5.2 x (List.mem_of_mem_drop hx)
    · obtain ⟨hn, ho, hlt, hK⟩ := hc
      have h1c := hv.one ho
      have huc : u.cells.toList = [u] := by cases u <;> first | rfl | (simp [Value.oneCell'] at h1c)
      have hset : us.take off ++ [u] ++ us.drop (off + 1) = us.set off u := by
        rw [List.set_eq_take_append_cons_drop, if_pos (by rw [h6]; exact hlt)]
        simp
      refine key _ _ hK id [u] huc (by simp [hn]) (by simp; rw [h6]; omega) ?_ (by simpa using h1c)
      simp only [List.length_singleton]
      rw [hset]
      exact ⟨h5.1.set off hv, fun x hx => by
        rcases List.mem_or_eq_of_mem_set hx with hx | hx
        · exact h5.2 x hx
        · exact hx ▸ h1c⟩
  · exact h.elim

end
end Go.Proofs.Ytccioplhchmilaa.AL
