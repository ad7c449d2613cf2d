/-
  An abstract program logic over the kit's model, part 7: strings and bytes, comparisons, clear, copy, structs; and any operation.
-/
import Derived.Test.YtccioplhchmilaaA6
import Derived.Laws.BytesArg
import Derived.Lib.ConvBytes
set_option linter.unusedVariables false
set_option linter.unusedSimpArgs false
namespace Go.Proofs.Ytccioplhchmilaa.AL
open Go Go.RowKit

section
variable {P : Program} {w : World} {I : Nat → Prop} {B : Nat} {H : Heap} (hH : HRel w I B H)
include hH

omit hH in
theorem bytes_cells {cs : List AVal} {us : List Value} (h : VRels w I cs us) (hb : ∀ c ∈ cs, isByteA c = true) : ∃ xs : List Int, us = xs.map (Value.int .u8) ∧ strOfNums xs = bytesOfCells cs := by
  induction cs generalizing us with
  | nil => simp only [VRels] at h; subst h; exact ⟨[], rfl, rfl⟩
  | cons c cs ih =>
    simp only [VRels] at h
    obtain ⟨u, rest, rfl, h1, h2⟩ := h
    obtain ⟨xs, rfl, hx⟩ := ih h2 (fun c hc => hb c (by simp [hc]))
    have hc := hb c (by simp)
    cases c <;> simp only [isByteA, VRel] at hc h1 <;> try cases hc
    rename_i k n
    cases k <;> simp only [isByteA] at hc <;> try cases hc
    subst h1
    refine ⟨n :: xs, rfl, ?_⟩
    simp only [strOfNums, bytesOfCells, List.map_cons, byteOfA] at hx ⊢
    injection hx with hx
    have hx' : (xs.map fun n => UInt8.ofNat n.toNat) = cs.map byteOfA := by simpa using hx
    rw [hx']

theorem sobk_ok {x : AVal} {vx : Value} {s d e : TypeId} {K : AVal → Prop} (hs : P.underlying s = some (.slice e)) (he : P.underlying e = some (.int .u8)) (hd : P.underlying d = some .string) (h : SOBK H x K) (hx : VRel w I x vx) :
    OpOk P (convert s d vx) w I B fun v H' => H' = H ∧ K v := by
  unfold SOBK at h
  obtain ⟨m, ns, us, ⟨hby, hK⟩, hsrc⟩ := elemsOf_ok hH h hx
  obtain ⟨xs, rfl, hxs⟩ := bytes_cells hsrc.1.1 hby
  refine ok_same hH (v := .str (bytesOfCells ns)) (u := .string (bytesOfCells ns)) ?_ ⟨rfl, hK⟩ (by simp only [VRel])
  rw [← hxs]
  obtain ⟨_, hl, hsrc | ⟨rfl, c, rfl⟩⟩ := hsrc
  · obtain ⟨a, c, rfl, hcell⟩ := hsrc
    simp only [List.length_map, Nat.mul_one] at hl
    cases hsp : a.spot with
    | none =>
      obtain ⟨ab, ao, asp⟩ := a
      simp only at hsp
      subst hsp
      exact run_convert_bytes_arg w s e hs he ab ao m c xs hl (fun i hi => by
        have := hcell i (.int .u8 (xs.getD i 0)) (by simp [List.getD, List.getElem?_eq_getElem (show i < xs.length by omega)])
        rwa [addr_add] at this) d hd
    | some sp =>
      have hm : m = 0 := by
        rcases Nat.eq_zero_or_pos m with h0 | h0
        · exact h0
        · have := hcell 0 (.int .u8 (xs.getD 0 0)) (by simp [List.getD, List.getElem?_eq_getElem (show 0 < xs.length by omega)])
          simp only [Addr.add, if_true, World.cell?, hsp, Option.isSome_some, ↓reduceIte] at this
          split at this <;> cases this
      subst hm
      have : xs = [] := List.eq_nil_of_length_eq_zero hl
      subst this
      rw [run_convert_bytes_string w s d e _ 0 c hs he hd]
      simp [Conv.bytesToString, loadCells, loadCellsFrom, strOfNums]
      rfl
  · have : xs = [] := List.eq_nil_of_length_eq_zero (by simpa using hl)
    subst this
    exact run_convert_bytes_nil w s e hs he 0 c d hd

theorem bosk_ok {x : AVal} {vx : Value} {s d e : TypeId} {K : AVal → Prop} (hs : P.underlying s = some .string) (hd : P.underlying d = some (.slice e)) (he : P.underlying e = some (.int .u8)) (h : BOSK x K) (hx : VRel w I x vx) :
    OpOk P (convert s d vx) w I B fun v H' => H' = H ∧ K v := by
  unfold BOSK at h
  split at h
  · rename_i q
    obtain ⟨hsz, hK⟩ := h
    simp only [VRel] at hx
    subst hx
    have hr := Lib.run_convert_string_bytes (P := P) w s d e q hs hd he
    let w' := Lib.bytesWorld w e q
    let I' : Nat → Prop := fun g => I g ∨ g = w.heap.size
    have hsize : w'.heap.size = w.heap.size + 1 := Lib.bytesWorld_size w e q
    have hold : ∀ j, j < w.heap.size → w'.heap[j]? = w.heap[j]? := Lib.bytesWorld_at_old w e q
    have hext : Ext B w I w' I' := by
      refine ⟨⟨rfl, rfl, rfl, by omega, fun k hk => hold k (Nat.lt_of_lt_of_le hk hH.base)⟩, fun g hg => .inl hg, fun g hg => hold g (hH.imm g hg), fun g cur T fr hg => ?_⟩
      exact ⟨cur, fr, by rw [hold g (Array.getElem?_eq_some_iff.1 hg).1]; exact hg, rfl⟩
    have hH' : HRel w' I' B H := hH.of_ext hext (fun i g cs hg => ⟨hold g (hH.lt hg), fun h => by
      rcases h with h | h
      · exact (hH.blk i g cs hg).out h
      · have := hH.lt hg; omega⟩) (fun g hg => by
      rcases hg with hg | hg
      · have := hH.imm g hg; omega
      · omega)
    refine ⟨_, w', I', .sl false q.size (cellsOfBytes q), H, hr, ⟨rfl, hK⟩, hH', ?_, hext⟩
    have hcap := grownCap_ge w q.size 0 e
    have hlen : q.data.toList.length = q.size := by rw [Array.length_toList]; rfl
    simp only [VRel]
    refine .inr ⟨w.heap.size, 0, _, q.data.toList.map (fun b => Value.int .u8 b.toNat), rfl, hcap, (fun h => by cases h), .inr rfl, fun j u hu => ?_, fun u hu => ?_, ?_⟩
    · rw [Nat.zero_add]
      have hj : j < q.size := by
        rcases Nat.lt_or_ge j q.size with h | h
        · exact h
        · rw [List.getElem?_eq_none (by simp [hlen]; omega)] at hu; cases hu
      rw [Lib.bytesWorld_cell w e q j hj]
      rw [List.getElem?_map] at hu
      rw [List.getElem?_eq_getElem (by omega)] at hu
      simp at hu
      subst hu
      have hj' : j < q.data.size := hj
      simp [List.getD, List.getElem?_eq_getElem (show j < q.data.toList.length from by simpa using hj')]
    · obtain ⟨b, _, rfl⟩ := List.mem_map.1 hu; rfl
    · refine VRels_iff.2 ⟨by simp [cellsOfBytes], fun j c u hc hu => ?_⟩
      simp only [cellsOfBytes, List.getElem?_map] at hc hu
      cases hq : q.data.toList[j]? with
      | none => rw [hq] at hc; cases hc
      | some b =>
        rw [hq] at hc hu
        simp at hc hu
        subst hc
        subst hu
        simp [VRel]
  · exact h.elim

theorem arik_ok {op : BinOp} {t : TypeId} {k k' : IntKind} {a b : Int} {K : AVal → Prop} (h : ariK op k a b K) (hk : k = k' ∨ op = .shl ∨ op = .shr) : OpOk P (binOp op t (.int k a) (.int k' b)) w I B fun v H' => H' = H ∧ K v := by
  have same : ∀ {s : Sem Value} {v : AVal} {u : Value}, s.run P w = .ok u w → K v → VRel w I v u → OpOk P s w I B fun v H' => H' = H ∧ K v := fun hr hK hv => ok_same hH hr ⟨rfl, hK⟩ hv
  have hkk : op ≠ .shl → op ≠ .shr → k = k' := fun h1 h2 => by rcases hk with h | h | h <;> first | exact h | exact absurd h (by assumption)
  cases op <;> simp only [ariK] at h
  case add => obtain rfl := hkk (by simp) (by simp); exact same (v := .int k (k.wrap (a + b))) (u := .int k (k.wrap (a + b))) (by simp [binOp, Op.intArith]) h (by simp [VRel])
  case sub => obtain rfl := hkk (by simp) (by simp); exact same (v := .int k (k.wrap (a - b))) (u := .int k (k.wrap (a - b))) (by simp [binOp, Op.intArith]) h (by simp [VRel])
  case mul => obtain rfl := hkk (by simp) (by simp); exact same (v := .int k (k.wrap (a * b))) (u := .int k (k.wrap (a * b))) (by simp [binOp, Op.intArith]) h (by simp [VRel])
  case quo => obtain rfl := hkk (by simp) (by simp); exact same (v := .int k (k.wrap (a.tdiv b))) (u := .int k (k.wrap (a.tdiv b))) (by simp [binOp, Op.intDiv, h.1]) h.2 (by simp [VRel])
  case rem => obtain rfl := hkk (by simp) (by simp); exact same (v := .int k (a.tmod b)) (u := .int k (a.tmod b)) (by simp [binOp, Op.intDiv, h.1]) h.2 (by simp [VRel])
  case eql => obtain rfl := hkk (by simp) (by simp); exact same (v := .bool (a == b)) (u := .bool (a == b)) (by simp [binOp, Op.intCmp]) h (by simp [VRel])
  case neq => obtain rfl := hkk (by simp) (by simp); exact same (v := .bool (a != b)) (u := .bool (a != b)) (by simp [binOp, Op.intCmp]) h (by simp [VRel])
  case lss => obtain rfl := hkk (by simp) (by simp); exact same (v := .bool (decide (a < b))) (u := .bool (decide (a < b))) (by simp [binOp, Op.intCmp]) h (by simp [VRel])
  case leq => obtain rfl := hkk (by simp) (by simp); exact same (v := .bool (decide (a ≤ b))) (u := .bool (decide (a ≤ b))) (by simp [binOp, Op.intCmp]) h (by simp [VRel])
  case gtr => obtain rfl := hkk (by simp) (by simp); exact same (v := .bool (decide (a > b))) (u := .bool (decide (a > b))) (by simp [binOp, Op.intCmp]) h (by simp [VRel])
  case geq => obtain rfl := hkk (by simp) (by simp); exact same (v := .bool (decide (a ≥ b))) (u := .bool (decide (a ≥ b))) (by simp [binOp, Op.intCmp]) h (by simp [VRel])
  case and => obtain rfl := hkk (by simp) (by simp); exact same (v := .int k (k.wrap (BitVec.ofInt k.bits a &&& BitVec.ofInt k.bits b).toNat)) (u := .int k (k.wrap (BitVec.ofInt k.bits a &&& BitVec.ofInt k.bits b).toNat)) (by simp [binOp, Op.intBits]) h (by simp [VRel])
  case or => obtain rfl := hkk (by simp) (by simp); exact same (v := .int k (k.wrap (BitVec.ofInt k.bits a ||| BitVec.ofInt k.bits b).toNat)) (u := .int k (k.wrap (BitVec.ofInt k.bits a ||| BitVec.ofInt k.bits b).toNat)) (by simp [binOp, Op.intBits]) h (by simp [VRel])
  case shl =>
    have h0 : ¬ b < 0 := by omega
    exact same (v := .int k (k.wrap (a * 2 ^ (min b.toNat k.bits)))) (u := .int k (k.wrap (a * 2 ^ (min b.toNat k.bits)))) (by simp [binOp, Op.shift, h0]) h.2 (by simp [VRel])
  case shr =>
    have h0 : ¬ b < 0 := by omega
    exact same (v := .int k (a.fdiv (2 ^ (min b.toNat k.bits)))) (u := .int k (a.fdiv (2 ^ (min b.toNat k.bits)))) (by simp [binOp, Op.shift, h0]) h.2 (by simp [VRel])

theorem bink_ok {op : BinOp} {t : TypeId} {x y : AVal} {vx vy : Value} {K : AVal → Prop} (h : BINK op x y K) (hx : VRel w I x vx) (hy : VRel w I y vy) : OpOk P (binOp op t vx vy) w I B fun v H' => H' = H ∧ K v := by
  have same : ∀ {s : Sem Value} {v : AVal} {u : Value}, s.run P w = .ok u w → K v → VRel w I v u → OpOk P s w I B fun v H' => H' = H ∧ K v := fun hr hK hv => ok_same hH hr ⟨rfl, hK⟩ hv
  unfold BINK at h
  split at h
  · rename_i k a k' b
    simp only [VRel] at hx hy
    subst hx
    subst hy
    split at h
    · exact arik_ok hH h (.inr (.inl rfl))
    · exact arik_ok hH h (.inr (.inr rfl))
    · exact arik_ok hH h.2 (.inl h.1)
  · rename_i a b
    simp only [VRel] at hx hy
    subst hx
    subst hy
    unfold strK at h
    split at h
    · obtain ⟨hs, hK⟩ := h
      have h63 : ¬ (9223372036854775807 < ((a.size : Int) + (b.size : Int))) := by omega
      exact same (v := .str (a ++ b)) (u := .string (a ++ b)) (by simp [binOp, Op.stringOp, h63]) hK (by simp [VRel])
    · exact same (v := .bool (a.toList == b.toList)) (u := .bool (a.toList == b.toList)) (by simp [binOp, Op.stringOp]) h (by simp [VRel])
    · exact same (v := .bool !(a.toList == b.toList)) (u := .bool !(a.toList == b.toList)) (by simp [binOp, Op.stringOp]) h (by simp [VRel])
    · exact h.elim
  · exact h.elim

omit hH in
theorem run_eqS (d : Nat) {t e : TypeId} {a b : Option Addr} {n c n' c' : Nat} (hu : P.underlying t = some (.slice e)) (hab : a = none ∨ b = none) : (Op.equalIn (d + 1) t (.slice a n c) (.slice b n' c')).run P w = .ok (a.isNone && b.isNone) w := by
  cases a <;> cases b <;> simp [Op.equalIn, run_underlying hu] at hab ⊢
omit hH in
theorem run_eqB (d : Nat) {t : TypeId} {a b : Bool} (hu : P.underlying t = some .bool) : (Op.equalIn (d + 1) t (.bool a) (.bool b)).run P w = .ok (a == b) w := by
  simp [Op.equalIn, run_underlying hu]

theorem eqb_ok {op : BinOp} {t : TypeId} {x y : AVal} {vx vy : Value} {K : AVal → Prop} (hu : P.underlying t = some .bool) (h : EQB op x y K) (hx : VRel w I x vx) (hy : VRel w I y vy) :
    OpOk P (binOp op t vx vy) w I B fun v H' => H' = H ∧ K v := by
  have eqB : ∀ (a b : Bool), (Op.equal t (.bool a) (.bool b)).run P w = .ok (a == b) w := fun a b => run_eqB 9999 hu
  unfold EQB at h
  split at h
  · rename_i a b
    simp only [VRel] at hx hy
    subst hx
    subst hy
    exact ok_same hH (v := .bool (a == b)) (u := .bool (a == b)) (by simp [binOp, eqB]) ⟨rfl, h⟩ (by simp [VRel])
  · rename_i a b
    simp only [VRel] at hx hy
    subst hx
    subst hy
    exact ok_same hH (v := .bool !(a == b)) (u := .bool !(a == b)) (by simp [binOp, eqB]) ⟨rfl, h⟩ (by simp [VRel])
  · exact h.elim

theorem eqs_ok {op : BinOp} {t e : TypeId} {x y : AVal} {vx vy : Value} {K : AVal → Prop} (hu : P.underlying t = some (.slice e)) (h : EQS op x y K) (hx : VRel w I x vx) (hy : VRel w I y vy) :
    OpOk P (binOp op t vx vy) w I B fun v H' => H' = H ∧ K v := by
  have same : ∀ {s : Sem Value} {v : AVal} {u : Value}, s.run P w = .ok u w → K v → VRel w I v u → OpOk P s w I B fun v H' => H' = H ∧ K v := fun hr hK hv => ok_same hH hr ⟨rfl, hK⟩ hv
  have eqS : ∀ (a b : Option Addr) (n c n' c' : Nat), (a = none ∨ b = none) → (Op.equal t (.slice a n c) (.slice b n' c')).run P w = .ok (a.isNone && b.isNone) w := fun a b n c n' c' hab => run_eqS 9999 hu hab
  unfold EQS at h
  split at h
  · simp only [VRel] at hx hy
    subst hx
    subst hy
    exact same (v := .bool true) (u := .bool true) (by simp [binOp, eqS _ _ _ _ _ _ (.inl rfl)]) h (by simp [VRel])
  · simp only [VRel] at hx hy
    subst hx
    subst hy
    exact same (v := .bool !true) (u := .bool !true) (by simp [binOp, eqS _ _ _ _ _ _ (.inl rfl)]) h (by simp [VRel])
  · simp only [VRel] at hx hy
    obtain ⟨c, rfl, _⟩ := hx
    subst hy
    exact same (v := .bool false) (u := .bool false) (by simp [binOp, eqS _ _ _ _ _ _ (.inr rfl)]) h (by simp [VRel])
  · simp only [VRel] at hx hy
    obtain ⟨c, rfl, _⟩ := hx
    subst hy
    exact same (v := .bool !false) (u := .bool !false) (by simp [binOp, eqS _ _ _ _ _ _ (.inr rfl)]) h (by simp [VRel])
  · exact h.elim

theorem mmk_ok {isMax : Bool} {tys : Array TypeId} {ty : TypeId} {vs : List AVal} {us : List Value} {K : AVal → Prop} (h : MMK isMax vs K) (hv : VRels w I vs us) :
    OpOk P (if isMax then Builtin.max_ tys ty us.toArray else Builtin.min_ tys ty us.toArray) w I B fun v H' => H' = H ∧ K v := by
  unfold MMK at h
  split at h
  · rename_i k a k' b
    simp only [VRels, VRel] at hv
    obtain ⟨u, rest, rfl, rfl, u2, rest2, rfl, rfl, rfl⟩ := hv
    cases isMax with
    | true => exact ok_same hH (v := .int k (if b > a then b else a)) (u := .int k (if b > a then b else a)) (by simp [Builtin.max_, Builtin.max2]) ⟨rfl, by simpa using h⟩ (by simp [VRel])
    | false => exact ok_same hH (v := .int k (if b < a then b else a)) (u := .int k (if b < a then b else a)) (by simp [Builtin.min_, Builtin.min2]) ⟨rfl, by simpa using h⟩ (by simp [VRel])
  · exact h.elim

/-- Part of an own block is written. -/
theorem own_write {i g : Nat} {cs : List AVal} {off : Nat} {ns : List AVal} {us : List Value} (hg : hget H i = some (g, cs)) (hn : CRels w I ns us) (hle : off + us.length ≤ cs.length) :
    ∃ w', (storeCells ⟨g, off, none⟩ us).run P w = .ok () w' ∧ HRel w' I B (hset H i g (cs.take off ++ ns ++ cs.drop (off + us.length))) ∧ Ext B w I w' I := by
  obtain ⟨cur, T, os, rest, h3, h4, h5, h6, h7⟩ := cells_own hH hg
  have hsz : cur.size = os.length + rest.length := by rw [← Array.length_toList, h4]; simp
  have hst := run_storeCells_at P g off T us 0 cur w h3 (by omega) hn.2
  have harr : (cur.toList.take (off + 0) ++ us ++ cur.toList.drop (off + 0 + us.length)).toArray.toList = (os.take off ++ us ++ os.drop (off + us.length)) ++ rest := by
    simp only [Nat.add_zero, h4]
    rw [List.take_append_of_le_length (by omega), List.drop_append_of_le_length (by omega)]
    simp
  have hcr : CRels w I (cs.take off ++ ns ++ cs.drop (off + us.length)) (os.take off ++ us ++ os.drop (off + us.length)) := ⟨((h5.1.take off).append hn.1).append (h5.1.drop _), fun u hu => by
    simp only [List.mem_append] at hu
    rcases hu with (hu | hu) | hu
    · exact h5.2 u (List.mem_of_mem_take hu)
    · exact hn.2 u hu
    · exact h5.2 u (List.mem_of_mem_drop hu)⟩
  obtain ⟨hH', he⟩ := hH.put hg h3 hcr _ rest harr (by
    simp only [List.size_toArray, List.length_append, List.length_take, List.length_drop, Array.length_toList]
    omega)
  exact ⟨_, hst, hH', he⟩

theorem clrk_ok {t ty e : TypeId} {x : AVal} {vx : Value} {K : AVal → Heap → Prop} (hu : P.underlying t = some (.slice e)) (hb : bytesOk P e = true) (h : CLRK (szOf P e) (zeroOf P e) H x K) (hx : VRel w I x vx) :
    OpOk P (Builtin.clear_ #[t] ty #[vx]) w I B K := by
  obtain ⟨inf, h1, h2, _⟩ := info_of hb
  have htup : VRel w I (.tup []) (.tuple #[]) := by simp [VRel, VRels]
  unfold CLRK at h
  split at h
  · simp only [VRel] at hx
    subst hx
    exact ok_same hH (by simp [Builtin.clear_, run_underlying hu]) h htup
  · obtain ⟨rfl, hK⟩ := h
    have : ∃ ad c, vx = .slice ad 0 c := by
      simp only [VRel] at hx
      rcases hx with ⟨_, _, ad, c, rfl, _⟩ | ⟨g, off, c, us, rfl, _⟩
      · exact ⟨ad, c, rfl⟩
      · exact ⟨_, c, rfl⟩
    obtain ⟨ad, c, rfl⟩ := this
    cases ad <;> exact ok_same hH (by simp [Builtin.clear_, run_underlying hu]) hK htup
  · rename_i i g es' off n
    obtain ⟨rfl, h⟩ := h
    cases hz : inf.zero with
    | none =>
      have : zeroOf P e = .junk := by simp [zeroOf, h1, hz]
      rw [this] at h
      simp [cellsOfV, AVal.one] at h
    | some z =>
      have hzz : zeroOf P e = ofV z := by simp [zeroOf, h1, hz]
      rw [hzz] at h
      obtain ⟨zs, ⟨hzl, cs, hg, hle, hK⟩, hc⟩ := cellsOfV_ok h (ofV_rel w I z)
      simp only [VRel] at hx
      obtain ⟨c, rfl, _⟩ := hx
      have hzl2 : z.cells.toList.length = szOf P e := by rw [hc.1.length, hzl]
      have hrl : (List.replicate n z.cells.toList).flatten.length = n * szOf P e := by simp at hzl2; simp [hzl2]
      have hzc : (Builtin.zeroCells z.cells n).toList = (List.replicate n z.cells.toList).flatten := by
        have := toList_madeCells z.cells n
        rw [← this]
        simp [Builtin.zeroCells, madeCells]
      obtain ⟨w', hr, hH', he⟩ := own_write (P := P) hH hg (rep_rel hc n) (off := off) (by rw [hrl]; exact hle)
      rw [hrl] at hH'
      refine ⟨.tuple #[], w', I, _, _, ?_, hK, hH', by simp [VRel, VRels], he⟩
      cases n with
      | zero =>
        simp only [List.replicate_zero, List.flatten_nil] at hr
        have hw : w' = w := by
          have : (storeCells ⟨g, off, none⟩ ([] : List Value)).run P w = .ok () w := by simp [storeCells]
          rw [this] at hr
          injection hr with _ hr; exact hr.symm
        subst hw
        simp [Builtin.clear_, run_underlying hu]
      | succ n => simp [Builtin.clear_, run_underlying hu, zeroValue, typeInfo, h1, hz, hzc, hr]
  · exact h.elim

theorem cpyk_ok {t u ty e : TypeId} {d x : AVal} {vd vx : Value} {K : AVal → Heap → Prop} (hu : P.underlying t = some (.slice e)) (hb : bytesOk P e = true) (h : CPYK (szOf P e) H d x K) (hd : VRel w I d vd) (hx : VRel w I x vx) :
    OpOk P (Builtin.copy_ #[t, u] ty #[vd, vx]) w I B K := by
  obtain ⟨inf, h1, h2, _⟩ := info_of hb
  unfold CPYK at h
  split at h
  · rename_i i g es' off n
    obtain ⟨m, ns, us, ⟨rfl, cs, hg, hle, hK⟩, hsrc⟩ := elemsOf_ok hH h hx
    simp only [VRel] at hd
    obtain ⟨c, rfl, _⟩ := hd
    have hmin : Nat.min m n ≤ n := Nat.min_le_right _ _
    have hmin' : Nat.min m n ≤ m := Nat.min_le_left _ _
    have hm1 : Nat.min m n * szOf P e ≤ n * szOf P e := Nat.mul_le_mul_right _ hmin
    have hm2 : Nat.min m n * szOf P e ≤ m * szOf P e := Nat.mul_le_mul_right _ hmin'
    have htl : (us.take (Nat.min m n * szOf P e)).length = Nat.min m n * szOf P e := by rw [List.length_take, hsrc.2.1]; omega
    have hcr : CRels w I (ns.take (Nat.min m n * szOf P e)) (us.take (Nat.min m n * szOf P e)) := ⟨hsrc.1.1.take _, fun u hu => hsrc.1.2 u (List.mem_of_mem_take hu)⟩
    obtain ⟨w', hr, hH', he⟩ := own_write (P := P) hH hg hcr (off := off) (by rw [htl]; omega)
    rw [htl] at hH'
    have hlen := hsrc.lenOf (P := P) w
    have hf : (Builtin.firstCells (szOf P e) (Nat.min m n) vx).run P w = .ok (us.take (Nat.min m n * szOf P e)).toArray w := by
      obtain ⟨_, hl, hsrc | ⟨rfl, c', rfl⟩⟩ := hsrc
      · obtain ⟨a, c', rfl, hcell⟩ := hsrc
        refine run_firstCells_some w (szOf P e) (Nat.min m n) a m c' _ htl (fun j v hv => ?_)
        rw [List.getElem?_take] at hv
        split at hv
        · exact hcell j v hv
        · cases hv
      · have : us = [] := List.eq_nil_of_length_eq_zero (by simpa using hl)
        subst this
        simp [Builtin.firstCells]
    refine ⟨.int .i64 (Nat.min m n), w', I, _, _, ?_, hK, hH', by simp [VRel], he⟩
    simp only [Nat.min_def] at hr hf ⊢
    simp [Builtin.copy_, run_underlying hu, hlen, run_sizeOf h1, h2, goInt, Nat.min_def, hf, hr]
  · exact h.elim

end
end Go.Proofs.Ytccioplhchmilaa.AL
