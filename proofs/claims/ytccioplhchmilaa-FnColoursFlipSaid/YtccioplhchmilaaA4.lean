/-
  An abstract program logic over the kit's model, part 4: make, literals, append, len, cuts.
-/
import Derived.Test.YtccioplhchmilaaA3
import Derived.Laws.MakeOwn
import Derived.Laws.OwnMore
set_option linter.unusedVariables false
set_option linter.unusedSimpArgs false
namespace Go.Proofs.Ytccioplhchmilaa.AL
open Go Go.RowKit

section
variable {P : Program} {w : World} {I : Nat → Prop} {B : Nat} {H : Heap} (hH : HRel w I B H)
include hH

omit hH in
theorem rep_rel {zs : List AVal} {us : List Value} (h : CRels w I zs us) : ∀ n, CRels w I (rep n zs) (List.replicate n us).flatten
  | 0 => by simp [rep, CRels, VRels]
  | n + 1 => by
    have ih := rep_rel h n
    simp only [rep, List.replicate_succ, List.flatten_cons] at ih ⊢
    exact ⟨h.1.append ih.1, fun u hu => by
      rcases List.mem_append.1 hu with hu | hu
      · exact h.2 u hu
      · exact ih.2 u hu⟩

omit hH in
theorem toList_madeCells (z : Array Value) (n : Nat) : (madeCells z (n * z.size)).toList = (List.replicate n z.toList).flatten := by
  by_cases hz : z.size = 0
  · have : z = #[] := by simpa using hz
    subst this
    induction n with
    | zero => simp [madeCells]
    | succ n ih => simp [madeCells]
  · apply List.ext_getElem?
    intro j
    have hfl : ∀ m, ((List.replicate m z.toList).flatten).length = m * z.size := by intro m; simp
    by_cases hj : j < n * z.size
    · have e1 : (madeCells z (n * z.size)).toList[j]? = z[j % z.size]? := by
        have hm : j % z.size < z.size := Nat.mod_lt _ (by omega)
        simp [madeCells, hj, hm]
      rw [e1]
      clear e1
      induction n generalizing j with
      | zero => omega
      | succ n ih =>
        rw [List.replicate_succ, List.flatten_cons]
        by_cases hj0 : j < z.size
        · rw [List.getElem?_append_left (by simpa using hj0), Nat.mod_eq_of_lt hj0]; simp
        · rw [List.getElem?_append_right (by simp; omega), ← Array.length_toList, Array.length_toList, Nat.mod_eq_sub_mod (by omega)]
          exact ih (j - z.size) (by rw [Nat.succ_mul] at hj; omega)
    · rw [List.getElem?_eq_none (by simp [size_madeCells]; omega), List.getElem?_eq_none (by rw [hfl]; omega)]

theorem mkk_ok {t e : TypeId} {n : AVal} {vn : Value} {K : AVal → Heap → Prop} (hu : P.underlying t = some (.slice e)) (hb : bytesOk P e = true) (h : MKK (szOf P e) (zeroOf P e) n H K) (hn : VRel w I n vn) :
    OpOk P (Instr.makeSlice t vn vn) w I B K := by
  obtain ⟨inf, h1, h2, h3, h4, h5⟩ := info_of hb
  unfold MKK at h
  split at h
  · rename_i k m
    obtain ⟨h0, hle, hK⟩ := h
    simp only [VRel] at hn
    subst hn
    cases hz : inf.zero with
    | none =>
      have : zeroOf P e = .junk := by simp [zeroOf, h1, hz]
      rw [this] at hK
      simp [cellsOfV, AVal.one] at hK
    | some z =>
      have hzz : zeroOf P e = ofV z := by simp [zeroOf, h1, hz]
      rw [hzz] at hK
      obtain ⟨zs, ⟨hzl, hK⟩, hc⟩ := cellsOfV_ok hK (ofV_rel w I z)
      have hsz : z.cells.size = inf.size := by
        have := hc.1.length
        rw [Array.length_toList] at this
        omega
      have hbn : (inf.bytes : Int) * m ≤ 281474976710656 := by
        have : (inf.bytes : Int) * m ≤ 1000 * 1000000000 := Int.mul_le_mul (by omega) hle h0 (by omega)
        omega
      have hr := run_make (P := P) w t e inf z hu h1 hz k k m m h0 (Int.le_refl _) hbn (by omega)
      have hcl := toList_madeCells z.cells m.toNat
      rw [hsz] at hcl
      obtain ⟨hH', he⟩ := hH.new (rep_rel hc m.toNat) (madeCells z.cells (m.toNat * inf.size)) [] e (by rw [hcl]; simp)
      refine ⟨_, _, I, _, _, hr, hK w.heap.size, hH', ?_, he⟩
      simp only [VRel]
      refine ⟨m.toNat, rfl, Nat.le_refl _, by simp only [maxLen]; omega, _, _, _, heap_alloc_new w _, ?_⟩
      rw [size_madeCells, h2]; omega
  · exact h.elim

/-! literals -/
omit hH in
theorem inOrder_spec : ∀ (ps : List (Nat × Operand)) (k : Nat) (xs : List Operand), inOrder k ps = some xs → ∃ f : List (Nat × Operand) → List Operand, ps = (xs.zipIdx k).map fun x => (x.2, x.1)
  | [], k, xs, h => by simp only [inOrder, Option.some.injEq] at h; subst h; exact ⟨fun _ => [], rfl⟩
  | (j, x) :: ps, k, xs, h => by
    simp only [inOrder] at h
    cases hb : Nat.beq k j with
    | false => rw [hb] at h; cases h
    | true =>
      rw [hb] at h
      simp only [cond_true, Option.map_eq_some_iff] at h
      obtain ⟨ys, hy, rfl⟩ := h
      obtain ⟨f, hf⟩ := inOrder_spec ps (k + 1) ys hy
      refine ⟨f, ?_⟩
      have : k = j := Nat.eq_of_beq_eq_true hb
      subst this
      simp only [List.zipIdx_cons, List.map_cons, ← hf]

omit hH in
/-- Filling in order. -/
theorem fill_order (es : Nat) : ∀ (us : List Value) (k : Nat) (done : List Value) (tail : List Value), (∀ u ∈ us, u.cells.size = es) → done.length = k * es → tail.length = us.length * es →
    Instr.fill (fun i => some (i * es, es)) (done ++ tail).toArray ((us.zipIdx k).map fun x => (x.2, x.1)) = some (done ++ (us.map fun u => u.cells.toList).flatten).toArray
  | [], k, done, tail, _, _, ht => by
    have : tail = [] := List.eq_nil_of_length_eq_zero (by simpa using ht)
    subst this
    simp [Instr.fill]
  | u :: us, k, done, tail, hu, hd, ht => by
    have h1 : u.cells.size = es := hu u (by simp)
    have hsplit : tail = tail.take es ++ tail.drop es := (List.take_append_drop _ _).symm
    have hlt : es ≤ tail.length := by rw [ht]; simp [Nat.succ_mul]
    have hsz : ¬ (u.cells.size ≠ es ∨ k * es + u.cells.size > (done ++ tail).length) := by
      simp only [List.length_append]
      omega
    simp only [List.zipIdx_cons, List.map_cons, Instr.fill, List.size_toArray]
    rw [if_neg (by simpa using hsz)]
    have hfold : (u.cells.zipIdx.foldl (fun cs (x : Value × Nat) => cs.setIfInBounds (k * es + x.2) x.1) (done ++ tail).toArray) = (done ++ u.cells.toList ++ tail.drop es).toArray := by
      have gen : ∀ (l : List Value) (o : Nat) (pre post : List Value), pre.length = k * es + o → l.length ≤ post.length →
          ((l.zipIdx o).foldl (fun (cs : Array Value) (x : Value × Nat) => cs.setIfInBounds (k * es + x.2) x.1) (pre ++ post).toArray) = (pre ++ l ++ post.drop l.length).toArray := by
        intro l
        induction l with
        | nil => intro o pre post _ _; simp
        | cons x l ih =>
          intro o pre post hp hl
          cases post with
          | nil => simp at hl
          | cons y post =>
            simp only [List.zipIdx_cons, List.foldl_cons]
            have e : ((pre ++ y :: post).toArray.setIfInBounds (k * es + o) x) = ((pre ++ [x]) ++ post).toArray := by
              apply Array.ext'
              simp only [Array.toList_setIfInBounds]
              rw [← hp, List.set_append_right _ _ (Nat.le_refl _)]
              simp
            rw [e, ih (o + 1) (pre ++ [x]) post (by simp [hp]; omega) (by simpa using hl)]
            simp
      have := gen u.cells.toList 0 done tail (by simpa using hd) (by simp; omega)
      have hz : u.cells.zipIdx.toList = u.cells.toList.zipIdx 0 := by simp
      rw [← Array.foldl_toList, hz]
      simpa [h1] using this
    rw [hfold]
    have ih := fill_order es us (k + 1) (done ++ u.cells.toList) (tail.drop es) (fun v hv => hu v (by simp [hv])) (by simp [hd, h1, Nat.succ_mul]) (by simp [ht, Nat.succ_mul])
    rw [ih]
    simp

omit hH in
theorem allCells_ok {es : Nat} : ∀ {vs : List AVal} {us : List Value} {K : List AVal → Prop}, allCells es vs K → VRels w I vs us → ∃ cs, K cs ∧ CRels w I cs (us.map fun u => u.cells.toList).flatten ∧ ∀ u ∈ us, u.cells.size = es
  | [], us, K, h, hv => by
    simp only [VRels] at hv
    subst hv
    exact ⟨[], h, ⟨by simp [VRels], by simp⟩, by simp⟩
  | v :: vs, us, K, h, hv => by
    simp only [VRels] at hv
    obtain ⟨u, rest, rfl, h1, h2⟩ := hv
    obtain ⟨cs, ⟨hl, hK⟩, hc⟩ := cellsOfV_ok h h1
    obtain ⟨ds, hK, hd, hs⟩ := allCells_ok hK h2
    refine ⟨cs ++ ds, hK, ⟨by simpa using hc.1.append hd.1, ?_⟩, ?_⟩
    · intro x hx
      simp only [List.map_cons, List.flatten_cons, List.mem_append] at hx
      rcases hx with hx | hx
      · exact hc.2 x hx
      · exact hd.2 x hx
    · intro x hx
      rcases List.mem_cons.1 hx with rfl | hx
      · have := hc.1.length
        rw [Array.length_toList] at this
        omega
      · exact hs x hx

theorem bsk_ok {t e : TypeId} {len : Nat} {vs : List AVal} {us : List Value} {K : AVal → Heap → Prop} (hu : P.underlying t = some (.slice e)) (hb : bytesOk P e = true) (hl : len = vs.length) (hsm : len * szOf P e ≤ 100000)
    (hz0 : ∃ z, (P.info? e).bind (·.zero) = some z) (h : BSK (szOf P e) vs H K) (hv : VRels w I vs us) :
    OpOk P (Instr.buildSlice t len ((us.zipIdx 0).map fun x => (x.2, x.1)).toArray) w I B K := by
  obtain ⟨inf, h1, h2, h3, h4, h5⟩ := info_of hb
  obtain ⟨z, hz⟩ := hz0
  have hz : inf.zero = some z := by simpa [h1] using hz
  obtain ⟨cs, hK, hc, hs⟩ := allCells_ok h hv
  have hul := hv.length
  have hflen : ((us.map fun u => u.cells.toList).flatten).length = us.length * szOf P e := by
    clear hul hv hc h hK
    induction us with
    | nil => simp
    | cons u us ih =>
      simp only [List.map_cons, List.flatten_cons, List.length_append, Array.length_toList, List.length_cons]
      rw [ih (fun x hx => hs x (by simp [hx])), hs u (by simp), Nat.succ_mul]; omega
  have hfill := fill_order (szOf P e) us 0 [] (List.replicate (us.length * szOf P e) undef) hs (by simp) (by simp)
  have hany : ∀ arr : Array Value, arr.size = us.length * szOf P e → Instr.fill (fun i => some (i * szOf P e, szOf P e)) arr ((us.zipIdx 0).map fun x => (x.2, x.1)) = some ((us.map fun u => u.cells.toList).flatten).toArray := by
    intro arr ha
    have := fill_order (szOf P e) us 0 [] arr.toList hs (by simp) (by simpa using ha)
    simpa using this
  obtain ⟨hH', he⟩ := hH.new hc ((us.map fun u => u.cells.toList).flatten).toArray [] e (by simp)
  have hrun : (Instr.buildSlice t len ((us.zipIdx 0).map fun x => (x.2, x.1)).toArray).run P w = .ok (.slice (some ⟨w.heap.size, 0, none⟩) len len) { w with heap := w.heap.push (.cells ((us.map fun u => u.cells.toList).flatten).toArray e (0, 0)) } := by
    have hle : ¬ (16777216 < len * szOf P e) := by omega
    have hlen : len = us.length := by omega
    by_cases h0 : len * szOf P e = 0
    · have hf := hany (Array.map (fun x => default) (Array.range (len * szOf P e))) (by simp [hlen])
      simp [Instr.buildSlice, run_underlying hu, run_sizeOf h1, newRow, h2, hle, h0]
      simp [h0] at hf
      simp [hf]
    · have hf := hany (Array.map (fun x => z.cells[x % z.cells.size]!) (Array.range (len * szOf P e))) (by simp [hlen])
      simp [Instr.buildSlice, run_underlying hu, run_sizeOf h1, hle, h0, newRow, h2, zeroValue, typeInfo, h1, hz, hf]
  rcases hK with hK | hK
  · refine ⟨.slice (some ⟨w.heap.size, 0, none⟩) len len, _, I, _, _, hrun, hK w.heap.size, hH', ?_, he⟩
    simp only [VRel]
    refine ⟨len, by rw [hl], by omega, by simp only [maxLen]; have := Nat.le_mul_of_pos_right len (show 0 < szOf P e by omega); omega, _, _, _, heap_alloc_new w _, ?_⟩
    simp only [List.size_toArray, hflen]
    rw [hl, ← hul]; omega
  · have he2 : Ext B { w with heap := w.heap.push (.cells ((us.map fun u => u.cells.toList).flatten).toArray e (0, 0)) } I { w with heap := w.heap.push (.cells ((us.map fun u => u.cells.toList).flatten).toArray e (0, 0)) } (fun g => I g ∨ g = w.heap.size) :=
      ⟨Below.refl _ _, fun g h => .inl h, fun _ _ => rfl, fun g cur T fr h => ⟨cur, fr, h, rfl⟩⟩
    refine ⟨.slice (some ⟨w.heap.size, 0, none⟩) len len, _, (fun g => I g ∨ g = w.heap.size), _, _, hrun, hK, ?_, ?_, he.trans he2⟩
    · have hnewg : hget (hnew H w.heap.size cs) H.length = some (w.heap.size, cs) := by simp [hget, hnew]
      have hold : ∀ i g ds, hget H i = some (g, ds) → hget (hnew H w.heap.size cs) i = some (g, ds) := by
        intro i g ds hi
        have hlt : i < H.length := by
          cases hb : H[i]? with
          | none => simp [hget, hb] at hi
          | some b => exact (List.getElem?_eq_some_iff.1 hb).1
        simpa [hget, hnew, List.getElem?_append_left hlt] using hi
      refine ⟨hH'.base, ?_, ?_, fun i j g ds es hi hj => hH'.inj i j g ds es (hold _ _ _ hi) (hold _ _ _ hj)⟩
      · rintro g (hg | rfl)
        · exact hH'.imm g hg
        · simp
      · intro i g ds hi
        have hb := hH'.blk i g ds (hold _ _ _ hi)
        refine ⟨hb.ge, ?_, ?_⟩
        · rintro (hg | rfl)
          · exact hb.out hg
          · have : i = H.length := hH'.inj i H.length _ _ _ (hold _ _ _ hi) hnewg
            subst this
            simp [hget] at hi
        · obtain ⟨cur, T, us', rest, k1, k2, k3⟩ := hb.cells
          exact ⟨cur, T, us', rest, k1, k2, CRels.mono he2 k3⟩
    · simp only [VRel]
      refine .inr ⟨w.heap.size, 0, len, (us.map fun u => u.cells.toList).flatten, by rw [hl], by omega, by intro _; omega, .inr rfl, ?_, hc.2, VRels.mono (he.trans he2) hc.1⟩
      intro j u hj
      rw [World.cell?]
      have : ((us.map fun u => u.cells.toList).flatten).toArray[0 + j]? = some u := by simpa using hj
      simp only [heap_alloc_new w _]
      simpa using this

end
end Go.Proofs.Ytccioplhchmilaa.AL
