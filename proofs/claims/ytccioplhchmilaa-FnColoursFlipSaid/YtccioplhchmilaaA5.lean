/-
  An abstract program logic over the kit's model, part 5: append, copy, len, cuts.
-/
import Derived.Test.YtccioplhchmilaaA4
import Derived.Laws.AppendOwn
set_option linter.unusedVariables false
set_option linter.unusedSimpArgs false
namespace Go.Proofs.Ytccioplhchmilaa.AL
open Go Go.RowKit

section
variable {P : Program} {w : World} {I : Nat → Prop} {B : Nat} {H : Heap} (hH : HRel w I B H)
include hH

/-- What a slice is read as, when its elements are asked for. -/
def Src (w : World) (I : Nat → Prop) (es m : Nat) (ns : List AVal) (us : List Value) (vx : Value) : Prop :=
  CRels w I ns us ∧ us.length = m * es ∧
    ((∃ a c, vx = .slice (some a) m c ∧ ∀ (j : Nat) (u : Value), us[j]? = some u → w.cell? (a.add j) = some u) ∨ (m = 0 ∧ ∃ c, vx = .slice none 0 c))

theorem elemsOf_ok {es : Nat} {x : AVal} {vx : Value} {K : Nat → List AVal → Prop} (h : elemsOf es H x K) (hx : VRel w I x vx) : ∃ m ns us, K m ns ∧ Src w I es m ns us vx := by
  unfold elemsOf at h
  split at h
  · simp only [VRel] at hx
    subst hx
    exact ⟨0, [], [], h, ⟨⟨by simp [VRels], by simp⟩, by simp, .inr ⟨rfl, 0, rfl⟩⟩⟩
  · rename_i y n cs
    obtain ⟨hl, hK⟩ := h
    simp only [VRel] at hx
    rcases hx with ⟨rfl, rfl, ad, c, rfl, _⟩ | ⟨g, off, c, us, rfl, hc, _, hg, hcell, hone, hus⟩
    · refine ⟨0, [], [], hK, ⟨⟨by simp [VRels], by simp⟩, by simp, ?_⟩⟩
      cases ad with
      | none => exact .inr ⟨rfl, c, rfl⟩
      | some a => exact .inl ⟨a, c, rfl, by simp⟩
    · exact ⟨n, cs, us, hK, ⟨hus, hone⟩, by rw [hus.length, hl], .inl ⟨_, c, rfl, fun j u hu => by rw [addr_add]; exact hcell j u hu⟩⟩
  · rename_i i g es' off n
    obtain ⟨cs, hg, hle, hK⟩ := h
    simp only [VRel] at hx
    obtain ⟨c, rfl, _⟩ := hx
    obtain ⟨cur, T, us, rest, h3, h4, h5, h6, h7⟩ := cells_own hH hg
    refine ⟨n, _, (us.drop off).take (n * es), hK, ⟨(h5.1.drop off).take _, fun u hu => h5.2 u (List.mem_of_mem_drop (List.mem_of_mem_take hu))⟩, by simp; omega, .inl ⟨_, c, rfl, fun j u hu => ?_⟩⟩
    rw [addr_add]
    rw [List.getElem?_take] at hu
    split at hu
    · rw [List.getElem?_drop] at hu
      exact h7 _ u hu
    · cases hu
  · exact h.elim

omit hH in
theorem Src.first {es m : Nat} {ns : List AVal} {us : List Value} {vx : Value} (h : Src w I es m ns us vx) {w' : World} (hc : ∀ (a : Addr) (u : Value), w.cell? a = some u → w'.cell? a = some u) :
    (Builtin.firstCells es m vx).run P w' = .ok us.toArray w' := by
  obtain ⟨_, hl, h | ⟨rfl, c, rfl⟩⟩ := h
  · obtain ⟨a, c, rfl, hcell⟩ := h
    exact run_firstCells_some w' es m a m c us hl (fun j u hu => hc _ _ (hcell j u hu))
  · have : us = [] := List.eq_nil_of_length_eq_zero (by simpa using hl)
    subst this
    simp [Builtin.firstCells]
omit hH in
theorem Src.lenOf {es m : Nat} {ns : List AVal} {us : List Value} {vx : Value} (h : Src w I es m ns us vx) (w' : World) : (Builtin.lenOf vx).run P w' = .ok m w' := by
  obtain ⟨_, hl, h | ⟨rfl, c, rfl⟩⟩ := h
  · obtain ⟨a, c, rfl, hcell⟩ := h; simp [Builtin.lenOf]
  · simp [Builtin.lenOf]

omit hH in
/-- There is room, in a block of whatever type. -/
theorem run_append_in {t ty e : TypeId} {i : TypeInfo} (ht : P.underlying t = some (.slice e)) (hi : P.info? e = some i) {g sLen sCap : Nat} {cur : Array Value} {T : TypeId} (hg : w.heap[g]? = some (.cells cur T (0, 0)))
    {m : Nat} {ns : List AVal} {us : List Value} {vx : Value} (hs : Src w I i.size m ns us vx) (hroom : sLen + m ≤ sCap) (hfit : (sLen + m) * i.size ≤ cur.size) :
    (Builtin.append_ #[t, t] ty #[.slice (some ⟨g, 0, none⟩) sLen sCap, vx]).run P w =
      .ok (.slice (some ⟨g, 0, none⟩) (sLen + m) sCap) (w.setRow g (cur.toList.take (sLen * i.size) ++ us ++ cur.toList.drop (sLen * i.size + us.length)).toArray) := by
  have hf := hs.first (P := P) (w' := w) (fun _ _ h => h)
  have hl := hs.lenOf (P := P) w
  have hst := run_storeCells_at P g (sLen * i.size) T us 0 cur w hg (by rw [hs.2.1]; rw [Nat.add_mul] at hfit; omega) hs.1.2
  simp only [Nat.add_zero] at hst
  simp [Builtin.append_, run_underlying ht, sizeOf, typeInfo, hi, hl, hroom, hf, addr_add, hst]

omit hH in
theorem run_append_new {t ty e : TypeId} {i : TypeInfo} {z : Value} (ht : P.underlying t = some (.slice e)) (hi : P.info? e = some i) (hz : i.zero = some z) {base : Option Addr} {n cap : Nat} {olds : List Value}
    (hlo : olds.length = n * i.size) (holds : ∀ b, base = some b → ∀ (j : Nat) (v : Value), olds[j]? = some v → w.cell? (b.add j) = some v) (hb : base = none → n = 0)
    {m : Nat} {ns : List AVal} {us : List Value} {vx : Value} (hs : Src w I i.size m ns us vx) (hg : cap < n + m) (hsm : n + m ≤ 1000000000) (hby : i.bytes ≤ 1000) :
    (Builtin.append_ #[t, t] ty #[.slice base n cap, vx]).run P w =
      .ok (.slice (some ⟨w.heap.size, 0, none⟩) (n + m) (grownCap w (n + m) cap e))
        (w.drew.alloc (.cells (olds.toArray ++ us.toArray ++ Builtin.zeroCells z.cells (grownCap w (n + m) cap e - (n + m))) e)) := by
  have hn : ¬ (n + m ≤ cap) := by omega
  have h63' : ¬ (9223372036854775807 < ((n : Int) + (m : Int))) := by omega
  have hfits := nextslicecap_le (need := n + m) (old := cap) hg
  have h48' : ¬ (281474976710656 < Builtin.nextslicecap (n + m) cap * i.bytes) := by
    have : Builtin.nextslicecap (n + m) cap * i.bytes ≤ (2 * 1000000000) * 1000 := Nat.mul_le_mul (by omega) hby
    omega
  have hf := hs.first (P := P) (w' := w.drew) (fun _ _ h => by simpa using h)
  have hl := hs.lenOf (P := P) w
  have hfo : (Builtin.firstCells i.size n (.slice base n cap)).run P w.drew = .ok olds.toArray w.drew := by
    cases base with
    | none =>
      have : olds = [] := List.eq_nil_of_length_eq_zero (by rw [hlo, hb rfl]; simp)
      subst this
      simp [Builtin.firstCells]
    | some b => exact run_firstCells_some (P := P) w.drew i.size n b n cap olds hlo (by simpa using holds b rfl)
  simp [Builtin.append_, run_underlying ht, sizeOf, typeInfo, zeroValue, hi, hz, hl, hn, h63', h48', Question.forced, hf, hfo, newRow, grownCap]
  congr 2
  apply Array.ext'
  simp [List.append_assoc]

omit hH in
theorem run_append_zero {t ty e : TypeId} {i : TypeInfo} (ht : P.underlying t = some (.slice e)) (hi : P.info? e = some i) {base : Option Addr} {n cap : Nat} (hc : n ≤ cap)
    {ns : List AVal} {us : List Value} {vx : Value} (hs : Src w I i.size 0 ns us vx) :
    (Builtin.append_ #[t, t] ty #[.slice base n cap, vx]).run P w = .ok (.slice base n cap) w := by
  have hf := hs.first (P := P) (w' := w) (fun _ _ h => h)
  have hl := hs.lenOf (P := P) w
  have : us = [] := List.eq_nil_of_length_eq_zero (by simpa using hs.2.1)
  subst this
  cases base <;> simp [Builtin.append_, run_underlying ht, sizeOf, typeInfo, hi, hl, hc, hf, storeCells]

theorem own_new {es m : Nat} {T : TypeId} {cs : List AVal} {us : List Value} (hc : CRels w I cs us) {arr : Array Value} {rest : List Value} {cap : Nat} (ha : arr.toList = us ++ rest) (hsz : arr.size = cap * es) (hm : m ≤ cap) (hcap : cap ≤ maxLen) (w0 : World)
    (hw : w0.heap = w.heap) (hbel : Below B w w0) :
    HRel (w0.alloc (.cells arr T)) I B (hnew H w.heap.size cs) ∧ Ext B w I (w0.alloc (.cells arr T)) I ∧ VRel (w0.alloc (.cells arr T)) I (.own H.length w.heap.size es 0 m) (.slice (some ⟨w.heap.size, 0, none⟩) m cap) := by
  have he0 : Ext B w I w0 I := ext_heap hbel hw
  have hH0 : HRel w0 I B H := hH.of_ext he0 (fun i g cs hg => ⟨by rw [hw], (hH.blk i g cs hg).out⟩) (fun g hg => by rw [hw]; exact hH.imm g hg)
  have hsize : w0.heap.size = w.heap.size := by rw [hw]
  have h := hH0.new (hc.mono he0) arr rest T ha
  rw [hsize] at h
  refine ⟨h.1, he0.trans h.2, ?_⟩
  simp only [VRel]
  refine ⟨cap, rfl, hm, hcap, arr, T, (0, 0), by rw [← hsize]; exact heap_alloc_new w0 _, by omega⟩

theorem apk_ok {t ty e : TypeId} {d x : AVal} {vd vx : Value} {K : AVal → Heap → Prop} (hu : P.underlying t = some (.slice e)) (hb : bytesOk P e = true) (hz0 : ∃ z, (P.info? e).bind (·.zero) = some z ∧ z.cells.size = szOf P e)
    (h : APK (szOf P e) H d x K) (hd : VRel w I d vd) (hx : VRel w I x vx) :
    OpOk P (Builtin.append_ #[t, t] ty #[vd, vx]) w I B K := by
  obtain ⟨inf, h1, h2, h3, h4, h5⟩ := info_of hb
  obtain ⟨z, hz, hzs⟩ := hz0
  have hz : inf.zero = some z := by simpa [h1] using hz
  unfold APK at h
  obtain ⟨m, ns, us, h, hs⟩ := elemsOf_ok hH h hx
  have hs' : Src w I inf.size m ns us vx := by rw [h2]; exact hs
  have capfacts : ∀ need old, need ≤ 1000000000 → need ≤ grownCap w need old e ∧ grownCap w need old e ≤ maxLen := fun need old hn => ⟨grownCap_ge w need old e, grownCap_le_maxLen w need old e (by simp only [maxLen]; omega)⟩
  have grow : ∀ (olds : List Value) (n cap : Nat), olds.length = n * inf.size → n + m ≤ 1000000000 →
      (olds.toArray ++ us.toArray ++ Builtin.zeroCells z.cells (grownCap w (n + m) cap e - (n + m))).toList = (olds ++ us) ++ (Builtin.zeroCells z.cells (grownCap w (n + m) cap e - (n + m))).toList ∧
      (olds.toArray ++ us.toArray ++ Builtin.zeroCells z.cells (grownCap w (n + m) cap e - (n + m))).size = grownCap w (n + m) cap e * szOf P e := by
    intro olds n cap hl hsm
    refine ⟨by simp, ?_⟩
    simp only [Array.size_append, List.size_toArray, size_zeroCells, hzs]
    rw [hl, hs.2.1, h2, ← Nat.add_mul, ← Nat.add_mul]
    congr 1
    have := (capfacts (n + m) cap hsm).1
    omega
  split at h
  · -- nil
    obtain ⟨hsm, hK0, hK1⟩ := h
    simp only [VRel] at hd
    subst hd
    by_cases hm : m = 0
    · subst hm
      exact ok_same hH (run_append_zero hu h1 (Nat.le_refl 0) hs') (hK0 rfl) (by simp only [VRel])
    · have hr := run_append_new (P := P) (w := w) (ty := ty) hu h1 hz (base := none) (n := 0) (cap := 0) (olds := []) (by simp) (by simp) (fun _ => rfl) hs' (by omega) (by omega) h5
      simp only [Nat.zero_add] at hr
      have hg := grow [] 0 0 (by simp) (by omega)
      simp only [Nat.zero_add, List.nil_append] at hg
      obtain ⟨hH', he, hv⟩ := own_new hH (es := szOf P e) (T := e) hs.1 hg.1 hg.2 (capfacts m 0 hsm).1 (capfacts m 0 hsm).2 w.drew rfl ((Below.refl _ _).drew)
      exact ⟨_, _, I, _, _, hr, hK1 (by omega) w.heap.size, hH', hv, he⟩
  · -- a slice whose room is known to be nought
    rename_i n cs _
    obtain ⟨hcl, hsm, hK0, hK1⟩ := h
    have hd0 := hd
    simp only [VRel] at hd
    by_cases hm : m = 0
    · subst hm
      have : ∃ ad c, vd = .slice ad n c ∧ n ≤ c := by
        rcases hd with ⟨rfl, _, ad, c, rfl, hc⟩ | ⟨g, off, c, us', rfl, hc, _⟩
        · exact ⟨ad, c, rfl, Nat.zero_le _⟩
        · exact ⟨_, c, rfl, hc⟩
      obtain ⟨ad, c, rfl, hc⟩ := this
      exact ok_same hH (run_append_zero hu h1 hc hs') (hK0 rfl) hd0
    · have : ∃ ad, vd = .slice ad n n ∧ (ad = none → n = 0) ∧ ∃ os, CRels w I cs os ∧ ∀ b, ad = some b → ∀ (j : Nat) (v : Value), os[j]? = some v → w.cell? (b.add j) = some v := by
        rcases hd with ⟨rfl, rfl, ad, c, rfl, hc⟩ | ⟨g, off, c, us', rfl, hc, hcc, hg, hcell, hone, hus⟩
        · have := hc trivial
          subst this
          exact ⟨ad, rfl, fun _ => rfl, [], ⟨by simp [VRels], by simp⟩, by simp⟩
        · have := hcc trivial
          subst this
          refine ⟨_, rfl, by simp, us', ⟨hus, hone⟩, fun b hb j v hv => ?_⟩
          cases hb
          rw [addr_add]
          exact hcell j v hv
      obtain ⟨ad, rfl, had, os, hos, hcell⟩ := this
      have hol : os.length = n * inf.size := by rw [hos.1.length, hcl, h2]
      have hr := run_append_new (P := P) (w := w) (ty := ty) hu h1 hz (base := ad) (n := n) (cap := n) (olds := os) hol hcell had hs' (by omega) hsm h5
      have hg := grow os n n hol hsm
      have hcr : CRels w I (cs ++ ns) (os ++ us) := ⟨hos.1.append hs.1.1, fun u hu => by
        rcases List.mem_append.1 hu with hu | hu
        · exact hos.2 u hu
        · exact hs.1.2 u hu⟩
      obtain ⟨hH', he, hv⟩ := own_new hH (es := szOf P e) (T := e) hcr hg.1 hg.2 (capfacts (n + m) n hsm).1 (capfacts (n + m) n hsm).2 w.drew rfl ((Below.refl _ _).drew)
      exact ⟨_, _, I, _, _, hr, hK1 (by omega) w.heap.size, hH', hv, he⟩
  · -- an own slice
    rename_i i g es' off n _
    obtain ⟨rfl, rfl, hsm, cs, hg, hle, hK⟩ := h
    simp only [VRel] at hd
    obtain ⟨c, rfl, hnc, hcm, cur0, T0, fr0, hcur0, hfit⟩ := hd
    obtain ⟨cur, T, os, rest, h3', h4', h5', h6', h7'⟩ := cells_own hH hg
    have hfit : 0 + c * szOf P e ≤ cur.size := by
      rw [h3'] at hcur0
      injection hcur0 with hq
      injection hq with hq1 hq2 hq3
      rw [hq1]; exact hfit
    have hcr : CRels w I (cs.take (n * szOf P e) ++ ns) (os.take (n * szOf P e) ++ us) := ⟨(h5'.1.take _).append hs.1.1, fun u hu => by
      rcases List.mem_append.1 hu with hu | hu
      · exact h5'.2 u (List.mem_of_mem_take hu)
      · exact hs.1.2 u hu⟩
    have hol : (os.take (n * szOf P e)).length = n * inf.size := by rw [h2]; simp; omega
    by_cases hroom : n + m ≤ c
    · have hfit2 : (n + m) * inf.size ≤ cur.size := by
        have : (n + m) * szOf P e ≤ c * szOf P e := Nat.mul_le_mul_right _ hroom
        rw [h2]; omega
      have hr := run_append_in (P := P) (w := w) (ty := ty) hu h1 h3' hs' hroom hfit2
      have hosz : cur.size = os.length + rest.length := by rw [← Array.length_toList, h4']; simp
      have harr : (cur.toList.take (n * inf.size) ++ us ++ cur.toList.drop (n * inf.size + us.length)).toArray.toList = (os.take (n * szOf P e) ++ us) ++ cur.toList.drop (n * inf.size + us.length) := by
        simp only [h2, h4']
        rw [List.take_append_of_le_length (by omega)]
      obtain ⟨hH', he⟩ := hH.put hg h3' hcr _ _ harr (by
        simp only [List.size_toArray, List.length_append, List.length_take, List.length_drop, Array.length_toList]
        rw [hs'.2.1]
        rw [Nat.add_mul] at hfit2
        omega)
      refine ⟨_, _, I, _, _, hr, hK g, hH', ?_, he⟩
      simp only [VRel]
      obtain ⟨cur', fr', hc', hs''⟩ := he.shp g cur T (0, 0) h3'
      exact ⟨c, rfl, hroom, hcm, cur', T, fr', hc', by omega⟩
    · have hr := run_append_new (P := P) (w := w) (ty := ty) hu h1 hz (base := some ⟨g, 0, none⟩) (n := n) (cap := c) (olds := os.take (n * szOf P e)) hol (by
        intro b hb j v hv
        cases hb
        rw [addr_add, Nat.zero_add]
        rw [List.getElem?_take] at hv
        split at hv
        · exact h7' j v hv
        · cases hv) (by simp) hs' (by omega) hsm h5
      have hgr := grow (os.take (n * szOf P e)) n c hol hsm
      have he0 : Ext B w I w.drew I := ext_drew B w I
      obtain ⟨hH', he⟩ := (hH.drew).moved hg (hcr.mono he0) _ _ e hgr.1
      refine ⟨_, _, I, _, _, hr, hK w.heap.size, hH', ?_, he0.trans he⟩
      simp only [VRel]
      exact ⟨_, rfl, (capfacts (n + m) c hsm).1, (capfacts (n + m) c hsm).2, _, e, (0, 0), heap_alloc_new w.drew _, by rw [hgr.2]; omega⟩
  · exact h.elim

end
end Go.Proofs.Ytccioplhchmilaa.AL
