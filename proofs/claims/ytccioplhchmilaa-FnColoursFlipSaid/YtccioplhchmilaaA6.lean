/-
  An abstract program logic over the kit's model, part 6: cuts, conversions, fields, numbers.
-/
import Derived.Test.YtccioplhchmilaaA5
import Derived.Laws.Strings
set_option linter.unusedVariables false
set_option linter.unusedSimpArgs false
namespace Go.Proofs.Ytccioplhchmilaa.AL
open Go Go.RowKit

section
variable {P : Program} {w : World} {I : Nat → Prop} {B : Nat} {H : Heap} (hH : HRel w I B H)
include hH

def OV (w : World) (I : Nat → Prop) (o : Option AVal) (ov : Option Value) : Prop := (o = none ∧ ov = none) ∨ ∃ a v, o = some a ∧ ov = some v ∧ VRel w I a v
omit hH in
theorem boundOf_ok {d : Nat} {o : Option AVal} {ov : Option Value} {K : Nat → Prop} (h : boundOf d o K) (ho : OV w I o ov) :
    ∃ n, K n ∧ ((o = none ∧ ov = none ∧ n = d) ∨ (o.isSome = true ∧ ∃ k i, ov = some (.int k i) ∧ 0 ≤ i ∧ i.toNat = n)) := by
  rcases ho with ⟨rfl, rfl⟩ | ⟨a, v, rfl, rfl, hv⟩
  · exact ⟨d, h, .inl ⟨rfl, rfl, rfl⟩⟩
  · unfold boundOf at h
    split at h
    · simp_all
    · rename_i k i hq
      cases hq
      simp only [VRel] at hv
      subst hv
      exact ⟨_, h.2, .inr ⟨rfl, k, i, rfl, h.1, rfl⟩⟩
    · exact h.elim
omit hH in
theorem run_sliceBound {k : IntKind} {i : Int} {y n : Nat} {code : BoundsCode} (h0 : 0 ≤ i) (hn : i.toNat = n) (hy : n ≤ y) (w : World) : (Instr.sliceBound (.int k i) y code).run P w = .ok n w := by
  have : i ≤ y := by omega
  simp [Instr.sliceBound, asIntOf, h0, this, hn]
omit hH in
/-- The bounds of a cut. -/
theorem run_bounds {isS : Bool} {len cap l h m : Nat} {lo hi mx : Option AVal} {vlo vhi vmx : Option Value}
    (hl : (lo = none ∧ vlo = none ∧ l = 0) ∨ (lo.isSome = true ∧ ∃ k i, vlo = some (.int k i) ∧ 0 ≤ i ∧ i.toNat = l))
    (hh : (hi = none ∧ vhi = none ∧ h = len) ∨ (hi.isSome = true ∧ ∃ k i, vhi = some (.int k i) ∧ 0 ≤ i ∧ i.toNat = h))
    (hm : (mx = none ∧ vmx = none ∧ m = cap) ∨ (mx.isSome = true ∧ hi.isSome = true ∧ ∃ k i, vmx = some (.int k i) ∧ 0 ≤ i ∧ i.toNat = m))
    (h1 : l ≤ h) (h2 : h ≤ m) (h3 : m ≤ cap) (w : World) : (Instr.sliceBounds isS len cap vlo vhi vmx).run P w = .ok (l, h, m) w := by
  rcases hm with ⟨rfl, rfl, rfl⟩ | ⟨_, hs, km, im, rfl, hm0, hmn⟩
  · rcases hh with ⟨rfl, rfl, rfl⟩ | ⟨_, kh, ih, rfl, hh0, hhn⟩
    · rcases hl with ⟨rfl, rfl, rfl⟩ | ⟨_, kl, il, rfl, hl0, hln⟩
      · simp [Instr.sliceBounds]
      · simp [Instr.sliceBounds, run_sliceBound hl0 hln h1]
    · rcases hl with ⟨rfl, rfl, rfl⟩ | ⟨_, kl, il, rfl, hl0, hln⟩
      · simp [Instr.sliceBounds, run_sliceBound hh0 hhn h2]
      · simp [Instr.sliceBounds, run_sliceBound hl0 hln h1, run_sliceBound hh0 hhn h2]
  · rcases hh with ⟨rfl, rfl, rfl⟩ | ⟨_, kh, ih, rfl, hh0, hhn⟩
    · cases hs
    · rcases hl with ⟨rfl, rfl, rfl⟩ | ⟨_, kl, il, rfl, hl0, hln⟩
      · simp [Instr.sliceBounds, run_sliceBound hh0 hhn h2, run_sliceBound hm0 hmn h3]
      · simp [Instr.sliceBounds, run_sliceBound hl0 hln h1, run_sliceBound hh0 hhn h2, run_sliceBound hm0 hmn h3]

theorem slk_ok {t e : TypeId} {x : AVal} {vx : Value} {lo hi mx : Option AVal} {vlo vhi vmx : Option Value} {K : AVal → Prop} (hu : P.underlying t = some (.slice e)) (hb : bytesOk P e = true)
    (h : SLK (szOf P e) x lo hi mx K) (hx : VRel w I x vx) (hlo : OV w I lo vlo) (hhi : OV w I hi vhi) (hmx : OV w I mx vmx) (hmh : mx.isSome = true → hi.isSome = true) :
    OpOk P (Instr.sliceAt t vx vlo vhi vmx) w I B fun v H' => H' = H ∧ K v := by
  obtain ⟨inf, h1, h2, _⟩ := info_of hb
  unfold SLK at h
  split at h
  · -- nil
    simp only [VRel] at hx
    subst hx
    obtain ⟨l, h, cl⟩ := boundOf_ok h hlo
    obtain ⟨hh, h, ch⟩ := boundOf_ok h hhi
    obtain ⟨m, h, cm⟩ := boundOf_ok h hmx
    obtain ⟨a1, a2, a3, hK⟩ := h
    have cm' : (mx = none ∧ vmx = none ∧ m = 0) ∨ (mx.isSome = true ∧ hi.isSome = true ∧ ∃ k i, vmx = some (.int k i) ∧ 0 ≤ i ∧ i.toNat = m) := by
      rcases cm with ⟨c1, c2, c3⟩ | ⟨c1, c2⟩
      · exact .inl ⟨c1, c2, a3⟩
      · exact .inr ⟨c1, hmh c1, c2⟩
    have hr := run_bounds (P := P) (isS := true) (len := 0) (cap := 0) cl ch cm' a1 a2 (by omega) w
    have : l = 0 ∧ hh = 0 ∧ m = 0 := by omega
    obtain ⟨rfl, rfl, rfl⟩ := this
    refine ok_same hH (v := .nilS) (u := .slice none 0 0) ?_ ⟨rfl, hK⟩ (by simp only [VRel])
    simp [Instr.sliceAt, Instr.slice, run_underlying hu, hr, run_sizeOf h1]
  · rename_i x n cs
    obtain ⟨l, h, cl⟩ := boundOf_ok h hlo
    obtain ⟨hh, h, ch⟩ := boundOf_ok h hhi
    obtain ⟨m, h, cm⟩ := boundOf_ok h hmx
    obtain ⟨a1, a2, a3, hK⟩ := h
    have key : ∀ ad c, vx = .slice ad n c → n ≤ c → ∃ m', ((mx = none ∧ m' = c) ∨ (mx.isSome = true ∧ m' = hh)) ∧ (Instr.sliceAt t vx vlo vhi vmx).run P w = .ok (.slice (if m' = l then ad else ad.map (·.add (l * szOf P e))) (hh - l) (m' - l)) w := by
      intro ad c hvx hnc
      rcases cm with ⟨c1, c2, c3⟩ | ⟨c1, c2⟩
      · refine ⟨c, .inl ⟨c1, rfl⟩, ?_⟩
        have hr := run_bounds (P := P) (isS := true) (len := n) (cap := c) cl ch (.inl ⟨c1, c2, rfl⟩) a1 (by omega) (Nat.le_refl _) w
        subst hvx
        simp [Instr.sliceAt, Instr.slice, run_underlying hu, hr, run_sizeOf h1, h2]
      · refine ⟨hh, .inr ⟨c1, rfl⟩, ?_⟩
        have hr := run_bounds (P := P) (isS := true) (len := n) (cap := c) cl ch (.inr ⟨c1, hmh c1, by rw [← a3]; exact c2⟩) a1 (Nat.le_refl _) (by omega) w
        subst hvx
        simp [Instr.sliceAt, Instr.slice, run_underlying hu, hr, run_sizeOf h1, h2]
    simp only [VRel] at hx
    rcases hx with ⟨rfl, rfl, ad, c, hvx, hc⟩ | ⟨g, off, c, us, hvx, hc, hcc, hg, hcell, hone, hus⟩
    · obtain ⟨m', hm', hr⟩ := key ad c hvx (Nat.zero_le _)
      refine ok_same hH hr ⟨rfl, hK⟩ ?_
      have : l = 0 ∧ hh = 0 := by omega
      obtain ⟨rfl, rfl⟩ := this
      simp only [VRel]
      refine .inl ⟨by simp, by simp, _, _, rfl, fun hs => ?_⟩
      rcases hm' with ⟨e1, _⟩ | ⟨_, e2⟩
      · rw [e1] at hs; cases hs
      · omega
    · obtain ⟨m', hm', hr⟩ := key _ c hvx hc
      refine ok_same hH hr ⟨rfl, hK⟩ ?_
      simp only [VRel]
      have hxs : mx.isSome = true → m' - l = hh - l := by
        intro hs
        rcases hm' with ⟨e1, _⟩ | ⟨_, e2⟩
        · rw [e1] at hs; cases hs
        · omega
      have hmge : hh ≤ m' := by rcases hm' with ⟨_, e⟩ | ⟨_, e⟩ <;> omega
      by_cases hml : m' = l
      · refine .inl ⟨by omega, ?_, _, m' - l, by rw [if_pos hml, show hh - l = 0 from by omega], fun hs => by have := hxs hs; omega⟩
        rw [show hh - l = 0 from by omega]; simp
      · rw [if_neg hml]
        refine .inr ⟨g, off + l * szOf P e, m' - l, (us.drop (l * szOf P e)).take ((hh - l) * szOf P e), by simp [addr_add], by omega, hxs, hg, ?_, ?_, (hus.drop _).take _⟩
        · intro j u hu
          rw [List.getElem?_take] at hu
          split at hu
          · rw [List.getElem?_drop] at hu
            rw [Nat.add_assoc]
            exact hcell _ u hu
          · cases hu
        · exact fun u hu => hone u (List.mem_of_mem_drop (List.mem_of_mem_take hu))
  · rename_i i g es' off n
    obtain ⟨rfl, h⟩ := h
    obtain ⟨l, h, cl⟩ := boundOf_ok h hlo
    obtain ⟨hh, h, ch⟩ := boundOf_ok h hhi
    obtain ⟨m, h, cm⟩ := boundOf_ok h hmx
    obtain ⟨a1, a2, a3, hK0, hK1⟩ := h
    simp only [VRel] at hx
    obtain ⟨c, hvx, hnc, hcm, cur, T, fr, hcur, hfit⟩ := hx
    have key : ∃ m', ((mx = none ∧ m' = c) ∨ (mx.isSome = true ∧ m' = hh)) ∧ (Instr.sliceAt t vx vlo vhi vmx).run P w = .ok (.slice (if m' = l then some ⟨g, off, none⟩ else some ⟨g, off + l * szOf P e, none⟩) (hh - l) (m' - l)) w := by
      rcases cm with ⟨c1, c2, c3⟩ | ⟨c1, c2⟩
      · refine ⟨c, .inl ⟨c1, rfl⟩, ?_⟩
        have hr := run_bounds (P := P) (isS := true) (len := n) (cap := c) cl ch (.inl ⟨c1, c2, rfl⟩) a1 (by omega) (Nat.le_refl _) w
        subst hvx
        simp [Instr.sliceAt, Instr.slice, run_underlying hu, hr, run_sizeOf h1, h2, addr_add]
      · refine ⟨hh, .inr ⟨c1, rfl⟩, ?_⟩
        have hr := run_bounds (P := P) (isS := true) (len := n) (cap := c) cl ch (.inr ⟨c1, hmh c1, by rw [← a3]; exact c2⟩) a1 (Nat.le_refl _) (by omega) w
        subst hvx
        simp [Instr.sliceAt, Instr.slice, run_underlying hu, hr, run_sizeOf h1, h2, addr_add]
    obtain ⟨m', hm', hr⟩ := key
    by_cases hlh : l = hh
    · refine ok_same hH hr ⟨rfl, hK0 hlh⟩ ?_
      simp only [VRel]
      refine .inl ⟨by simp, by simp, _, m' - l, by rw [show hh - l = 0 from by omega], fun hs => ?_⟩
      rcases hm' with ⟨e1, _⟩ | ⟨_, e2⟩
      · rw [e1] at hs; cases hs
      · omega
    · obtain ⟨hn, hK⟩ := hK1 (by omega)
      have hmc : m' = c := by
        rcases hm' with ⟨_, e⟩ | ⟨e, _⟩
        · exact e
        · rw [hn] at e; cases e
      refine ok_same hH hr ⟨rfl, hK⟩ ?_
      rw [if_neg (by omega)]
      simp only [VRel]
      refine ⟨_, rfl, by omega, by omega, cur, T, fr, hcur, ?_⟩
      have : (l + (m' - l)) * szOf P e = c * szOf P e := by congr 1; omega
      rw [Nat.add_mul] at this
      omega
  · exact h.elim

theorem ssk_ok {t : TypeId} {x : AVal} {vx : Value} {lo hi : Option AVal} {vlo vhi : Option Value} {K : AVal → Prop} (hu : P.underlying t = some .string)
    (h : SSK x lo hi K) (hx : VRel w I x vx) (hlo : OV w I lo vlo) (hhi : OV w I hi vhi) :
    OpOk P (Instr.sliceAt t vx vlo vhi none) w I B fun v H' => H' = H ∧ K v := by
  unfold SSK at h
  split at h
  · rename_i s
    simp only [VRel] at hx
    subst hx
    obtain ⟨l, h, cl⟩ := boundOf_ok h hlo
    obtain ⟨hh, h, ch⟩ := boundOf_ok h hhi
    obtain ⟨a1, a2, hK⟩ := h
    have hr := run_bounds (P := P) (isS := false) (len := s.size) (cap := s.size) (mx := none) (vmx := none) (m := s.size) cl ch (.inl ⟨rfl, rfl, rfl⟩) a1 a2 (Nat.le_refl _) w
    refine ok_same hH (v := .str (s.extract l hh)) (u := .string (s.extract l hh)) ?_ ⟨rfl, hK⟩ (by simp only [VRel])
    simp [Instr.sliceAt, Instr.slice, run_underlying hu, hr]
  · exact h.elim

theorem lenk_ok {t ty e : TypeId} {x : AVal} {vx : Value} {K : AVal → Prop} (hu : P.underlying t = some (.slice e)) (h : LENK x K) (hx : VRel w I x vx) :
    OpOk P (Builtin.len_ #[t] ty #[vx]) w I B fun v H' => H' = H ∧ K v := by
  have sl : ∀ ad n c, vx = .slice ad n c → (Builtin.len_ #[t] ty #[vx]).run P w = .ok (.int .i64 n) w := by
    intro ad n c hv
    subst hv
    simp [Builtin.len_, run_underlying hu, goInt]
  unfold LENK at h
  split at h
  · simp only [VRel] at hx
    exact ok_same hH (sl _ _ _ hx) ⟨rfl, h⟩ (by simp [VRel])
  · simp only [VRel] at hx
    rcases hx with ⟨rfl, _, ad, c, hv, _⟩ | ⟨g, off, c, us, hv, _⟩
    · exact ok_same hH (sl _ _ _ hv) ⟨rfl, h⟩ (by simp [VRel])
    · exact ok_same hH (sl _ _ _ hv) ⟨rfl, h⟩ (by simp [VRel])
  · simp only [VRel] at hx
    obtain ⟨c, hv, _⟩ := hx
    exact ok_same hH (sl _ _ _ hv) ⟨rfl, h⟩ (by simp [VRel])
  · exact h.elim

theorem lens_ok {t ty : TypeId} {x : AVal} {vx : Value} {K : AVal → Prop} (hu : P.underlying t = some .string) (h : LENS x K) (hx : VRel w I x vx) :
    OpOk P (Builtin.len_ #[t] ty #[vx]) w I B fun v H' => H' = H ∧ K v := by
  unfold LENS at h
  split at h
  · rename_i s
    simp only [VRel] at hx
    subst hx
    refine ok_same hH (v := .int .i64 s.size) (u := .int .i64 s.size) ?_ ⟨rfl, h⟩ (by simp [VRel])
    simp [Builtin.len_, run_underlying hu, goInt]
  · exact h.elim

theorem icvk_ok {k : IntKind} {x : AVal} {vx : Value} {s d : TypeId} {k0 : IntKind} {K : AVal → Prop} (hs : P.underlying s = some (.int k0)) (hd : P.underlying d = some (.int k)) (h : ICVK k x K) (hx : VRel w I x vx) :
    OpOk P (convert s d vx) w I B fun v H' => H' = H ∧ K v := by
  unfold ICVK at h
  split at h
  · rename_i kk n
    simp only [VRel] at hx
    subst hx
    refine ok_same hH (v := .int k (k.wrap n)) (u := .int k (k.wrap n)) ?_ ⟨rfl, h⟩ (by simp [VRel])
    simp [convert, run_underlying hs, run_underlying hd, Conv.intToInt]
  · exact h.elim

theorem ith_ok {x : AVal} {vx : Value} {s d : TypeId} {K : AVal → Prop} (hs : P.underlying s = some .string) (hd : P.underlying d = some .string) (h : ITH x K) (hx : VRel w I x vx) :
    OpOk P (convert s d vx) w I B fun v H' => H' = H ∧ K v := by
  unfold ITH at h
  split at h
  · rename_i q
    simp only [VRel] at hx
    subst hx
    refine ok_same hH (v := .str q) (u := .string q) ?_ ⟨rfl, h⟩ (by simp only [VRel])
    simp [convert, run_underlying hs, run_underlying hd]
  · exact h.elim

theorem fldk_ok {s : TypeId} {fs : Array Field} {f : Nat} {fd : Field} {x : AVal} {vx : Value} {K : AVal → Prop} (hs : P.underlying s = some (.struct fs)) (hf : fs.toList[f]? = some fd) (hb : bytesOk P fd.type = true) (hsm : (P.underlying fd.type).isSome = true)
    (h : FLDK (aggOf P fd.type) (szOf P fd.type) fd.offset x K) (hx : VRel w I x vx) : OpOk P (Instr.field s vx f) w I B fun v H' => H' = H ∧ K v := by
  obtain ⟨inf, h1, h2, _⟩ := info_of hb
  have hagg := run_isAgg hsm w
  have hf' : fs[f]? = some fd := by rw [← Array.getElem?_toList]; exact hf
  unfold FLDK at h
  split at h
  · rename_i cs
    simp only [VRel] at hx
    obtain ⟨us, rfl, hus, hone⟩ := hx
    unfold cellsAt at h
    cases ha : aggOf P fd.type with
    | true =>
      rw [ha] at h hagg
      simp only [cond_true] at h
      obtain ⟨hle, hK⟩ := h
      refine ok_same hH (v := .agg ((cs.drop fd.offset).take (szOf P fd.type))) (u := .agg (us.extract fd.offset (fd.offset + szOf P fd.type))) ?_ ⟨rfl, hK⟩ ?_
      · simp [Instr.field, run_underlying hs, hf', part, asAgg, hagg, run_sizeOf h1, h2]
      · simp only [VRel]
        have e : (us.extract fd.offset (fd.offset + szOf P fd.type)).toList = (us.toList.drop fd.offset).take (szOf P fd.type) := by
          rw [Array.toList_extract, List.extract_eq_take_drop]; simp
        refine ⟨_, rfl, by rw [e]; exact (hus.drop _).take _, fun u hu => ?_⟩
        rw [e] at hu
        exact hone u (List.mem_of_mem_drop (List.mem_of_mem_take hu))
    | false =>
      rw [ha] at h hagg
      simp only [cond_false] at h
      obtain ⟨v, hv, hK⟩ := h
      obtain ⟨u, hu, hvu⟩ := hus.at hv
      refine ok_same hH (v := v) (u := u) ?_ ⟨rfl, hK⟩ hvu
      have : us[fd.offset]? = some u := by rw [← Array.getElem?_toList]; exact hu
      simp [Instr.field, run_underlying hs, hf', part, asAgg, hagg, this]
  · exact h.elim

theorem fadk_ok {s : TypeId} {fs : Array Field} {f : Nat} {fd : Field} {x : AVal} {vx : Value} {K : AVal → Prop} (hs : P.underlying s = some (.struct fs)) (hf : fs.toList[f]? = some fd) (hb : bytesOk P fd.type = true)
    (h : FADK fd.offset x K) (hx : VRel w I x vx) : OpOk P (Instr.fieldAt s vx f) w I B fun v H' => H' = H ∧ K v := by
  obtain ⟨inf, h1, h2, h3, _⟩ := info_of hb
  have hf' : fs[f]? = some fd := by rw [← Array.getElem?_toList]; exact hf
  have hne : inf.size ≠ 0 := by omega
  unfold FADK at h
  split at h
  · rename_i i g off
    simp only [VRel] at hx
    subst hx
    refine ok_same hH (v := .ptr i g (off + fd.offset)) (u := .pointer (some ⟨g, off + fd.offset, none⟩)) ?_ ⟨rfl, h⟩ (by simp only [VRel])
    simp [Instr.fieldAt, run_underlying hs, hf', Instr.sureAddr, fieldPlace, run_sizeOf h1, hne, addr_add]
  · rename_i cs i
    simp only [VRel] at hx
    obtain ⟨g, off, us, rfl, hg, hcell, hone, hus⟩ := hx
    refine ok_same hH (v := .pel cs (i + fd.offset)) (u := .pointer (some ⟨g, off + (i + fd.offset), none⟩)) ?_ ⟨rfl, h⟩ ?_
    · simp [Instr.fieldAt, run_underlying hs, hf', Instr.sureAddr, fieldPlace, run_sizeOf h1, hne, addr_add, Nat.add_assoc]
    · simp only [VRel]; exact ⟨g, off, us, rfl, hg, hcell, hone, hus⟩
  · exact h.elim

theorem extk_ok {x : AVal} {vx : Value} {i : Nat} {K : AVal → Prop} (h : EXTK x i K) (hx : VRel w I x vx) : OpOk P (Instr.extract vx i) w I B fun v H' => H' = H ∧ K v := by
  unfold EXTK at h
  split at h
  · rename_i cs
    obtain ⟨v, hv, hK⟩ := h
    simp only [VRel] at hx
    obtain ⟨us, rfl, hus⟩ := hx
    obtain ⟨u, hu, hvu⟩ := hus.at hv
    have : us[i]? = some u := by rw [← Array.getElem?_toList]; exact hu
    exact ok_same hH (by simp [Instr.extract, this]) ⟨rfl, hK⟩ hvu
  · exact h.elim

theorem idxk_ok {t : TypeId} {x i : AVal} {vx vi : Value} {K : AVal → Prop} (hu : P.underlying t = some .string) (h : IDXK x i K) (hx : VRel w I x vx) (hi : VRel w I i vi) : OpOk P (Instr.index t vx vi) w I B fun v H' => H' = H ∧ K v := by
  unfold IDXK at h
  split at h
  · obtain ⟨b, h0, hb, hK⟩ := h
    simp only [VRel] at hx hi
    subst hx
    subst hi
    refine ok_same hH (v := .int .u8 b.toNat) (u := .int .u8 b.toNat) ?_ ⟨rfl, hK⟩ (by simp only [VRel])
    simp [Instr.index, asIntOf, run_underlying hu, h0, hb]
  · exact h.elim

theorem negk_ok {x : AVal} {vx : Value} {K : AVal → Prop} (h : NEGK x K) (hx : VRel w I x vx) : OpOk P (Op.unary .neg vx) w I B fun v H' => H' = H ∧ K v := by
  unfold NEGK at h
  split at h
  · simp only [VRel] at hx
    subst hx
    exact ok_same hH (v := .int _ _) (u := .int _ _) (by simp [Op.unary, Op.intArith]; exact ⟨rfl, rfl⟩) ⟨rfl, h⟩ (by simp [VRel])
  · exact h.elim
theorem notk_ok {x : AVal} {vx : Value} {K : AVal → Prop} (h : NOTK x K) (hx : VRel w I x vx) : OpOk P (Op.unary .not vx) w I B fun v H' => H' = H ∧ K v := by
  unfold NOTK at h
  split at h
  · rename_i q
    simp only [VRel] at hx
    subst hx
    exact ok_same hH (v := .bool !q) (u := .bool !q) (by simp [Op.unary]) ⟨rfl, h⟩ (by simp [VRel])
  · exact h.elim

end
end Go.Proofs.Ytccioplhchmilaa.AL
