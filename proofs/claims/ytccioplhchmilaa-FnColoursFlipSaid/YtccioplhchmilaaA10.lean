/-
  An abstract program logic over the kit's model, part 10: weakening, freezing what is not written any more, lending what is only read.
-/
import Derived.Test.YtccioplhchmilaaA9
set_option linter.unusedVariables false
set_option linter.unusedSimpArgs false
namespace Go.Proofs.Ytccioplhchmilaa.AL
open Go Go.RowKit

variable {P : Program} {f : FuncId} {N : Nat} {args args' : List AVal} {H H1 H' : Heap} {Q Q' : AVal → Heap → Prop}
  {w w' : World} {I I' : Nat → Prop} {B : Nat}

theorem ACalls.mono (h : ACalls P f args H Q) (hq : ∀ r H', Q r H' → Q' r H') : ACalls P f args H Q' :=
  ⟨h.1, fun w I B vs K hH hv post => h.2 w I B vs K hH hv fun r H' w' I' v q => post r H' w' I' v (hq r H' q)⟩

theorem blt_t {i n : Nat} (h : i < n) : Nat.blt i n = true := by rw [Nat.blt_eq]; exact h
theorem blt_f {i n : Nat} (h : Nat.blt i n = true) : i < n := by rw [Nat.blt_eq] at h; exact h
/-- All blocks of the one are those of the other. -/
def HSub (H' H : Heap) : Prop := ∀ i g cs, hget H' i = some (g, cs) → hget H i = some (g, cs)
theorem HSub.refl (H : Heap) : HSub H H := fun _ _ _ h => h
theorem HSub.trans {H1 H2 H3 : Heap} (h : HSub H1 H2) (k : HSub H2 H3) : HSub H1 H3 := fun i g cs hi => k i g cs (h i g cs hi)
theorem HRel.sub (hH : HRel w I B H) (h : HSub H' H) : HRel w I B H' :=
  ⟨hH.base, hH.imm, fun i g cs hi => hH.blk i g cs (h i g cs hi), fun i j g cs ds hi hj => hH.inj i j g cs ds (h _ _ _ hi) (h _ _ _ hj)⟩
theorem ACalls.sub (h : ACalls P f args H (fun r H' => ∃ H1, HSub H1 H' ∧ Q r H1)) : ACalls P f args H Q :=
  ⟨h.1, fun w I B vs K hH hv post => h.2 w I B vs K hH hv fun r H' w' I' v ⟨H1, hs, q⟩ hH' => post r H1 w' I' v q (hH'.sub hs)⟩

/-! ### Freezing -/
def All2 (R : AVal → AVal → Prop) : List AVal → List AVal → Prop
  | [], ds => ds = []
  | c :: cs, ds => ∃ d es, ds = d :: es ∧ R c d ∧ All2 R cs es
/-- The value as it reads when the blocks of H are never written again. -/
def Pur (H : Heap) : Nat → AVal → AVal → Prop
  | 0, v, u => v = u
  | k + 1, v, u => v = u ∨ match v with
    | .own i g es off n => ∃ cs ds, hget H i = some (g, cs) ∧ off + n * es ≤ cs.length ∧ u = .sl false n ds ∧ All2 (Pur H k) ((cs.drop off).take (n * es)) ds
    | .ptr i g off => ∃ cs ds, hget H i = some (g, cs) ∧ u = .pel ds off ∧ All2 (Pur H k) cs ds
    | .agg cs => ∃ ds, u = .agg ds ∧ All2 (Pur H k) cs ds
    | .tup cs => ∃ ds, u = .tup ds ∧ All2 (Pur H k) cs ds
    | .fn f first caps => ∃ ds es, u = .fn f ds es ∧ All2 (Pur H k) first ds ∧ All2 (Pur H k) caps es
    | _ => False
theorem Pur.refl (H : Heap) (k : Nat) (v : AVal) : Pur H k v v := by
  cases k with
  | zero => rfl
  | succ k => exact .inl rfl
theorem All2.refl {R : AVal → AVal → Prop} (h : ∀ v, R v v) : ∀ l, All2 R l l
  | [] => rfl
  | c :: cs => ⟨c, cs, rfl, h c, All2.refl h cs⟩

def fzI (I : Nat → Prop) (H : Heap) (g : Nat) : Prop := I g ∨ ∃ i cs, hget H i = some (g, cs)
theorem ext_fz (I : Nat → Prop) (H : Heap) (w : World) (B : Nat) : Ext B w I w (fzI I H) :=
  ⟨Below.refl _ _, fun g h => .inl h, fun _ _ => rfl, fun g cur T fr h => ⟨cur, fr, h, rfl⟩⟩

theorem All2.vrels {R : AVal → AVal → Prop} {w : World} {I : Nat → Prop} (hR : ∀ c d u, VRel w I c u → R c d → VRel w I d u) : ∀ {cs ds : List AVal} {us : List Value}, VRels w I cs us → All2 R cs ds → VRels w I ds us
  | [], ds, us, h, k => by simp only [All2] at k; subst k; exact h
  | c :: cs, ds, us, h, k => by
    obtain ⟨d, es, rfl, h1, h2⟩ := k
    simp only [VRels] at h ⊢
    obtain ⟨u, rest, rfl, h3, h4⟩ := h
    exact ⟨u, rest, rfl, hR c d u h3 h1, All2.vrels hR h4 h2⟩

theorem pur_val (hH : HRel w I B H) : ∀ (k : Nat) (v v' : AVal) (u : Value), VRel w (fzI I H) v u → Pur H k v v' → VRel w (fzI I H) v' u := by
  intro k
  induction k with
  | zero => intro v v' u h p; cases p; exact h
  | succ k ih =>
    intro v v' u h p
    have hc : ∀ {cs ds : List AVal} {us : List Value}, VRels w (fzI I H) cs us → All2 (Pur H k) cs ds → VRels w (fzI I H) ds us := fun h p => All2.vrels ih h p
    rcases p with rfl | p
    · exact h
    · cases v with
      | own i g es off n =>
        obtain ⟨cs, ds, hg, hl, rfl, ha⟩ := p
        simp only [VRel] at h ⊢
        obtain ⟨c, rfl, hn, hm, _⟩ := h
        obtain ⟨cur, T, us, rest, h1, h2, h3⟩ := (hH.blk i g cs hg).cells
        refine .inr ⟨g, off, c, (us.drop off).take (n * es), rfl, hn, (by intro h; cases h), .inr ⟨i, cs, hg⟩, ?_, fun u hu => h3.2 u (List.mem_of_mem_drop (List.mem_of_mem_take hu)), hc (((VRels.mono (ext_fz I H w B) h3.1).drop off).take (n * es)) ha⟩
        intro j u hu
        have hu' : us[off + j]? = some u := by
          rw [List.getElem?_take] at hu
          split at hu
          · simpa [List.getElem?_drop] using hu
          · cases hu
        have hcur : cur[off + j]? = some u := by
          rw [← Array.getElem?_toList, h2, List.getElem?_append_left (List.getElem?_eq_some_iff.1 hu').1]; exact hu'
        rw [World.cell?]
        simp [h1, hcur]
      | ptr i g off =>
        obtain ⟨cs, ds, hg, rfl, ha⟩ := p
        simp only [VRel] at h ⊢
        subst h
        obtain ⟨cur, T, us, rest, h1, h2, h3⟩ := (hH.blk i g cs hg).cells
        refine ⟨g, 0, us, by simp, .inr ⟨i, cs, hg⟩, ?_, h3.2, hc (VRels.mono (ext_fz I H w B) h3.1) ha⟩
        intro j u hu
        have hcur : cur[0 + j]? = some u := by
          rw [← Array.getElem?_toList, h2, Nat.zero_add, List.getElem?_append_left (List.getElem?_eq_some_iff.1 hu).1]; exact hu
        rw [World.cell?]
        simp [h1, hcur] at hcur ⊢
        simpa using hcur
      | agg cs =>
        obtain ⟨ds, rfl, ha⟩ := p
        simp only [VRel] at h ⊢
        obtain ⟨us, rfl, h1, h2⟩ := h
        exact ⟨us, rfl, hc h1 ha, h2⟩
      | tup cs =>
        obtain ⟨ds, rfl, ha⟩ := p
        simp only [VRel] at h ⊢
        obtain ⟨us, rfl, h1⟩ := h
        exact ⟨us, rfl, hc h1 ha⟩
      | fn f a b =>
        obtain ⟨ds, es, rfl, h1, h2⟩ := p
        simp only [VRel] at h ⊢
        obtain ⟨x, y, rfl, h3, h4⟩ := h
        exact ⟨x, y, rfl, hc h3 h1, hc h4 h2⟩
      | _ => exact p.elim

/-- H falls into a part that is frozen and one that is kept. -/
structure Split (H Hf Hk : Heap) : Prop where
  fz : HSub Hf H
  kp : HSub Hk H
  ap : ∀ i, hget Hf i = none ∨ hget Hk i = none
theorem HRel.freeze {Hf Hk : Heap} (hH : HRel w I B H) (h : Split H Hf Hk) : HRel w (fzI I Hf) B Hk := by
  refine ⟨hH.base, ?_, ?_, (hH.sub h.kp).inj⟩
  · rintro g (hg | ⟨i, cs, hi⟩)
    · exact hH.imm g hg
    · obtain ⟨cur, T, us, rest, h1, h2, h3⟩ := (hH.blk i g cs (h.fz i g cs hi)).cells
      exact (Array.getElem?_eq_some_iff.1 h1).1
  · intro i g cs hi
    have hb := hH.blk i g cs (h.kp i g cs hi)
    refine ⟨hb.ge, ?_, ?_⟩
    · rintro (hg | ⟨j, ds, hj⟩)
      · exact hb.out hg
      · have : j = i := hH.inj j i g ds cs (h.fz _ _ _ hj) (h.kp _ _ _ hi)
        subst this
        rcases h.ap j with h' | h'
        · rw [h'] at hj; cases hj
        · rw [h'] at hi; cases hi
    · obtain ⟨cur, T, us, rest, h1, h2, h3⟩ := hb.cells
      exact ⟨cur, T, us, rest, h1, h2, CRels.mono (ext_fz I Hf w B) h3⟩

theorem ACalls.freeze (h : ACalls P f args H (fun r H1 => ∃ Hf Hk k r', Split H1 Hf Hk ∧ Pur Hf k r r' ∧ Q r' Hk)) : ACalls P f args H Q :=
  ⟨h.1, fun w I B vs K hH hv post => h.2 w I B vs K hH hv fun r H1 w' I' v ⟨Hf, Hk, k, r', hs, hp, q⟩ hH' hv' he =>
    post r' Hk w' (fzI I' Hf) v q (hH'.freeze hs) (pur_val (hH'.sub hs.fz) k r r' v (VRel.mono (ext_fz I' Hf w' B) hv') hp) (he.trans (ext_fz I' Hf w' B))⟩

/-- The blocks that are new. -/
def nw (H H1 : Heap) : Heap := List.replicate H.length none ++ H1.drop H.length
theorem hget_nw (H H1 : Heap) (i : Nat) : hget (nw H H1) i = bif Nat.blt i H.length then none else hget H1 i := by
  unfold hget nw
  rw [List.getElem?_append]
  simp only [List.length_replicate]
  split
  · rename_i hi
    have : Nat.blt i H.length = true := blt_t hi
    rw [this]
    simp [List.getElem?_replicate, hi]
  · rename_i hi
    have : Nat.blt i H.length = false := by
      cases hb : Nat.blt i H.length with
      | false => rfl
      | true => exact absurd (blt_f hb) hi
    rw [this, List.getElem?_drop]
    simp only [cond_false]
    rw [show H.length + (i - H.length) = i by omega]
theorem nw_sub (H H1 : Heap) : HSub (nw H H1) H1 := by
  intro i g cs h
  rw [hget_nw] at h
  cases hb : Nat.blt i H.length with
  | true => rw [hb] at h; cases h
  | false => rw [hb] at h; exact h
theorem nw_split (h : HSub H H1) : Split H1 (nw H H1) H := by
  refine ⟨nw_sub H H1, h, fun i => ?_⟩
  rw [hget_nw]
  cases hb : Nat.blt i H.length with
  | true => exact .inl rfl
  | false =>
    right
    have : ¬ i < H.length := fun hi => by rw [blt_t hi] at hb; cases hb
    unfold hget
    rw [List.getElem?_eq_none (by omega)]
    rfl
/-- A call that writes to new blocks only: the result may be read as a value, and the heap is as before. -/
theorem ACalls.pure (h : ACalls P f args H (fun r H1 => HSub H H1 ∧ ∃ k r', Pur (nw H H1) k r r' ∧ Q r' H)) : ACalls P f args H Q :=
  ACalls.freeze (h.mono fun r H1 ⟨hs, k, r', hp, q⟩ => ⟨nw H H1, H, k, r', nw_split hs, hp, q⟩)

theorem At.freeze {ks : List KF} {σ σ' : Slots} {Hf Hk : Heap} (hs : Split H Hf Hk) (k : Nat) (hp : ∀ i, Pur Hf k (σ i) (σ' i)) (h : At P f N ks Q σ' Hk) : At P f N ks Q σ H := by
  intro w I B a K hH hF post
  refine h w (fzI I Hf) B a K (hH.freeze hs) ⟨hF.size, hF.defers, fun i => ?_⟩ ?_
  · exact pur_val (hH.sub hs.fz) k _ _ _ (VRel.mono (ext_fz I Hf w B) (hF.slots i)) (hp i)
  · intro r H' w' I' v q hH' hv he
    exact post r H' w' I' v q hH' hv ((ext_fz I Hf w B).trans he)
/-- Slots and blocks that are not asked for any more. -/
theorem At.weak {ks : List KF} {σ σ' : Slots} (hs : HSub H' H) (hp : ∀ i, σ' i = .junk ∨ σ' i = σ i) (h : At P f N ks Q σ' H') : At P f N ks Q σ H := by
  intro w I B a K hH hF post
  refine h w I B a K (hH.sub hs) ⟨hF.size, hF.defers, fun i => ?_⟩ post
  rcases hp i with h1 | h1
  · rw [h1]; simp only [VRel]
  · rw [h1]; exact hF.slots i
theorem At.mono {ks : List KF} {σ : Slots} (h : At P f N ks Q σ H) (hq : ∀ r H', Q r H' → Q' r H') : At P f N ks Q' σ H :=
  fun w I B a K hH hF post => h w I B a K hH hF fun r H' w' I' v q => post r H' w' I' v (hq r H' q)

/-! ### Lending -/
mutual
/-- What the value says does not hang on frozen blocks. -/
def IFree : AVal → Bool
  | .sl .. => false
  | .pel .. => false
  | .agg cs => IFrees cs
  | .tup cs => IFrees cs
  | .fn _ a b => IFrees a && IFrees b
  | .iface _ v => IFree v
  | .int .. | .bool .. | .str .. | .nilS | .own .. | .ptr .. | .nilF | .nilP | .nilI | .junk => true
def IFrees : List AVal → Bool
  | [] => true
  | c :: cs => IFree c && IFrees cs
end
mutual
theorem ifree_rel {w : World} {I I' : Nat → Prop} : ∀ {v : AVal} {u : Value}, IFree v = true → VRel w I v u → VRel w I' v u
  | .sl .., u, h, k => by cases h
  | .pel .., u, h, k => by cases h
  | .agg cs, u, h, k => by
    simp only [VRel, IFree] at h k ⊢
    obtain ⟨us, h1, h2, h3⟩ := k
    exact ⟨us, h1, ifrees_rel h h2, h3⟩
  | .tup cs, u, h, k => by
    simp only [VRel, IFree] at h k ⊢
    obtain ⟨us, h1, h2⟩ := k
    exact ⟨us, h1, ifrees_rel h h2⟩
  | .fn f a b, u, h, k => by
    simp only [VRel, IFree, Bool.and_eq_true] at h k ⊢
    obtain ⟨x, y, h1, h2, h3⟩ := k
    exact ⟨x, y, h1, ifrees_rel h.1 h2, ifrees_rel h.2 h3⟩
  | .iface t v, u, h, k => by
    simp only [VRel, IFree] at h k ⊢
    obtain ⟨y, h1, h2⟩ := k
    exact ⟨y, h1, ifree_rel h h2⟩
  | .int .., u, h, k | .bool .., u, h, k | .str .., u, h, k | .nilS, u, h, k | .own .., u, h, k | .ptr .., u, h, k | .nilF, u, h, k | .nilP, u, h, k | .nilI, u, h, k => by simpa only [VRel] using k
  | .junk, u, h, k => by simp only [VRel]
theorem ifrees_rel {w : World} {I I' : Nat → Prop} : ∀ {vs : List AVal} {us : List Value}, IFrees vs = true → VRels w I vs us → VRels w I' vs us
  | [], us, h, k => by simpa only [VRels] using k
  | c :: cs, us, h, k => by
    simp only [VRels, IFrees, Bool.and_eq_true] at h k ⊢
    obtain ⟨u, rest, h1, h2, h3⟩ := k
    exact ⟨u, rest, h1, ifree_rel h.1 h2, ifrees_rel h.2 h3⟩
end

def dead (H : Heap) : Heap := H.map fun _ => none
theorem hget_dead (H : Heap) (i : Nat) : hget (dead H) i = none := by
  unfold hget dead
  rw [List.getElem?_map]
  cases H[i]? <;> rfl
theorem dead_length (H : Heap) : (dead H).length = H.length := by simp [dead]
def mrg (H H1 : Heap) : Heap := H ++ H1.drop H.length
theorem hget_mrg (H H1 : Heap) (i : Nat) : hget (mrg H H1) i = bif Nat.blt i H.length then hget H i else hget H1 i := by
  unfold hget mrg
  rw [List.getElem?_append]
  split
  · rename_i hi
    rw [blt_t hi]; rfl
  · rename_i hi
    have : Nat.blt i H.length = false := by
      cases hb : Nat.blt i H.length with
      | false => rfl
      | true => exact absurd (blt_f hb) hi
    rw [this, List.getElem?_drop]
    simp only [cond_false]
    rw [show H.length + (i - H.length) = i by omega]
theorem mrg_dead (H : Heap) : mrg H (dead H) = H := by
  unfold mrg
  rw [List.drop_eq_nil_of_le (by simp [dead])]
  simp

/-- A call with what is owned here, out of the contract for values: the call only reads it. -/
theorem ACalls.lend {k : Nat} (hp : All2 (Pur H k) args args')
    (h : ACalls P f args' (dead H) (fun r H1 => IFree r = true ∧ (∀ i g cs, hget H1 i = some (g, cs) → IFrees cs = true) ∧ Q r (mrg H H1))) : ACalls P f args H Q := by
  refine ⟨h.1, fun w I B vs K hH hv post => ?_⟩
  have hf := ext_fz I H w B
  have hH0 : HRel w (fzI I H) B (dead H) := by
    refine ⟨hH.base, (hH.freeze (Hf := H) (Hk := []) ⟨HSub.refl _, (by intro i g cs h; simp [hget] at h), fun i => .inr (by simp [hget])⟩).imm, ?_, ?_⟩
    · intro i g cs h; rw [hget_dead] at h; cases h
    · intro i j g cs ds h; rw [hget_dead] at h; cases h
  refine h.2 w (fzI I H) B vs K hH0 (All2.vrels (pur_val hH k) (VRels.mono hf hv) hp) ?_
  rintro r H1 w' I' v ⟨hr, hc, q⟩ hH1 hv1 he
  have hII : ∀ g, I g → I' g := fun g hg => he.sub g (hf.sub g hg)
  have he' : Ext B w I w' I := ⟨he.below, fun g h => h, fun g hg => he.imm g (hf.sub g hg), he.shp⟩
  refine post r (mrg H H1) w' I v q ⟨hH1.base, fun g hg => hH1.imm g (hII g hg), ?_, ?_⟩ (ifree_rel hr hv1) he'
  · intro i g cs hi
    rw [hget_mrg] at hi
    cases hb : Nat.blt i H.length with
    | true =>
      rw [hb] at hi
      have hbl := hH.blk i g cs hi
      obtain ⟨cur, T, us, rest, h1, h2, h3⟩ := hbl.cells
      exact ⟨hbl.ge, hbl.out, cur, T, us, rest, (he.imm g (.inr ⟨i, cs, hi⟩)).trans h1, h2, CRels.mono he' h3⟩
    | false =>
      rw [hb] at hi
      have hbl := hH1.blk i g cs hi
      obtain ⟨cur, T, us, rest, h1, h2, h3⟩ := hbl.cells
      exact ⟨hbl.ge, fun hg => hbl.out (hII g hg), cur, T, us, rest, h1, h2, ifrees_rel (hc i g cs hi) h3.1, h3.2⟩
  · intro i j g cs ds hi hj
    rw [hget_mrg] at hi hj
    cases hbi : Nat.blt i H.length <;> cases hbj : Nat.blt j H.length <;> rw [hbi] at hi <;> rw [hbj] at hj
    · exact hH1.inj i j g cs ds hi hj
    · exact absurd (he.sub g (.inr ⟨j, ds, hj⟩)) (hH1.blk i g cs hi).out
    · exact absurd (he.sub g (.inr ⟨i, cs, hi⟩)) (hH1.blk j g ds hj).out
    · exact hH.inj i j g cs ds hi hj

end Go.Proofs.Ytccioplhchmilaa.AL
