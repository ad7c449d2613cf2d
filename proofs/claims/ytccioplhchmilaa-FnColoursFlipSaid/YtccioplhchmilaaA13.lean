/-
  An abstract program logic over the kit's model, part 13: stacks of code, with regions whose order is drawn.
-/
import Derived.Test.YtccioplhchmilaaA12
set_option linter.unusedVariables false
set_option linter.unusedSimpArgs false
namespace Go.Proofs.Ytccioplhchmilaa.AL
open Go Go.RowKit

section
variable (P : Program)
def slotsOf : List (Nat × AVal) → Slots
  | [], _ => .junk
  | (i, v) :: l, j => bif Nat.beq j i then v else slotsOf l j
/-- The first region of a piece of code. -/
def fid : Code → Option Nat
  | .region id _ _ => some id
  | .seq a b => match fid a with | some i => some i | none => fid b
  | .block _ c => fid c
  | .loop c => fid c
  | .cond _ x y => match fid x with | some i => some i | none => fid y
  | _ => none
/-- The slots that a loop looks at. -/
def lvOf (lv : List (Nat × List Nat)) (c : Code) : List Nat := match fid c with
  | some i => (match lv.find? (fun p => Nat.beq p.1 i) with | some p => p.2 | none => [])
  | none => []
def keep (lv : List (Nat × List Nat)) (c : Code) (σ : Slots) : Slots := slotsOf ((lvOf lv c).map fun i => (i, σ i))
/-- Parts of code. -/
def cL : Code → Code | .seq a _ => a | c => c
def cR : Code → Code | .seq _ b => b | c => c
def cB : Code → Code | .block _ c => c | .loop c => c | c => c
def cX : Code → Code | .cond _ x _ => x | c => c
def cY : Code → Code | .cond _ _ y => y | c => c
def bodyOf (f : Func) : Code := match f.body with | some c => c | none => .skip
abbrev TT : Prop := true = true

/-- What the code to do asks, up to the next head of a loop. -/
def vs (lv : List (Nat × List Nat)) (f : FuncId) (N : Nat) (rs : List ResultVar) (Q : AVal → Heap → Prop) : Bool → Nat → List KF → Slots → Heap → Prop
  | _, 0, ks, σ, H => At P f N ks Q σ H
  | _, n + 1, [], σ, H => RETK P rs Q σ H
  | b, n + 1, .bl _ :: ks, σ, H => vs lv f N rs Q b n ks σ H
  | _, n + 1, .lp c :: ks, σ, H => At P f N (.lp c :: ks) Q (keep lv c σ) H
  | b, n + 1, .sq c :: ks, σ, H => match c with
    | .skip => vs lv f N rs Q b n ks σ H
    | .seq x y => vs lv f N rs Q b n (.sq x :: .sq y :: ks) σ H
    | .block id c => vs lv f N rs Q b n (.sq c :: .bl id :: ks) σ H
    | .loop c => At P f N (.lp c :: ks) Q (keep lv c σ) H
    | .cond c x y => BRK (ev σ c) (vs lv f N rs Q b n (.sq x :: ks) σ H) (vs lv f N rs Q b n (.sq y :: ks) σ H)
    | .exit id => (match exitK id ks with | some ks' => vs lv f N rs Q b n ks' σ H | none => False)
    | .ret => RETK P rs Q σ H
    | .region id ops dr => bif !b && lv.any (fun p => Nat.beq p.1 id) then At P f N (.sq (.region id ops dr) :: ks) Q (keep lv (.region id ops dr) σ) H
      else bif dr then okDraw ops (guardsOf ops) = true ∧ vcD P N ops (guardsOf ops) (orderOf ops) [] σ H fun σ' H' => vs lv f N rs Q false n ks σ' H'
      else vcOps P N ops (guardsOf ops) ops.toList 0 σ H fun σ' H' => vs lv f N rs Q false n ks σ' H'
    | _ => False
end

section
variable {P : Program} {f : FuncId} {N : Nat} {Q : AVal → Heap → Prop} {σ : Slots} {H : Heap} {ks : List KF}
theorem keep_weak (lv : List (Nat × List Nat)) (c : Code) (σ : Slots) (i : Nat) : keep lv c σ i = .junk ∨ keep lv c σ i = σ i := by
  unfold keep
  generalize lvOf lv c = l
  induction l with
  | nil => exact .inl rfl
  | cons j l ih =>
    simp only [List.map_cons, slotsOf]
    cases hb : Nat.beq i j with
    | true => have := Nat.eq_of_beq_eq_true hb; subst this; exact .inr rfl
    | false => exact ih
theorem at_keep {lv : List (Nat × List Nat)} {c : Code} (h : At P f N ks Q (keep lv c σ) H) : At P f N ks Q σ H := At.weak (HSub.refl H) (keep_weak lv c σ) h
theorem vs_sound {lv : List (Nat × List Nat)} (hmix : P.follows .mixedOrders = true) {fn : Func} (hf : P.funcs[f]? = some fn) : ∀ (b : Bool) (n : Nat) (ks : List KF) (σ : Slots) (H : Heap), vs P lv f N fn.results.toList Q b n ks σ H → At P f N ks Q σ H
  | _, 0, ks, σ, H, h => h
  | _, n + 1, [], σ, H, h => at_end hf h
  | b, n + 1, .bl _ :: ks, σ, H, h => at_bl (vs_sound hmix hf b n ks σ H h)
  | _, n + 1, .lp c :: ks, σ, H, h => at_keep h
  | b, n + 1, .sq c :: ks, σ, H, h => by
    cases c with
    | skip => exact at_skip (vs_sound hmix hf b n _ σ H h)
    | region id ops dr =>
      simp only [vs] at h
      cases hc : (!b && lv.any (fun p => Nat.beq p.1 id)) with
      | true => rw [hc] at h; exact at_keep h
      | false =>
        rw [hc] at h
        cases dr with
        | false => exact at_region_of (K' := fun σ' H' => vs P lv f N fn.results.toList Q false n ks σ' H')
                     (fun w I B a Qc hH hF post => wp_region_list (vcOps_sound post ops.toList 0 σ H w I a h hH hF (Ext.refl _ _ _))) (fun σ' H' h' => vs_sound hmix hf false n ks σ' H' h')
        | true => exact at_region_of (K' := fun σ' H' => vs P lv f N fn.results.toList Q false n ks σ' H')
                     (fun w I B a Qc hH hF post => wp_region_drawn hmix h.1 post h.2 hH hF) (fun σ' H' h' => vs_sound hmix hf false n ks σ' H' h')
    | seq x y => exact at_seq (vs_sound hmix hf b n _ σ H h)
    | cond c x y =>
      refine at_cond ?_
      simp only [vs] at h
      unfold BRK at h ⊢
      split at h
      · exact vs_sound hmix hf b n _ σ H h
      · exact vs_sound hmix hf b n _ σ H h
      · exact h.elim
    | block id c => exact at_block (vs_sound hmix hf b n _ σ H h)
    | loop c => exact at_loop (c := c) (at_keep h)
    | exit id =>
      simp only [vs] at h
      split at h
      · rename_i ks' hk
        exact at_exit hk (vs_sound hmix hf b n ks' σ H h)
      · exact h.elim
    | ret => exact at_ret hf h
    | rangeFunc _ _ _ _ => exact h.elim
    | scope _ => exact h.elim
    | label _ => exact h.elim
    | goto _ => exact h.elim
    | refuse _ => exact h.elim

/-- A function's contract, out of what its body asks. -/
theorem acalls_vs {lv : List (Nat × List Nat)} (hmix : P.follows .mixedOrders = true) {fn : Func} {args : List AVal} (hf : P.funcs[f]? = some fn) (hb : fn.body = some (bodyOf fn)) (hok : fnOk P f = true) (hl : Nat.ble args.length fn.ntmps = true)
    (h : vs P lv f fn.ntmps fn.results.toList Q true 1000 [.sq (bodyOf fn)] (entry args) H) : ACalls P f args H Q :=
  acalls_of_at hf hb hok (Nat.le_of_ble_eq_true hl) (vs_sound hmix hf true 1000 _ _ _ h)
/-- A loop's head, out of what its body asks. -/
theorem at_lp_vs {lv : List (Nat × List Nat)} (hmix : P.follows .mixedOrders = true) {fn : Func} (hf : P.funcs[f]? = some fn) {c : Code} (h : vs P lv f N fn.results.toList Q true 1000 (.sq c :: .lp c :: ks) σ H) : At P f N (.lp c :: ks) Q σ H :=
  at_lp (vs_sound hmix hf true 1000 _ _ _ h)
/-- A place where ways join, out of what is asked from there. -/
theorem at_join_vs {lv : List (Nat × List Nat)} (hmix : P.follows .mixedOrders = true) {fn : Func} (hf : P.funcs[f]? = some fn) (h : vs P lv f N fn.results.toList Q true 1000 ks σ H) : At P f N ks Q σ H :=
  vs_sound hmix hf true 1000 _ _ _ h
end
end Go.Proofs.Ytccioplhchmilaa.AL
