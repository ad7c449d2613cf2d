/-
  An abstract program logic over the kit's model, part 8: any operation; regions; stacks of code; calls.
-/
import Derived.Test.YtccioplhchmilaaA7
import Derived.Laws.Tables
set_option linter.unusedVariables false
set_option linter.unusedSimpArgs false
namespace Go.Proofs.Ytccioplhchmilaa.AL
open Go Go.RowKit

section
variable {P : Program} {w : World} {I : Nat → Prop} {B : Nat} {H : Heap} (hH : HRel w I B H)
include hH

omit hH in
theorem fold_set (o : Nat) : ∀ (l : List Value) (k : Nat) (pre post : List Value), pre.length = o + k → l.length ≤ post.length →
    ((l.zipIdx k).foldl (fun (cs : Array Value) (x : Value × Nat) => cs.setIfInBounds (o + x.2) x.1) (pre ++ post).toArray) = (pre ++ l ++ post.drop l.length).toArray
  | [], k, pre, post, _, _ => by simp
  | x :: l, k, pre, post, hp, hl => by
    cases post with
    | nil => simp at hl
    | cons y post =>
      simp only [List.zipIdx_cons, List.foldl_cons]
      have e : ((pre ++ y :: post).toArray.setIfInBounds (o + k) x) = ((pre ++ [x]) ++ post).toArray := by
        apply Array.ext'
        simp only [Array.toList_setIfInBounds]
        rw [← hp, List.set_append_right _ _ (Nat.le_refl _)]
        simp
      rw [e, fold_set o l (k + 1) (pre ++ [x]) post (by simp [hp]; omega) (by simpa using hl)]
      simp

omit hH in
theorem bldk_ok {places : List (Nat × Nat)} : ∀ {ps : List ((Nat × Nat) × AVal)} {qs : List (Nat × Value)} {zs : List AVal} {us : List Value} {K : AVal → Prop}, BLDK zs ps K → CRels w I zs us →
    qs.length = ps.length → (∀ (j : Nat) p q, ps[j]? = some p → qs[j]? = some q → places[q.1]? = some p.1 ∧ VRel w I p.2 q.2) →
    ∃ cells, Instr.fill (places[·]?) us.toArray qs = some cells ∧ ∃ v, K v ∧ VRel w I v (.agg cells)
  | [], [], zs, us, K, h, hc, _, _ => ⟨us.toArray, rfl, _, h, by simp only [VRel]; exact ⟨_, rfl, hc.1, hc.2⟩⟩
  | ((o, n), v) :: ps, (i, u) :: qs, zs, us, K, h, hc, hl, hp => by
    simp only [BLDK] at h
    have h0 := hp 0 _ _ rfl rfl
    obtain ⟨cs, ⟨hn, hle, hK⟩, hcr⟩ := cellsOfV_ok h h0.2
    have hul := hc.1.length
    have hcl : u.cells.toList.length = n := by rw [hcr.1.length, hn]
    have hsz : ¬ (u.cells.size ≠ n ∨ o + u.cells.size > us.length) := by rw [← Array.length_toList, hcl]; omega
    have hfold : (u.cells.zipIdx.foldl (fun cs (x : Value × Nat) => cs.setIfInBounds (o + x.2) x.1) us.toArray) = (us.take o ++ u.cells.toList ++ us.drop (o + n)).toArray := by
      have := fold_set o u.cells.toList 0 (us.take o) (us.drop o) (by simp; omega) (by simp; rw [← Array.length_toList, hcl]; omega)
      rw [List.take_append_drop] at this
      have hz : u.cells.zipIdx.toList = u.cells.toList.zipIdx 0 := by simp
      rw [← Array.foldl_toList, hz, this, hcl, List.drop_drop]
    have ih := bldk_ok (places := places) (qs := qs) (us := us.take o ++ u.cells.toList ++ us.drop (o + n)) hK ⟨((hc.1.take o).append hcr.1).append (hc.1.drop _), fun x hx => by
      simp only [List.mem_append] at hx
      rcases hx with (hx | hx) | hx
      · exact hc.2 x (List.mem_of_mem_take hx)
      · exact hcr.2 x hx
      · exact hc.2 x (List.mem_of_mem_drop hx)⟩ (by simpa using hl) (fun j p q h1 h2 => hp (j + 1) p q (by simpa using h1) (by simpa using h2))
    obtain ⟨cells, hf, v', hv, hr⟩ := ih
    refine ⟨cells, ?_, v', hv, hr⟩
    simp only [Instr.fill]
    rw [h0.1]
    simp only [List.size_toArray]
    rw [if_neg (by simpa using hsz), hfold]
    exact hf
  | [], _ :: _, zs, us, K, h, hc, hl, _ => by simp at hl
  | _ :: _, [], zs, us, K, h, hc, hl, _ => by simp at hl

omit hH in
theorem fieldsOf_spec {fs : List Field} {σ : Slots} {a : Act} {N : Nat} (hF : FRel N w I σ a) {places : List (Nat × Nat)} (hpl : fs.mapM (fun f => (P.info? f.type).map fun i => (f.offset, i.size)) = some places) :
    ∀ (ps : List (Nat × Operand)) (qs : List ((Nat × Nat) × AVal)), fieldsOf fs P σ ps = some qs → (ps.map fun x => (x.1, a.eval x.2)).length = qs.length ∧
      ∀ (j : Nat) p q, qs[j]? = some p → (ps.map fun x => (x.1, a.eval x.2))[j]? = some q → places[q.1]? = some p.1 ∧ VRel w I p.2 q.2
  | [], qs, h => by simp only [fieldsOf, Option.some.injEq] at h; subst h; simp
  | (i, x) :: ps, qs, h => by
    simp only [fieldsOf] at h
    cases hf : fs[i]? with
    | none => rw [hf] at h; cases h
    | some f =>
      rw [hf] at h
      simp only [Option.map_eq_some_iff] at h
      obtain ⟨qs', hq, rfl⟩ := h
      obtain ⟨hl, ih⟩ := fieldsOf_spec hF hpl ps qs' hq
      refine ⟨by simpa using hl, fun j p q h1 h2 => ?_⟩
      cases j with
      | zero =>
        simp at h1 h2
        subst h1
        subst h2
        refine ⟨?_, ev_rel hF x⟩
        have : ∀ (fs : List Field) (places : List (Nat × Nat)) (i : Nat) (f : Field), fs.mapM (fun f => (P.info? f.type).map fun i => (f.offset, i.size)) = some places → fs[i]? = some f → places[i]? = some (f.offset, szOf P f.type) := by
          intro fs
          induction fs with
          | nil => intro places i f _ h; simp at h
          | cons g fs ih =>
            intro places i f hm hi
            simp only [List.mapM_cons, Option.bind_eq_bind, Option.pure_def] at hm
            cases hinf : P.info? g.type with
            | none => simp [hinf] at hm
            | some inf =>
              cases hr : fs.mapM (fun f => (P.info? f.type).map fun i => (f.offset, i.size)) with
              | none => simp [hinf, hr] at hm
              | some rest =>
                simp [hinf, hr] at hm
                subst hm
                cases i with
                | zero => simp at hi ⊢; subst hi; simp [szOf, hinf]
                | succ i => simp at hi ⊢; exact ih rest i f hr hi
        exact this fs places i f hpl hf
      | succ j => exact ih j p q (by simpa using h1) (by simpa using h2)

/-- Any operation. -/
theorem vop_sound {o : Oper} {σ : Slots} {K : AVal → Heap → Prop} (h : vop P o σ H K) {a : Act} {N : Nat} (hF : FRel N w I σ a) {Kc : Act → World → Prop} {Qc : Exit → Act → World → Prop}
    (post : ∀ v H' w' I' u, K v H' → HRel w' I' B H' → VRel w' I' v u → Ext B w I w' I' → Kc (a.put o.dst u) w') : o.wp P a w Kc Qc := by
  have val : ∀ {s : Sem Value} {K' : AVal → Heap → Prop}, OpOk P s w I B K' → (∀ v H', K' v H' → K v H') → (execOp a.eval o).run P w = ((do pure (.value (← s)) : Sem Next).run P w) → o.wp P a w Kc Qc := by
    intro s K' hok hK hx
    obtain ⟨u, w', I', v, H', hr, hk, hH', hv, he⟩ := hok
    unfold Oper.wp
    rw [hx]
    simp only [Sem.run_bind, hr, Result.andThen_ok, Sem.run_pure, Oper.upon_value]
    exact post v H' w' I' u (hK _ _ hk) hH' hv he
  have pureK : ∀ v H', (H' = H ∧ K v H) → K v H' := fun v H' h => by obtain ⟨rfl, h⟩ := h; exact h
  have plain : ∀ {v : AVal} {u : Value}, K v H → VRel w I v u → (execOp a.eval o).run P w = .ok (.value u) w → o.wp P a w Kc Qc := by
    intro v u hK hv hx
    unfold Oper.wp
    rw [hx]
    exact post v H w I u hK hH hv (Ext.refl _ _ _)
  have hOV : ∀ x : Option Operand, OV w I (x.map (ev σ)) (x.map a.eval) := fun x => by
    cases x with
    | none => exact .inl ⟨rfl, rfl⟩
    | some x => exact .inr ⟨_, _, rfl, rfl, ev_rel hF x⟩
  unfold vop at h
  split at h
  case h_1 x hop => exact plain h (ev_rel hF x) (by simp [execOp, hop])
  case h_2 x hop => exact plain h (ev_rel hF x) (by simp [execOp, hop])
  case h_3 c x y hop =>
    unfold PICK at h
    split at h
    · rename_i q b hc
      have hcv := ev_rel hF c
      rw [hc] at hcv
      simp only [VRel] at hcv
      refine plain h (u := if b then a.eval x else a.eval y) ?_ (by simp [execOp, hop, hcv, asBool])
      cases b with
      | true => exact ev_rel hF x
      | false => exact ev_rel hF y
    · exact h.elim
  case h_4 t hop => exact val (allock_ok hH h.1 h.2) (fun _ _ h => h) (by simp [execOp, hop])
  case h_5 t x hop => exact val (boxk_ok hH (t := t) h (ev_rel hF x)) (fun _ _ h => h) (by simp [execOp, hop])
  case h_6 t len ps hop =>
    unfold elemT at h
    split at h
    · rename_i e hu
      obtain ⟨hb, h⟩ := h
      split at h
      · rename_i xs hxs
        obtain ⟨hl, hsm, h⟩ := h
        obtain ⟨_, hps⟩ := inOrder_spec _ _ _ hxs
        have hl' : len = xs.length := Nat.eq_of_beq_eq_true hl
        obtain ⟨inf, h1, h2, h3, h4, h5⟩ := info_of hb
        have hz : ∃ z, (P.info? e).bind (·.zero) = some z := by
          obtain ⟨z, hz, _⟩ := zero_of hb
          exact ⟨z, hz⟩
        have := bsk_ok hH (t := t) (len := len) hu hb (by simpa using hl') (Nat.le_of_ble_eq_true hsm) hz h (evs_rel hF xs)
        refine val this (fun _ _ h => h) ?_
        have e : (ps.map fun x => (x.1, a.eval x.2)) = (((xs.map a.eval).zipIdx 0).map fun x => (x.2, x.1)).toArray := by
          apply Array.ext'
          rw [Array.toList_map, hps]
          apply List.ext_getElem?
          intro j
          simp [List.getElem?_zipIdx]
          cases xs[j]? <;> simp
        simp [execOp, hop, e]
      · exact h.elim
    · exact h.elim
  case h_7 t ps hop =>
    split at h
    · rename_i fs hu
      obtain ⟨hall, h⟩ := h
      split at h
      · rename_i zs hzo
        split at h
        · rename_i qs hqs
          cases hit : P.info? t with
          | none => simp [zeroOf, hit] at hzo
          | some it =>
            cases hz : it.zero with
            | none => simp [zeroOf, hit, hz] at hzo
            | some z =>
              have hzv : zeroOf P t = ofV z := by simp [zeroOf, hit, hz]
              rw [hzo] at hzv
              have hzr := ofV_rel w I z
              rw [← hzv] at hzr
              simp only [VRel] at hzr
              obtain ⟨us, rfl, hus, hone⟩ := hzr
              have hpl : ∃ places, fs.toList.mapM (fun f => (P.info? f.type).map fun i => (f.offset, i.size)) = some places := by
                clear h hqs hu
                generalize fs.toList = l at hall
                induction l with
                | nil => exact ⟨[], rfl⟩
                | cons f l ih =>
                  simp only [List.all_cons, Bool.and_eq_true] at hall
                  obtain ⟨rest, hr⟩ := ih hall.2
                  cases hinf : P.info? f.type with
                  | none => rw [hinf] at hall; simp at hall
                  | some inf => exact ⟨(f.offset, inf.size) :: rest, by simp [List.mapM_cons, hinf, hr]⟩
              obtain ⟨places, hpl⟩ := hpl
              obtain ⟨hl, hrel⟩ := fieldsOf_spec hF hpl _ _ hqs
              obtain ⟨cells, hfill, v, hK, hv⟩ := bldk_ok h ⟨hus, hone⟩ hl hrel
              refine plain hK hv ?_
              have hb : P.built t (ps.map fun x => (x.1, a.eval x.2)).toList = some cells := by
                unfold Program.built
                simp only [hit, hu, hz, hpl, Value.cells]
                rw [Array.toList_map]
                simpa using hfill
              have := run_build w t _ cells hb
              simp [execOp, hop, this]
        · exact h.elim
      · exact h.elim
    · exact h.elim
  case h_8 t x hop => exact val (ldk_ok hH h.1 h.2.1 h.2.2 (ev_rel hF x)) pureK (by simp [execOp, hop])
  case h_9 t x y hop =>
    obtain ⟨w', I', H', hr, hK, hH', he⟩ := stk_ok hH h.1 h.2 (ev_rel hF x) (ev_rel hF y)
    unfold Oper.wp
    simp only [execOp, hop, Sem.run_bind, hr, Result.andThen_ok, Sem.run_pure, Oper.upon_skip]
    exact post .junk H' w' I' undef hK hH' (by simp only [VRel]) he
  case h_10 x hop =>
    unfold NILK at h
    have hv := ev_rel hF x
    split at h
    · rename_i i g off hx
      rw [hx] at hv
      simp only [VRel] at hv
      exact plain h (u := a.eval x) (by rw [hx, hv]; simp only [VRel]) (by simp [execOp, hop, hv])
    · rename_i cs i hx
      rw [hx] at hv
      have hv0 := hv
      simp only [VRel] at hv
      obtain ⟨g, off, us, hv, _⟩ := hv
      exact plain h (u := a.eval x) (by rw [hx]; exact hv0) (by simp [execOp, hop, hv])
    · rename_i f fi cs hx
      rw [hx] at hv
      have hv0 := hv
      simp only [VRel] at hv
      obtain ⟨aa, bb, hv, _⟩ := hv
      exact plain h (u := a.eval x) (by rw [hx]; exact hv0) (by simp [execOp, hop, hv])
    · exact h.elim
  case h_11 op t x y yt hop =>
    have guard : ∀ va vb : Value, (match va, vb with | .nilIface, .nilIface => False | .agg _, .agg _ => False | _, _ => True) → (eqGuard op t x y va vb).run P w = .ok () w := by
      intro va vb hne
      unfold eqGuard
      cases op <;> first | (simp; done) | (cases va <;> cases vb <;> first | (simp at hne; done) | simp)
    have main : ∀ {K' : AVal → Heap → Prop}, OpOk P (binOp op t (a.eval x) (a.eval y)) w I B K' → (∀ v H', K' v H' → K v H') → (match a.eval x, a.eval y with | .nilIface, .nilIface => False | .agg _, .agg _ => False | _, _ => True) → o.wp P a w Kc Qc := fun hok hK hne =>
      val hok hK (by simp [execOp, hop, guard _ _ hne])
    have hx := ev_rel hF x
    have hy := ev_rel hF y
    have bin : BINK op (ev σ x) (ev σ y) (fun v => K v H) → o.wp P a w Kc Qc := by
      intro h
      refine main (bink_ok hH h hx hy) pureK ?_
      unfold BINK at h
      split at h
      · rename_i e1 e2
        rw [e1] at hx; rw [e2] at hy
        simp only [VRel] at hx hy
        rw [hx, hy]; trivial
      · rename_i e1 e2
        rw [e1] at hx; rw [e2] at hy
        simp only [VRel] at hx hy
        rw [hx, hy]; trivial
      · exact h.elim
    split at h
    · exact bin h
    · exact bin h
    · rename_i hu
      refine main (eqb_ok hH hu h hx hy) pureK ?_
      unfold EQB at h
      split at h
      · rename_i e1 e2
        rw [e1] at hx; rw [e2] at hy
        simp only [VRel] at hx hy
        rw [hx, hy]; trivial
      · rename_i e1 e2
        rw [e1] at hx; rw [e2] at hy
        simp only [VRel] at hx hy
        rw [hx, hy]; trivial
      · exact h.elim
    · rename_i e hu
      refine main (eqs_ok hH hu h hx hy) pureK ?_
      unfold EQS at h
      split at h
      · rename_i e1 e2
        rw [e1] at hx; rw [e2] at hy
        simp only [VRel] at hx hy
        rw [hx, hy]; trivial
      · rename_i e1 e2
        rw [e1] at hx; rw [e2] at hy
        simp only [VRel] at hx hy
        rw [hx, hy]; trivial
      · rename_i e1 e2
        rw [e1] at hx; rw [e2] at hy
        simp only [VRel] at hx hy
        obtain ⟨c, hx, _⟩ := hx
        rw [hx, hy]; trivial
      · rename_i e1 e2
        rw [e1] at hx; rw [e2] at hy
        simp only [VRel] at hx hy
        obtain ⟨c, hx, _⟩ := hx
        rw [hx, hy]; trivial
      · exact h.elim
    · exact h.elim
  case h_12 t x hop => exact val (negk_ok hH h (ev_rel hF x)) pureK (by simp [execOp, hop])
  case h_13 t x hop => exact val (notk_ok hH h (ev_rel hF x)) pureK (by simp [execOp, hop])
  case h_14 s d x hop =>
    have go : ∀ {K' : AVal → Heap → Prop}, OpOk P (convert s d (a.eval x)) w I B K' → (∀ v H', K' v H' → K v H') → o.wp P a w Kc Qc := fun hok hK => val hok hK (by simp [execOp, hop])
    split at h
    · rename_i hs hd; exact go (icvk_ok hH hs hd h (ev_rel hF x)) pureK
    · rename_i hs hd; exact go (ith_ok hH hs hd h (ev_rel hF x)) pureK
    · rename_i hs hd
      split at h
      · rename_i he; exact go (sobk_ok hH hs he hd h (ev_rel hF x)) pureK
      · exact h.elim
    · rename_i hs hd
      split at h
      · rename_i he; exact go (bosk_ok hH hs hd he h (ev_rel hF x)) pureK
      · exact h.elim
    · exact h.elim
  case h_15 t x hop =>
    split at h
    · exact h.elim
    · rename_i d hni hu
      refine plain h (u := .iface t (a.eval x)) (by simp only [VRel]; exact ⟨_, rfl, ev_rel hF x⟩) ?_
      cases d <;> first | exact (hni _ rfl).elim | simp [execOp, hop, Instr.makeInterface, run_underlying hu]
    · exact h.elim
  case h_16 f first caps hop =>
    refine plain h (u := .func (.func f) (first.map a.eval) (caps.map a.eval)) ?_ (by simp [execOp, hop, Instr.makeFunc])
    simp only [VRel]
    refine ⟨_, _, rfl, ?_, ?_⟩
    · rw [Array.toList_map]; exact evs_rel hF _
    · rw [Array.toList_map]; exact evs_rel hF _
  case h_17 t l c hop =>
    obtain ⟨rfl, h⟩ := h
    unfold elemT at h
    split at h
    · rename_i e hu
      exact val (mkk_ok hH hu h.1 h.2 (ev_rel hF l)) (fun _ _ h => h) (by simp [execOp, hop])
    · exact h.elim
  case h_18 t x lo hi mx hop =>
    split at h
    · rename_i e hu
      refine val (slk_ok hH hu h.1 h.2.2 (ev_rel hF x) (hOV lo) (hOV hi) (hOV mx) ?_) pureK (by simp [execOp, hop])
      have := h.2.1
      intro hm
      cases mx with
      | none => simp at hm
      | some m => simpa using this
    · rename_i hu
      obtain ⟨hx, h⟩ := h
      have hm : mx = none := by simpa using hx
      subst hm
      exact val (ssk_ok hH hu h (ev_rel hF x) (hOV lo) (hOV hi)) pureK (by simp [execOp, hop])
    · exact h.elim
  case h_19 s x f hop =>
    split at h
    · rename_i fs hu
      split at h
      · rename_i fd hf
        exact val (fadk_ok hH hu hf h.1 h.2 (ev_rel hF x)) pureK (by simp [execOp, hop])
      · exact h.elim
    · exact h.elim
  case h_20 s x f hop =>
    split at h
    · rename_i fs hu
      split at h
      · rename_i fd hf
        exact val (fldk_ok hH hu hf h.1 h.2.1 h.2.2 (ev_rel hF x)) pureK (by simp [execOp, hop])
      · exact h.elim
    · exact h.elim
  case h_21 t x i hop =>
    unfold elemT at h
    split at h
    · rename_i e hu
      exact val (ixk_ok hH hu h.1 h.2 (ev_rel hF x) (ev_rel hF i)) pureK (by simp [execOp, hop])
    · exact h.elim
  case h_22 t x i hop =>
    split at h
    · rename_i hu
      exact val (idxk_ok hH hu h (ev_rel hF x) (ev_rel hF i)) pureK (by simp [execOp, hop])
    · exact h.elim
  case h_23 t i hop => exact val (extk_ok hH h (ev_rel hF t)) pureK (by simp [execOp, hop])
  case h_24 c hop =>
    split at h
    · rename_i f hc
      unfold CALLK at h
      split at h
      · rename_i g first caps hg
        obtain ⟨hok, h⟩ := h
        have hfv := ev_rel hF f
        rw [hg] at hfv
        simp only [VRel] at hfv
        obtain ⟨fs, cs, hfv, h1, h2⟩ := hfv
        have hargs := (h1.append (evs_rel hF c.args.toList)).append h2
        have hcall := h w I B _ (fun u w' => Kc (a.put o.dst u) w') hH hargs (fun r H' w' I' v hq hH' hv he => post r H' w' I' v hq hH' hv he)
        have harr : (fs ++ c.args.map a.eval ++ cs) = (fs.toList ++ c.args.toList.map a.eval ++ cs.toList).toArray := by
          apply Array.ext'
          simp
        have hrun : (execOp a.eval o).run P w = .ok (.enter g (fs ++ c.args.map a.eval ++ cs)) w := by
          unfold fnOk at hok
          cases hfn : P.funcs[g]? with
          | none => rw [hfn] at hok; cases hok
          | some fn =>
            rw [hfn] at hok
            simp only [Bool.and_eq_true, bne_iff_ne] at hok
            have hbody : ¬ fn.body = none := by
              intro hb
              rw [hb] at hok; simp at hok
            simp [execOp, hop, resolve, hc, hfv, Deferred.ofValue, invoke, callFunc, hfn, hok.1, hbody]
        unfold Oper.wp
        rw [hrun, Oper.upon_enter, harr]
        refine Calls.mono hcall ?_
        rintro e w' ⟨v, rfl, hk⟩
        exact hk
      · exact h.elim
    · rename_i hc
      split at h
      · rename_i x t hxs hts
        have hca : c.args = #[x] := by apply Array.ext'; simpa using hxs
        have hct : c.argTypes = #[t] := by apply Array.ext'; simpa using hts
        split at h
        · rename_i e hu
          exact val (lenk_ok hH (ty := o.type) hu h (ev_rel hF x)) pureK (by simp [execOp, hop, resolve, hc, invoke, builtin, hca, hct])
        · rename_i hu
          exact val (lens_ok hH (ty := o.type) hu h (ev_rel hF x)) pureK (by simp [execOp, hop, resolve, hc, invoke, builtin, hca, hct])
        · exact h.elim
      · exact h.elim
    · rename_i hc
      split at h
      · rename_i d x t u hxs hts
        have hca : c.args = #[d, x] := by apply Array.ext'; simpa using hxs
        have hct : c.argTypes = #[t, u] := by apply Array.ext'; simpa using hts
        obtain ⟨htu, h⟩ := h
        obtain rfl := Nat.eq_of_beq_eq_true htu
        unfold elemT at h
        split at h
        · rename_i e hu
          exact val (apk_ok hH (ty := o.type) hu h.1 (zero_of h.1) h.2 (ev_rel hF d) (ev_rel hF x)) (fun _ _ h => h) (by simp [execOp, hop, resolve, hc, invoke, builtin, hca, hct])
        · exact h.elim
      · exact h.elim
    · rename_i hc
      have e : c.args.map a.eval = (c.args.toList.map a.eval).toArray := by apply Array.ext'; simp
      exact val (mmk_ok hH (isMax := true) (tys := c.argTypes) (ty := o.type) h (evs_rel hF _)) pureK (by simp [execOp, hop, resolve, hc, invoke, builtin, e])
    · rename_i hc
      have e : c.args.map a.eval = (c.args.toList.map a.eval).toArray := by apply Array.ext'; simp
      exact val (mmk_ok hH (isMax := false) (tys := c.argTypes) (ty := o.type) h (evs_rel hF _)) pureK (by simp [execOp, hop, resolve, hc, invoke, builtin, e])
    · rename_i hc
      split at h
      · rename_i x t hxs hts
        have hca : c.args = #[x] := by apply Array.ext'; simpa using hxs
        have hct : c.argTypes = #[t] := by apply Array.ext'; simpa using hts
        unfold elemT at h
        split at h
        · rename_i e hu
          exact val (clrk_ok hH (ty := o.type) hu h.1 h.2 (ev_rel hF x)) (fun _ _ h => h) (by simp [execOp, hop, resolve, hc, invoke, builtin, hca, hct])
        · exact h.elim
      · exact h.elim
    · rename_i hc
      split at h
      · rename_i d x t u hxs hts
        have hca : c.args = #[d, x] := by apply Array.ext'; simpa using hxs
        have hct : c.argTypes = #[t, u] := by apply Array.ext'; simpa using hts
        unfold elemT at h
        split at h
        · rename_i e hu
          exact val (cpyk_ok hH (ty := o.type) (u := u) hu h.1 h.2 (ev_rel hF d) (ev_rel hF x)) (fun _ _ h => h) (by simp [execOp, hop, resolve, hc, invoke, builtin, hca, hct])
        · exact h.elim
      · exact h.elim
    · exact h.elim
  case h_25 => exact h.elim

end
end Go.Proofs.Ytccioplhchmilaa.AL
