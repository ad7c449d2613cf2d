/-
  An abstract program logic over the kit's model, part 9: regions, stacks of code, functions.
-/
import Derived.Test.YtccioplhchmilaaA8
set_option linter.unusedVariables false
set_option linter.unusedSimpArgs false
namespace Go.Proofs.Ytccioplhchmilaa.AL
open Go Go.RowKit

section
variable {P : Program}

theorem gval_sound {N : Nat} {w : World} {I : Nat → Prop} {σ : Slots} {a : Act} (hF : FRel N w I σ a) {ops : Array Oper} {j : Nat} {b : Option Bool} (h : gval ops σ j = some b) : yielded ops a.tmps j = b := by
  unfold gval at h
  unfold yielded
  rw [← Array.getElem?_toList]
  split at h
  · rename_i d hd
    rw [hd]
    have hs := hF.slots d
    split at h
    · rename_i b' hσ
      rw [hσ] at hs
      simp only [VRel] at hs
      have : a.tmps[d]? = some (.bool b') := by
        rw [Array.getD_eq_getD_getElem?] at hs
        cases ht : a.tmps[d]? with
        | none => rw [ht] at hs; simp [undef] at hs
        | some v => rw [ht] at hs; simp at hs; rw [hs]
      simp only [Option.bind_some, this]
      cases h; rfl
    · rename_i hσ
      rw [hσ] at hs
      simp only [VRel, VRels] at hs
      obtain ⟨us, h1, h2⟩ := hs
      cases h
      simp only [Option.bind_some]
      cases ht : a.tmps[d]? with
      | none => rfl
      | some v =>
        rw [Array.getD_eq_getD_getElem?, ht] at h1
        simp at h1
        rw [h1]
    · cases h
  · cases h
theorem undef_rel (w : World) (I : Nat → Prop) : VRel w I (.tup []) undef := by
  simp only [VRel, VRels]; exact ⟨#[], rfl, rfl⟩

theorem vcOps_sound {N : Nat} {ops : Array Oper} {gs : List Nat} {Qc : Exit → Act → World → Prop} {K : Slots → Heap → Prop} {B : Nat} {w0 : World} {I0 : Nat → Prop}
    (post : ∀ σ' H' w' I' a', K σ' H' → HRel w' I' B H' → FRel N w' I' σ' a' → Ext B w0 I0 w' I' → Qc .normal a' w') :
    ∀ (l : List Oper) (i : Nat) (σ : Slots) (H : Heap) (w : World) (I : Nat → Prop) (a : Act), vcOps P N ops gs l i σ H K → HRel w I B H → FRel N w I σ a → Ext B w0 I0 w I → wpList P ops Qc l a w
  | [], i, σ, H, w, I, a, h, hH, hF, he => post σ H w I a h hH hF he
  | o :: rest, i, σ, H, w, I, a, h, hH, hF, he => by
    have go : vop P o σ H (fun v H' =>
        bif gs.any (Nat.beq i) then SPL v (PUT N σ o.dst (.bool true) fun σ' => vcOps P N ops gs rest (i + 1) σ' H' K) (PUT N σ o.dst (.bool false) fun σ' => vcOps P N ops gs rest (i + 1) σ' H' K)
        else PUT N σ o.dst v fun σ' => vcOps P N ops gs rest (i + 1) σ' H' K) → o.wp P a w (wpList P ops Qc rest) Qc := by
      intro h
      refine vop_sound hH h hF ?_
      intro v H' w' I' u hk hH' hv he'
      have hF' : FRel N w' I' σ a := hF.mono he'
      have fin : PUT N σ o.dst v (fun σ' => vcOps P N ops gs rest (i + 1) σ' H' K) → wpList P ops Qc rest (a.put o.dst u) w' := by
        intro hp
        obtain ⟨σ', hk', hF''⟩ := PUT_sound hp hF' hv
        exact vcOps_sound post rest (i + 1) σ' H' w' I' _ hk' hH' hF'' (he.trans he')
      cases hg : gs.any (Nat.beq i) with
      | false => rw [hg] at hk; exact fin hk
      | true =>
        rw [hg] at hk
        simp only [cond_true, SPL] at hk
        split at hk
        · exact fin hk
        · exact fin hk
        · exact hk.elim
    simp only [vcOps] at h
    unfold wpList
    split at h
    · rename_i hgd
      rw [if_pos (by simp [Region.wanted, hgd])]
      exact .inl (go h)
    · rename_i j want hgd
      split at h
      · rename_i b hb
        have hy := gval_sound hF hb
        cases hbw : (b == some want) with
        | true =>
          rw [hbw] at h
          have : b = some want := by simpa using hbw
          subst this
          rw [if_pos (by simp [Region.wanted, hgd, hy])]
          exact .inl (go h)
        | false =>
          rw [hbw] at h
          have : b ≠ some want := by simpa using hbw
          rw [if_neg (by simp [Region.wanted, hgd, hy, this])]
          simp only [cond_false] at h
          obtain ⟨σ', hk', hF'⟩ := PUT_sound h hF (u := undef) (undef_rel w I)
          exact vcOps_sound post rest (i + 1) σ' H w I _ hk' hH hF' he
      · exact h.elim

/-! ### Stacks of code -/
variable {f : FuncId} {N : Nat} {Q : AVal → Heap → Prop} {σ : Slots} {H : Heap} {ks : List KF}

theorem at_step {ks ks' : List KF} (hs : ∀ (b : Frame) (a : Act) (w : World) (cs : List Frame), FRel N w (fun _ => False) (fun _ => .junk) a → step P (lone (b.at a (ks.map KF.item)) cs w) = .next (lone (b.at a (ks'.map KF.item)) cs w))
    (h : At P f N ks' Q σ H) : At P f N ks Q σ H := by
  intro w I B a K hH hF post b cs hb hk
  obtain ⟨v, w', fr, h1, h2, h3, h4⟩ := h w I B a K hH hF post b cs hb hk
  exact ⟨v, w', fr, h1, .head (hs b a w cs ⟨hF.size, hF.defers, fun i => by simp only [VRel]⟩) h2, h3, h4⟩

theorem at_skip (h : At P f N ks Q σ H) : At P f N (.sq .skip :: ks) Q σ H := at_step (fun b a w cs _ => step_skip) h
theorem at_seq {x y : Code} (h : At P f N (.sq x :: .sq y :: ks) Q σ H) : At P f N (.sq (.seq x y) :: ks) Q σ H := at_step (fun b a w cs _ => step_seq) h
theorem at_block {id : Nat} {c : Code} (h : At P f N (.sq c :: .bl id :: ks) Q σ H) : At P f N (.sq (.block id c) :: ks) Q σ H := at_step (fun b a w cs _ => step_block) h
theorem at_bl {id : Nat} (h : At P f N ks Q σ H) : At P f N (.bl id :: ks) Q σ H := at_step (fun b a w cs _ => step_inBlock) h
theorem at_loop' {c : Code} (h : At P f N (.sq c :: .lp c :: ks) Q σ H) : At P f N (.sq (.loop c) :: ks) Q σ H := at_step (fun b a w cs _ => step_loop) h
theorem at_loop {c : Code} (h : At P f N (.lp c :: ks) Q σ H) : At P f N (.sq (.loop c) :: ks) Q σ H := by
  intro w I B a K hH hF post b cs hb hk
  obtain ⟨v, w', fr, h1, ⟨n, hn⟩, h3, h4⟩ := h w I B a K hH hF post b cs hb hk
  cases n with
  | zero =>
    simp only [runN] at hn
    exfalso
    have hm := h4.1
    injection hn with hn
    have := congrArg Machine.gs hn
    simp only [lone] at this
    have h5 := congrArg (fun g : Array Goroutine => (g[0]?).map fun x => x.frame.mode) this
    simp [Frame.at, hm] at h5
  | succ n =>
    have hst : step P (lone (b.at a ((KF.lp c :: ks).map KF.item)) cs w) = .next (lone (b.at a ((KF.sq c :: KF.lp c :: ks).map KF.item)) cs w) := step_inLoop
    simp only [runN, hst] at hn
    exact ⟨v, w', fr, h1, .head step_loop ⟨n, hn⟩, h3, h4⟩
theorem at_lp {c : Code} (h : At P f N (.sq c :: .lp c :: ks) Q σ H) : At P f N (.lp c :: ks) Q σ H := at_step (fun b a w cs _ => step_inLoop) h

theorem exitK_spec (id : Nat) : ∀ {ks ks' : List KF}, exitK id ks = some ks' → exitTo id (ks.map KF.item) = some (ks'.map KF.item)
  | [], ks', h => by cases h
  | .bl j :: ks, ks', h => by
    simp only [exitK] at h
    simp only [List.map_cons, KF.item, exitTo]
    cases hb : Nat.beq id j with
    | true =>
      rw [hb] at h
      have : id = j := Nat.eq_of_beq_eq_true hb
      subst this
      cases h
      simp
    | false =>
      rw [hb] at h
      have : j ≠ id := fun e => by subst e; simp at hb
      simp [this]
      exact exitK_spec id h
  | .sq c :: ks, ks', h => by
    simp only [exitK] at h
    simp only [List.map_cons, KF.item, exitTo]
    exact exitK_spec id h
  | .lp c :: ks, ks', h => by
    simp only [exitK] at h
    simp only [List.map_cons, KF.item, exitTo]
    exact exitK_spec id h

theorem at_exit {id : Nat} {ks' : List KF} (he : exitK id ks = some ks') (h : At P f N ks' Q σ H) : At P f N (.sq (.exit id) :: ks) Q σ H :=
  at_step (fun b a w cs _ => step_exit (exitK_spec id he)) h

theorem at_cond {c : Operand} {x y : Code} (h : BRK (ev σ c) (At P f N (.sq x :: ks) Q σ H) (At P f N (.sq y :: ks) Q σ H)) : At P f N (.sq (.cond c x y) :: ks) Q σ H := by
  intro w I B a K hH hF post b cs hb hk
  have hc := ev_rel hF c
  unfold BRK at h
  split at h
  · rename_i ht
    rw [ht] at hc
    simp only [VRel] at hc
    have hst := step_cond (P := P) (b := b) (a := a) (k := ks.map KF.item) (cs := cs) (w := w) (x := x) (y := y) hc
    obtain ⟨v, w', fr, h1, h2, h3, h4⟩ := h w I B a K hH hF post b cs hb hk
    exact ⟨v, w', fr, h1, .head hst h2, h3, h4⟩
  · rename_i ht
    rw [ht] at hc
    simp only [VRel] at hc
    have hst := step_cond (P := P) (b := b) (a := a) (k := ks.map KF.item) (cs := cs) (w := w) (x := x) (y := y) hc
    obtain ⟨v, w', fr, h1, h2, h3, h4⟩ := h w I B a K hH hF post b cs hb hk
    exact ⟨v, w', fr, h1, .head hst h2, h3, h4⟩
  · exact h.elim

/-- A region, once it is known what it does. -/
theorem at_region_of {id : Nat} {ops : Array Oper} {dr : Bool} {K' : Slots → Heap → Prop}
    (hr : ∀ (w : World) (I : Nat → Prop) (B : Nat) (a : Act) (Qc : Exit → Act → World → Prop), HRel w I B H → FRel N w I σ a →
      (∀ σ' H' w' I' a', K' σ' H' → HRel w' I' B H' → FRel N w' I' σ' a' → Ext B w I w' I' → Qc .normal a' w') → (Code.region id ops dr).wp P Qc a w)
    (h : ∀ σ' H', K' σ' H' → At P f N ks Q σ' H') : At P f N (.sq (.region id ops dr) :: ks) Q σ H := by
  intro w I B a K hH hF post b cs hb hk
  have hw := hr w I B a (fun e a' w' => e = .normal ∧ ∃ v w'' fr, K v w'' ∧ Steps P (lone (b.at a' (ks.map KF.item)) cs w') (lone fr cs w'') ∧ fr.fn = f ∧ fr.leaving P w'' (.returned v)) hH hF (by
    intro σ' H' w' I' a' hk' hH' hF' he
    refine ⟨rfl, ?_⟩
    obtain ⟨v, w'', fr, h1, h2, h3, h4⟩ := h σ' H' hk' w' I' B a' K hH' hF' (fun r H'' w'' I'' v hq hH'' hv he' => post r H'' w'' I'' v hq hH'' hv (he.trans he')) b cs hb hk
    exact ⟨v, w'', fr, h1, h2, h3, h4⟩) b (ks.map KF.item) cs
  obtain ⟨e, a', w', ⟨rfl, v, w'', fr, h1, h2, h3, h4⟩, harr⟩ := hw
  exact ⟨v, w'', fr, h1, Steps.trans harr h2, h3, h4⟩

theorem at_region {id : Nat} {ops : Array Oper} (h : vcOps P N ops (guardsOf ops) ops.toList 0 σ H fun σ' H' => At P f N ks Q σ' H') : At P f N (.sq (.region id ops false) :: ks) Q σ H := by
  refine at_region_of (K' := fun σ' H' => At P f N ks Q σ' H') ?_ (fun _ _ h => h)
  intro w I B a Qc hH hF post
  exact wp_region_list (vcOps_sound post ops.toList 0 σ H w I a h hH hF (Ext.refl _ _ _))

/-- What the function hands back. -/
def resOf (tmps : Array Value) : ResultVar → Sem Value
  | .tmp t => pure (tmps.getD t undef)
  | .cell a t => do loadVar t (← asAddr (tmps.getD a undef))
theorem RESK_sound {w : World} {I : Nat → Prop} {B : Nat} {a : Act} (hH : HRel w I B H) (hF : FRel N w I σ a) : ∀ (rs : List ResultVar) (K : List AVal → Prop), RESK P H σ rs K →
    ∃ vs us, K vs ∧ VRels w I vs us ∧ (rs.mapM (resOf a.tmps)).run P w = .ok us w
  | [], K, h => ⟨[], [], h, by simp [VRels], by simp⟩
  | .tmp t :: rs, K, h => by
    simp only [RESK] at h
    obtain ⟨vs, us, hK, hv, hr⟩ := RESK_sound hH hF rs _ h
    refine ⟨_, a.tmps.getD t undef :: us, hK, ?_, ?_⟩
    · simp only [VRels]
      exact ⟨_, _, rfl, hF.slots t, hv⟩
    · rw [List.mapM_cons]
      simp only [resOf, Sem.run_bind, Sem.run_pure, Result.andThen_ok, hr]
  | .cell p t :: rs, K, h => by
    simp only [RESK] at h
    obtain ⟨hb, hs, h⟩ := h
    obtain ⟨ad, v, u, hp, hr1, hK1, hv1⟩ := ldk_run hH hb hs h (hF.slots p)
    obtain ⟨vs, us, hK, hv, hr⟩ := RESK_sound hH hF rs _ hK1
    refine ⟨_, u :: us, hK, ?_, ?_⟩
    · simp only [VRels]
      exact ⟨_, _, rfl, hv1, hv⟩
    · rw [List.mapM_cons]
      simp only [resOf, hp, asAddr, Sem.run_bind, Sem.run_pure, Result.andThen_ok, hr1, hr]

theorem RETK_sound {w : World} {I : Nat → Prop} {B : Nat} {a : Act} (hH : HRel w I B H) (hF : FRel N w I σ a) {fn : Func} (h : RETK P fn.results.toList Q σ H) :
    ∃ r v, Q r H ∧ VRel w I r v ∧ (results fn a.tmps).run P w = .ok v w := by
  unfold RETK at h
  obtain ⟨vs, us, hK, hv, hr⟩ := RESK_sound hH hF _ _ h
  have hm : (fn.results.mapM (resOf a.tmps)).run P w = .ok us.toArray w := by
    rw [Array.mapM_eq_mapM_toList]
    simp [hr]
  have hres : (results fn a.tmps).run P w = .ok (if h : us.toArray.size = 1 then us.toArray[0] else .tuple us.toArray) w := by
    have : results fn a.tmps = (do let vs ← fn.results.mapM (resOf a.tmps); pure (if h : vs.size = 1 then vs[0] else .tuple vs)) := by
      unfold results
      congr 1
    rw [this]
    simp only [Sem.run_bind, hm, Result.andThen_ok, Sem.run_pure]
  split at hK
  · rename_i r
    simp only [VRels] at hv
    obtain ⟨u, rest, rfl, h1, rfl⟩ := hv
    exact ⟨r, u, hK, h1, by rw [hres]; simp⟩
  · rename_i hne
    have hl := hv.length
    refine ⟨.tup vs, .tuple us.toArray, hK, by simp only [VRel]; exact ⟨_, rfl, hv⟩, ?_⟩
    rw [hres]
    have : us.toArray.size ≠ 1 := by
      intro h1
      have : vs.length = 1 := by simpa [hl] using h1
      obtain ⟨x, rfl⟩ : ∃ x, vs = [x] := by
        cases vs with
        | nil => cases this
        | cons x xs => cases xs with
          | nil => exact ⟨x, rfl⟩
          | cons y ys => simp at this
      exact hne x rfl
    rw [dif_neg this]

theorem at_ret {fn : Func} (hf : P.funcs[f]? = some fn) (h : RETK P fn.results.toList Q σ H) : At P f N (.sq .ret :: ks) Q σ H := by
  intro w I B a K hH hF post b cs hb hk
  obtain ⟨r, v, hq, hv, hr⟩ := RETK_sound hH hF h
  refine ⟨v, w, { b.at a (.code .ret :: ks.map KF.item) with mode := .returning }, post r H w I v hq hH hv (Ext.refl _ _ _), .one step_ret, hb, rfl, hF.defers, hk, fn, ?_, hr⟩
  simp only [Frame.at]
  rw [hb]; exact hf
theorem at_end {fn : Func} (hf : P.funcs[f]? = some fn) (h : RETK P fn.results.toList Q σ H) : At P f N [] Q σ H := by
  intro w I B a K hH hF post b cs hb hk
  obtain ⟨r, v, hq, hv, hr⟩ := RETK_sound hH hF h
  refine ⟨v, w, { b.at a [] with mode := .returning }, post r H w I v hq hH hv (Ext.refl _ _ _), .one step_end, hb, rfl, hF.defers, hk, fn, ?_, hr⟩
  simp only [Frame.at]
  rw [hb]; exact hf

/-- A function's contract, out of what its body asks. -/
theorem acalls_of_at {fn : Func} {c : Code} {args : List AVal} (hf : P.funcs[f]? = some fn) (hb : fn.body = some c) (hok : fnOk P f = true) (hl : args.length ≤ fn.ntmps)
    (h : At P f fn.ntmps [.sq c] Q (entry args) H) : ACalls P f args H Q := by
  refine ⟨hok, fun w I B vs K hH hv post cs => ?_⟩
  let b : Frame := { (default : Frame) with fn := f, kind := .normal }
  have henter : Frame.enter P f vs.toArray .normal = b.at { tmps := vs.toArray ++ Array.replicate (fn.ntmps - vs.toArray.size) undef, defers := [] } [.code c] := by
    simp [Frame.enter, Frame.at, hf, hb, b]
  have hvl := hv.length
  have hF : FRel fn.ntmps w I (entry args) { tmps := vs.toArray ++ Array.replicate (fn.ntmps - vs.toArray.size) undef, defers := [] } := by
    refine ⟨by simp; omega, rfl, fun i => ?_⟩
    unfold entry
    by_cases hi : i < args.length
    · obtain ⟨u, hu, hr⟩ := hv.at (List.getElem?_eq_getElem hi)
      have e1 : args.getD i .junk = args[i] := by simp [List.getD, hi]
      have e2 : (vs.toArray ++ Array.replicate (fn.ntmps - vs.toArray.size) undef).getD i undef = u := by
        rw [Array.getD_eq_getD_getElem?, Array.getElem?_append_left (by simp; omega)]
        simp [hu]
      rw [e1, e2]; exact hr
    · have e1 : args.getD i .junk = .junk := by simp [List.getD, List.getElem?_eq_none (Nat.le_of_not_lt hi)]
      rw [e1]; simp only [VRel]
  obtain ⟨v, w', fr, h1, h2, h3, h4⟩ := h w I B _ K hH hF post b cs rfl rfl
  refine ⟨.returned v, w', fr, ⟨v, rfl, h1⟩, ?_, h3, h4⟩
  rw [henter]
  exact h2

end
end Go.Proofs.Ytccioplhchmilaa.AL
