/-
  An abstract program logic over the kit's model, part 12: regions whose order is drawn.
-/
import Derived.Test.YtccioplhchmilaaA11
import Derived.Orders
set_option linter.unusedVariables false
set_option linter.unusedSimpArgs false
namespace Go.Proofs.Ytccioplhchmilaa.AL
open Go Go.RowKit

section
variable {P : Program}


/-! ### Weakening what is asked after -/
theorem cellsAt_mono {ag : Bool} {n : Nat} {cs : List AVal} {o : Nat} {K K' : AVal → Prop} (hk : ∀ v, K v → K' v) (h : cellsAt ag n cs o K) : cellsAt ag n cs o K' := by
  unfold cellsAt at h ⊢
  cases ag with
  | true => exact ⟨h.1, hk _ h.2⟩
  | false => exact h.imp fun v hv => ⟨hv.1, hk _ hv.2⟩
theorem cellsOfV_mono {v : AVal} {K K' : List AVal → Prop} (hk : ∀ v, K v → K' v) (h : cellsOfV v K) : cellsOfV v K' := by
  unfold cellsOfV at h ⊢
  split at h
  · exact hk _ h
  · exact ⟨h.1, hk _ h.2⟩
theorem elemsOf_mono {es : Nat} {H : Heap} {x : AVal} {K K' : Nat → List AVal → Prop} (hk : ∀ n v, K n v → K' n v) (h : elemsOf es H x K) : elemsOf es H x K' := by
  unfold elemsOf at h ⊢
  split at h
  · exact hk _ _ h
  · exact ⟨h.1, hk _ _ h.2⟩
  · exact h.imp fun cs hc => ⟨hc.1, hc.2.1, hk _ _ hc.2.2⟩
  · exact h.elim
theorem allCells_mono {es : Nat} : ∀ {vs : List AVal} {K K' : List AVal → Prop}, (∀ v, K v → K' v) → allCells es vs K → allCells es vs K'
  | [], K, K', hk, h => hk _ h
  | v :: vs, K, K', hk, h => cellsOfV_mono (fun cs hc => ⟨hc.1, allCells_mono (fun ds hd => hk _ hd) hc.2⟩) h
theorem BLDK_mono : ∀ {ps : List ((Nat × Nat) × AVal)} {zs : List AVal} {K K' : AVal → Prop}, (∀ v, K v → K' v) → BLDK zs ps K → BLDK zs ps K'
  | [], zs, K, K', hk, h => hk _ h
  | ((o, n), v) :: ps, zs, K, K', hk, h => cellsOfV_mono (fun cs hc => ⟨hc.1, hc.2.1, BLDK_mono hk hc.2.2⟩) h
theorem STK_mono {n : Nat} {H : Heap} {p v : AVal} {K K' : Heap → Prop} (hk : ∀ H, K H → K' H) (h : STK n H p v K) : STK n H p v K' := by
  unfold STK at h ⊢
  split at h
  · obtain ⟨cs, hg, h⟩ := h
    refine ⟨cs, hg, ?_⟩
    split at h
    · exact ⟨h.1, h.2.1, hk _ h.2.2⟩
    · exact ⟨h.1, h.2.1, h.2.2.1, hk _ h.2.2.2⟩
  · exact h.elim
theorem APK_mono {es : Nat} {H : Heap} {d x : AVal} {K K' : AVal → Heap → Prop} (hk : ∀ v H, K v H → K' v H) (h : APK es H d x K) : APK es H d x K' := by
  unfold APK at h ⊢
  refine elemsOf_mono (fun m ns h => ?_) h
  split at h
  · exact ⟨h.1, fun e => hk _ _ (h.2.1 e), fun e g => hk _ _ (h.2.2 e g)⟩
  · exact ⟨h.1, h.2.1, fun e => hk _ _ (h.2.2.1 e), fun e g => hk _ _ (h.2.2.2 e g)⟩
  · exact ⟨h.1, h.2.1, h.2.2.1, h.2.2.2.imp fun cs hc => ⟨hc.1, hc.2.1, fun g => hk _ _ (hc.2.2 g)⟩⟩
  · exact h.elim
theorem CPYK_mono {es : Nat} {H : Heap} {d x : AVal} {K K' : AVal → Heap → Prop} (hk : ∀ v H, K v H → K' v H) (h : CPYK es H d x K) : CPYK es H d x K' := by
  unfold CPYK at h ⊢
  split at h
  · exact elemsOf_mono (fun m ns h => ⟨h.1, h.2.imp fun cs hc => ⟨hc.1, hc.2.1, hk _ _ hc.2.2⟩⟩) h
  · exact h.elim
theorem CLRK_mono {es : Nat} {z : AVal} {H : Heap} {x : AVal} {K K' : AVal → Heap → Prop} (hk : ∀ v H, K v H → K' v H) (h : CLRK es z H x K) : CLRK es z H x K' := by
  unfold CLRK at h ⊢
  split at h
  · exact hk _ _ h
  · exact ⟨h.1, hk _ _ h.2⟩
  · exact ⟨h.1, cellsOfV_mono (fun zs h => ⟨h.1, h.2.imp fun cs hc => ⟨hc.1, hc.2.1, hk _ _ hc.2.2⟩⟩) h.2⟩
  · exact h.elim
theorem CALLK_mono {f : AVal} {args : List AVal} {H : Heap} {K K' : AVal → Heap → Prop} (hk : ∀ v H, K v H → K' v H) (h : CALLK P f args H K) : CALLK P f args H K' := by
  unfold CALLK at h ⊢
  split at h
  · exact ACalls.mono h hk
  · exact h.elim
theorem fn_mono {F : (AVal → Prop) → Prop} (hF : Fn F) {K K' : AVal → Prop} (hk : ∀ v, K v → K' v) (h : F K) : F K' := by
  obtain ⟨v, hv, hr⟩ := hF K h
  exact hr K' (hk v hv)
theorem vop_mono {o : Oper} {σ : Slots} {H : Heap} {K K' : AVal → Heap → Prop} (hk : ∀ v H', K v H' → K' v H') (h : vop P o σ H K) : vop P o σ H K' := by
  cases hy : isY o.op with
  | true =>
    obtain ⟨v, hv, hr⟩ := vop_yld hy h
    exact hr H (.inr rfl) K' (hk v H hv)
  | false =>
    unfold vop at h ⊢
    split at h
    case h_4 t hop =>
      try simp only [hop]
      exact ⟨h.1, cellsOfV_mono (fun cs hc g => hk _ _ (hc g)) h.2⟩
    case h_5 t x hop =>
      try simp only [hop]
      exact cellsOfV_mono (fun cs hc g => hk _ _ (hc g)) h
    case h_6 t len ps hop =>
      try simp only [hop]
      unfold elemT at h ⊢
      split at h
      · refine ⟨h.1, ?_⟩
        have h2 := h.2
        split at h2
        · rename_i xs hxs
          try simp only [hxs]
          exact ⟨h2.1, h2.2.1, allCells_mono (fun cs hc => hc.imp (fun hc g => hk _ _ (hc g)) (fun hc => hk _ _ hc)) h2.2.2⟩
        · exact h2.elim
      · exact h.elim
    case h_7 t ps hop =>
      try simp only [hop]
      split at h
      · rename_i fs hu
        refine ⟨h.1, ?_⟩
        have h2 := h.2
        split at h2
        · split at h2
          · exact BLDK_mono (fun v hv => hk _ _ hv) h2
          · exact h2.elim
        · exact h2.elim
      · exact h.elim
    case h_9 t a x hop =>
      try simp only [hop]
      exact ⟨h.1, STK_mono (fun H' hH => hk _ _ hH) h.2⟩
    case h_14 s d x hop =>
      try simp only [hop]
      split at h
      · exact fn_mono (fn_ICVK _ _) (fun v hv => hk _ _ hv) h
      · exact fn_mono (fn_ITH _) (fun v hv => hk _ _ hv) h
      · split at h
        · exact elemsOf_mono (fun n cs hc => ⟨hc.1, hk _ _ hc.2⟩) h
        · exact h.elim
      · split at h
        · unfold BOSK at h ⊢
          split at h
          · exact ⟨h.1, hk _ _ h.2⟩
          · exact h.elim
        · exact h.elim
      · exact h.elim
    case h_15 t x hop =>
      try simp only [hop]
      split at h
      · exact h.elim
      · exact hk _ _ h
      · exact h.elim
    case h_17 t l c hop =>
      try simp only [hop]
      refine ⟨h.1, ?_⟩
      have h2 := h.2
      unfold elemT at h2 ⊢
      split at h2
      · refine ⟨h2.1, ?_⟩
        have h3 := h2.2
        unfold MKK at h3 ⊢
        split at h3
        · exact ⟨h3.1, h3.2.1, cellsOfV_mono (fun zs hz => ⟨hz.1, fun g => hk _ _ (hz.2 g)⟩) h3.2.2⟩
        · exact h3.elim
      · exact h2.elim
    case h_24 c hop =>
      try simp only [hop]
      split at h
      · exact CALLK_mono hk h
      · rename_i hc; simp [hop, isY, hc] at hy
      · split at h
        · unfold elemT at h ⊢
          have h2 := h.2
          refine ⟨h.1, ?_⟩
          split at h2
          · exact ⟨h2.1, APK_mono hk h2.2⟩
          · exact h2.elim
        · exact h.elim
      · rename_i hc; simp [hop, isY, hc] at hy
      · rename_i hc; simp [hop, isY, hc] at hy
      · split at h
        · unfold elemT at h ⊢
          split at h
          · exact ⟨h.1, CLRK_mono hk h.2⟩
          · exact h.elim
        · exact h.elim
      · split at h
        · unfold elemT at h ⊢
          split at h
          · exact ⟨h.1, CPYK_mono hk h.2⟩
          · exact h.elim
        · exact h.elim
      · exact h.elim
    all_goals (rename_i hop; first | exact h.elim | (rw [hop] at hy; cases hy))

/-! ### Operations in a drawn region: a literal is a value -/
def isYD : Op → Bool
  | .buildSlice .. => true
  | o => isY o
def vopD (P : Program) (o : Oper) (σ : Slots) (H : Heap) (K : AVal → Heap → Prop) : Prop :=
  match o.op with
  | .buildSlice t len ps => elemT P t fun e => bytesOk P e = true ∧ match inOrder 0 ps.toList with
    | some xs => Nat.beq len xs.length = true ∧ Nat.ble (len * szOf P e) 100000 = true ∧ allCells (szOf P e) (xs.map (ev σ)) fun cs => K (.sl true (xs.map (ev σ)).length cs) H
    | none => False
  | _ => vop P o σ H K
theorem vopD_eq {o : Oper} (h : ∀ t len ps, o.op ≠ .buildSlice t len ps) : vopD P o = vop P o := by
  funext σ H K
  unfold vopD
  split
  · rename_i t len ps hop; exact absurd hop (h t len ps)
  · rfl
theorem isYD_eq {o : Op} (h : ∀ t len ps, o ≠ .buildSlice t len ps) : isYD o = isY o := by
  unfold isYD
  split
  · rename_i t len ps; exact absurd rfl (h t len ps)
  · rfl
theorem vop_of_D {o : Oper} {σ : Slots} {H : Heap} {K : AVal → Heap → Prop} (h : vopD P o σ H K) : vop P o σ H K := by
  unfold vopD at h
  split at h
  · rename_i t len ps hop
    unfold vop
    simp only [hop]
    unfold elemT at h ⊢
    split at h
    · refine ⟨h.1, ?_⟩
      have h2 := h.2
      split at h2
      · rename_i xs hxs
        simp only [hxs]
        exact ⟨h2.1, h2.2.1, allCells_mono (fun cs hc => .inr hc) h2.2.2⟩
      · exact h2.elim
    · exact h.elim
  · exact h
theorem vopD_mono {o : Oper} {σ : Slots} {H : Heap} {K K' : AVal → Heap → Prop} (hk : ∀ v H', K v H' → K' v H') (h : vopD P o σ H K) : vopD P o σ H K' := by
  unfold vopD at h ⊢
  split at h
  · unfold elemT at h ⊢
    split at h
    · refine ⟨h.1, ?_⟩
      have h2 := h.2
      split at h2
      · exact ⟨h2.1, h2.2.1, allCells_mono (fun cs hc => hk _ _ hc) h2.2.2⟩
      · exact h2.elim
    · exact h.elim
  · exact vop_mono hk h
theorem vopD_congr {o : Oper} {σ σ' : Slots} (h : ∀ t, .tmp t ∈ opnds o.op → σ t = σ' t) : vopD P o σ = vopD P o σ' := by
  funext H K
  unfold vopD
  split
  · rename_i t len ps hop
    have he : ∀ x ∈ ps.toList.map (·.2), ev σ x = ev σ' x := fun x hx => ev_congr h (by rw [hop]; exact hx)
    congr 1
    funext e
    congr 1
    split
    · rename_i xs hxs
      rw [inOrder_mem _ _ _ hxs, map_congr he]
    · rfl
  · rw [vop_congr h]
theorem fnl_cellsOfV (v : AVal) {F : List AVal → (AVal → Prop) → Prop} (h : ∀ cs, Fn (F cs)) : Fn (fun K => cellsOfV v fun cs => F cs K) := by
  unfold cellsOfV
  split
  · exact h _
  · exact fn_and (h _)
theorem fn_allCells (es : Nat) : ∀ (vs : List AVal) {F : List AVal → (AVal → Prop) → Prop}, (∀ cs, Fn (F cs)) → Fn (fun K => allCells es vs fun cs => F cs K)
  | [], F, h => h []
  | v :: vs, F, h => fnl_cellsOfV v fun cs => fn_and (fn_allCells es vs fun ds => h (cs ++ ds))
theorem vopD_yld {o : Oper} {σ : Slots} {H : Heap} {K : AVal → Heap → Prop} (hy : isYD o.op = true) (h : vopD P o σ H K) :
    ∃ v, K v H ∧ ∀ H', (isLd o.op = false ∨ H' = H) → Yl (vopD P o σ H') v H' := by
  by_cases hb : ∃ t len ps, o.op = .buildSlice t len ps
  · obtain ⟨t, len, ps, hop⟩ := hb
    have hG : ∀ H K, vopD P o σ H K = (elemT P t fun e => bytesOk P e = true ∧ match inOrder 0 ps.toList with
      | some xs => Nat.beq len xs.length = true ∧ Nat.ble (len * szOf P e) 100000 = true ∧ allCells (szOf P e) (xs.map (ev σ)) fun cs => K (.sl true (xs.map (ev σ)).length cs) H
      | none => False) := by intro H K; simp only [vopD, hop]
    have hF : Fn (fun K : AVal → Prop => elemT P t fun e => bytesOk P e = true ∧ match inOrder 0 ps.toList with
      | some xs => Nat.beq len xs.length = true ∧ Nat.ble (len * szOf P e) 100000 = true ∧ allCells (szOf P e) (xs.map (ev σ)) fun cs => K (.sl true (xs.map (ev σ)).length cs)
      | none => False) := by
      unfold elemT
      split
      · refine fn_and ?_
        split
        · exact fn_and (fn_and (fn_allCells _ _ fun cs => fn_k _))
        · exact fn_false
      · exact fn_false
    obtain ⟨v, hv, hr⟩ := yl_of_fn hF hG h
    exact ⟨v, hv, fun H' _ => hr H'⟩
  · have hn : ∀ t len ps, o.op ≠ .buildSlice t len ps := fun t len ps e => hb ⟨t, len, ps, e⟩
    rw [vopD_eq hn] at h ⊢
    rw [isYD_eq hn] at hy
    exact vop_yld hy h

/-! ### One operation with its guard -/
def stepA (P : Program) (ops : Array Oper) (o : Oper) (σ : Slots) (H : Heap) (K : AVal → Heap → Prop) : Prop :=
  match o.guard with
  | none => vopD P o σ H K
  | some (j, want) => match gval ops σ j with
    | some b => bif (b == some want) then vopD P o σ H K else K (.tup []) H
    | none => False
def putA (N : Nat) (g : Bool) (d : Option Nat) (v : AVal) (σ : Slots) (K : Slots → Prop) : Prop :=
  bif g then SPL v (PUT N σ d (.bool true) K) (PUT N σ d (.bool false) K) else PUT N σ d v K

def grdTmp (ops : Array Oper) (o : Oper) : Option Nat := o.guard.bind fun g => (ops.toList[g.1]?).bind (·.dst)
/-- The slots that it looks at. -/
def looks (ops : Array Oper) (o : Oper) (t : Nat) : Bool := (opnds o.op).any (fun x => match x with | .tmp u => Nat.beq u t | _ => false) || (match grdTmp ops o with | some u => Nat.beq u t | none => false)
theorem looks_op {ops : Array Oper} {o : Oper} {t : Nat} (h : .tmp t ∈ opnds o.op) : looks ops o t = true := by
  simp only [looks, Bool.or_eq_true, List.any_eq_true]
  exact .inl ⟨_, h, by simp⟩
theorem gval_congr {ops : Array Oper} {o : Oper} {σ σ' : Slots} (h : ∀ t, looks ops o t = true → σ t = σ' t) {j : Nat} {b : Bool} (hg : o.guard = some (j, b)) : gval ops σ j = gval ops σ' j := by
  unfold gval
  split
  · rename_i d hd
    have : σ d = σ' d := h d (by
      simp only [looks, grdTmp, hg, Option.bind_some, hd, Bool.or_eq_true]
      exact .inr (by simp))
    rw [this]
  · rfl
theorem stepA_congr {ops : Array Oper} {o : Oper} {σ σ' : Slots} (h : ∀ t, looks ops o t = true → σ t = σ' t) : stepA P ops o σ = stepA P ops o σ' := by
  have hv : vopD P o σ = vopD P o σ' := vopD_congr fun t ht => h t (looks_op ht)
  funext H K
  unfold stepA
  rw [hv]
  split
  · rfl
  · rename_i j b hg
    rw [gval_congr h hg]
theorem stepA_yld {ops : Array Oper} {o : Oper} {σ : Slots} {H : Heap} {K : AVal → Heap → Prop} (hy : isYD o.op = true) (h : stepA P ops o σ H K) :
    ∃ v, K v H ∧ ∀ H', (isLd o.op = false ∨ H' = H) → Yl (stepA P ops o σ H') v H' := by
  unfold stepA at h ⊢
  split at h
  · exact vopD_yld hy h
  · split at h
    · rename_i b hb
      cases hw : (b == some _) with
      | true =>
        rw [hw] at h
        obtain ⟨v, hv, hr⟩ := vopD_yld hy h
        exact ⟨v, hv, fun H' hc K' hk => by simp only [cond_true]; exact hr H' hc K' hk⟩
      | false =>
        rw [hw] at h
        exact ⟨.tup [], h, fun H' _ K' hk => by simp only [cond_false]; exact hk⟩
    · exact h.elim

/-- The one outcome of putting a value. -/
def okPut (N : Nat) (d : Option Nat) : Bool := match d with | none => true | some d => Nat.blt d N
def updo (σ : Slots) (d : Option Nat) (v : AVal) : Slots := match d with | none => σ | some d => upd σ d v
theorem PUT_iff {N : Nat} {σ : Slots} {d : Option Nat} {v : AVal} {K : Slots → Prop} : PUT N σ d v K ↔ okPut N d = true ∧ K (updo σ d v) := by
  cases d with
  | none => simp [PUT, okPut, updo]
  | some d =>
    simp only [PUT, okPut, updo]
    cases Nat.blt d N <;> simp
theorem putA_iff {N : Nat} {g : Bool} {σ : Slots} {d : Option Nat} {v : AVal} {K : Slots → Prop} : putA N g d v σ K ↔ okPut N d = true ∧ K (updo σ d v) ∧ (g = true → ∃ b, v = .bool b) := by
  unfold putA
  cases g with
  | false => simp [PUT_iff]
  | true =>
    simp only [cond_true, SPL]
    cases v <;> simp [PUT_iff]
    rename_i b
    cases b <;> simp [PUT_iff]

theorem updo_comm {σ : Slots} {d e : Option Nat} {v u : AVal} (h : ∀ x, d = some x → e ≠ some x) : updo (updo σ d v) e u = updo (updo σ e u) d v := by
  cases d with
  | none => rfl
  | some d =>
    cases e with
    | none => rfl
    | some e =>
      have hne : e ≠ d := fun he => h d rfl (by rw [he])
      funext j
      simp only [updo, upd]
      cases h1 : Nat.beq j e with
      | false => cases h2 : Nat.beq j d <;> rfl
      | true =>
        cases h2 : Nat.beq j d with
        | false => rfl
        | true => exact absurd ((Nat.eq_of_beq_eq_true h1).symm.trans (Nat.eq_of_beq_eq_true h2)) hne
theorem updo_looks {ops : Array Oper} {o : Oper} {σ : Slots} {d : Option Nat} {v : AVal} (h : ∀ x, d = some x → looks ops o x = false) : ∀ t, looks ops o t = true → (updo σ d v) t = σ t := by
  intro t ht
  cases d with
  | none => rfl
  | some d =>
    simp only [updo, upd]
    cases hb : Nat.beq t d with
    | false => rfl
    | true =>
      have := Nat.eq_of_beq_eq_true hb
      subst this
      rw [h t rfl] at ht; cases ht

/-! ### The order -/
def binds (e : Edge) : Bool := Region.binds .any e
def waitsFor (ops : Array Oper) (j i : Nat) : Bool := match ops.toList[j]? with | some o => o.after.toList.any fun e => binds e && Nat.beq e.on i | none => false
def reaches (ops : Array Oper) (i : Nat) : Nat → Nat → Bool
  | 0, _ => false
  | n + 1, j => match ops.toList[j]? with | some o => o.after.toList.any fun e => binds e && (Nat.beq e.on i || reaches ops i n e.on) | none => false
def dstIs (o : Oper) (t : Nat) : Bool := match o.dst with | some d => Nat.beq d t | none => false
/-- One writes what the other looks at or writes. -/
def clash1 (ops : Array Oper) (x y : Oper) : Bool := match x.dst with | some d => looks ops y d || dstIs y d | none => false
def clash (ops : Array Oper) (i j : Nat) : Bool := match ops.toList[i]?, ops.toList[j]? with
  | some x, some y => clash1 ops x y || clash1 ops y x
  | _, _ => true
def isYAt (ops : Array Oper) (i : Nat) : Bool := match ops.toList[i]? with | some o => isYD o.op | none => false
def okOrd (ops : Array Oper) : List Nat → Bool
  | [] => true
  | i :: rest => Nat.blt i ops.toList.length && !(rest.any (Nat.beq i)) &&
      (match ops.toList[i]? with | some o => o.after.toList.all fun e => !binds e || (Nat.blt e.on ops.toList.length && !((i :: rest).any (Nat.beq e.on))) | none => false) &&
      rest.all (fun j => !clash ops i j || waitsFor ops j i) && (isYAt ops i || rest.all (fun j => reaches ops i ops.toList.length j)) && okOrd ops rest

abbrev Pend := List (Nat × (Heap → Prop))
def PND : Pend → Heap → Prop → Prop
  | [], _, G => G
  | p :: ps, H, G => p.2 H ∧ PND ps H G
theorem PND_iff {ps : Pend} {H : Heap} {G : Prop} : PND ps H G ↔ (∀ p ∈ ps, p.2 H) ∧ G := by
  induction ps with
  | nil => simp [PND]
  | cons p ps ih => simp [PND, ih, and_assoc]

def vcD (P : Program) (N : Nat) (ops : Array Oper) (gs : List Nat) : List Nat → Pend → Slots → Heap → (Slots → Heap → Prop) → Prop
  | [], _, σ, H, K => K σ H
  | i :: rest, pd, σ, H, K => match ops.toList[i]? with
    | none => False
    | some o => bif isYD o.op then stepA P ops o σ H fun v _ => putA N (gs.any (Nat.beq i)) o.dst v σ fun σ' =>
          vcD P N ops gs rest (bif isLd o.op then (i, fun H' => stepA P ops o σ H' fun v' _ => v' = v) :: pd else pd) σ' H K
        else stepA P ops o σ H fun v H' => PND (pd.filter fun p => !waitsFor ops i p.1) H' (putA N (gs.any (Nat.beq i)) o.dst v σ fun σ' =>
          vcD P N ops gs rest (pd.filter fun p => !waitsFor ops i p.1) σ' H' K)

section
variable {N : Nat} {ops : Array Oper} {gs : List Nat} {K : Slots → Heap → Prop}


theorem stepA_mono {o : Oper} {σ : Slots} {H : Heap} {F F' : AVal → Heap → Prop} (hk : ∀ v H', F v H' → F' v H') (h : stepA P ops o σ H F) : stepA P ops o σ H F' := by
  unfold stepA at h ⊢
  split at h
  · exact vopD_mono hk h
  · rename_i j want hg
    split at h
    · rename_i b hb
      cases hw : (b == some want) with
      | true => rw [hw] at h; exact vopD_mono hk h
      | false => rw [hw] at h; exact hk _ _ h
    · exact h.elim
theorem putA_mono {g : Bool} {d : Option Nat} {v : AVal} {σ : Slots} {F F' : Slots → Prop} (hk : ∀ σ', F σ' → F' σ') (h : putA N g d v σ F) : putA N g d v σ F' := by
  rw [putA_iff] at h ⊢
  exact ⟨h.1, hk _ h.2.1, h.2.2⟩
theorem vcD_pend : ∀ (l : List Nat) (pd pd' : Pend) (σ : Slots) (H : Heap), (∀ p ∈ pd', p ∈ pd) → vcD P N ops gs l pd σ H K → vcD P N ops gs l pd' σ H K
  | [], pd, pd', σ, H, hs, h => h
  | i :: rest, pd, pd', σ, H, hs, h => by
    simp only [vcD] at h ⊢
    split at h
    · exact h.elim
    · rename_i o ho
      cases hy : isYD o.op with
      | true =>
        simp only [hy, cond_true] at h ⊢
        refine stepA_mono (fun v _ h => putA_mono (fun σ' h => ?_) h) h
        refine vcD_pend rest _ _ σ' H ?_ h
        cases isLd o.op with
        | false => exact hs
        | true =>
          intro p hp
          simp only [cond_true, List.mem_cons] at hp ⊢
          exact hp.imp id (hs p)
      | false =>
        simp only [hy, cond_false] at h ⊢
        refine stepA_mono (fun v H' h => ?_) h
        rw [PND_iff] at h ⊢
        have hs' : ∀ p ∈ pd'.filter (fun p => !waitsFor ops i p.1), p ∈ pd.filter (fun p => !waitsFor ops i p.1) := fun p hp => by
          rw [List.mem_filter] at hp ⊢
          exact ⟨hs p hp.1, hp.2⟩
        exact ⟨fun p hp => h.1 p (hs' p hp), putA_mono (fun σ' h => vcD_pend rest _ _ σ' H' hs' h) h.2⟩

theorem okOrd_cons {i : Nat} {rest : List Nat} (h : okOrd ops (i :: rest) = true) :
    i < ops.toList.length ∧ i ∉ rest ∧ (∀ k, waitsFor ops i k = true → k < ops.toList.length ∧ k ∉ i :: rest) ∧
      (∀ j ∈ rest, clash ops i j = true → waitsFor ops j i = true) ∧ (isYAt ops i = false → ∀ j ∈ rest, reaches ops i ops.toList.length j = true) ∧ okOrd ops rest = true := by
  simp only [okOrd, Bool.and_eq_true, Bool.not_eq_true', List.all_eq_true, Bool.or_eq_true] at h
  obtain ⟨⟨⟨⟨⟨h1, h2⟩, h3⟩, h4⟩, h5⟩, h6⟩ := h
  refine ⟨blt_f h1, ?_, ?_, ?_, ?_, h6⟩
  · intro hm
    have : rest.any (Nat.beq i) = true := List.any_eq_true.2 ⟨i, hm, by simp⟩
    rw [this] at h2; cases h2
  · intro k hk
    unfold waitsFor at hk
    split at h3
    · rename_i o ho
      simp only [ho, List.any_eq_true, Bool.and_eq_true] at hk
      obtain ⟨e, he, hb, hek⟩ := hk
      have := Nat.eq_of_beq_eq_true hek
      subst this
      have h' := List.all_eq_true.1 h3 e he
      simp only [hb, Bool.not_true, Bool.false_or, Bool.and_eq_true, Bool.not_eq_true'] at h'
      refine ⟨blt_f h'.1, fun hm => ?_⟩
      have : (i :: rest).any (Nat.beq e.on) = true := List.any_eq_true.2 ⟨e.on, hm, by simp⟩
      rw [this] at h'; cases h'.2
    · cases h3
  · intro j hj hc
    rcases h4 j hj with h' | h'
    · rw [hc] at h'; cases h'
    · exact h'
  · intro hy j hj
    rcases h5 with h' | h'
    · rw [hy] at h'; cases h'
    · exact h' j hj

theorem clash_false {i j : Nat} {x y : Oper} (hx : ops.toList[i]? = some x) (hy : ops.toList[j]? = some y) (h : clash ops i j = false) :
    (∀ d, x.dst = some d → looks ops y d = false) ∧ (∀ d, x.dst = some d → y.dst ≠ some d) ∧ (∀ d, y.dst = some d → looks ops x d = false) := by
  simp only [clash, hx, hy, Bool.or_eq_false_iff] at h
  obtain ⟨h1, h2⟩ := h
  refine ⟨fun d hd => ?_, fun d hd hd' => ?_, fun d hd => ?_⟩
  · simp only [clash1, hd, Bool.or_eq_false_iff] at h1; exact h1.1
  · simp only [clash1, hd, Bool.or_eq_false_iff, dstIs, hd'] at h1
    have := h1.2
    simp at this
  · simp only [clash1, hd, Bool.or_eq_false_iff] at h2; exact h2.1

theorem comm {j : Nat} {oj : Oper} (hj : ops.toList[j]? = some oj) : ∀ (l : List Nat) (pd : Pend) (σ : Slots) (H : Heap), okOrd ops l = true → j ∈ l → (∀ i ∈ l, waitsFor ops j i = false) →
    (∀ i ∈ l, reaches ops i ops.toList.length j = false) → (∀ p ∈ pd, waitsFor ops j p.1 = false) → (∀ p ∈ pd, p.2 H) → vcD P N ops gs l pd σ H K →
    stepA P ops oj σ H fun v H' => putA N (gs.any (Nat.beq j)) oj.dst v σ fun σ' => (∀ p ∈ pd, p.2 H') ∧ vcD P N ops gs (l.erase j) pd σ' H' K
  | [], pd, σ, H, hl, hm, hw, hr, hpw, hp, h => by cases hm
  | i :: rest, pd, σ, H, hl, hm, hw, hr, hpw, hp, h => by
    obtain ⟨hi, hn, ha, hc, hx, hl'⟩ := okOrd_cons hl
    simp only [vcD] at h
    by_cases hij : i = j
    · subst hij
      rw [hj] at h
      simp only at h
      rw [List.erase_cons_head]
      cases hy : isYD oj.op with
      | true =>
        simp only [hy, cond_true] at h
        obtain ⟨v, hv, hrep⟩ := stepA_yld hy h
        refine hrep H (.inr rfl) _ (putA_mono (fun σ' h => ⟨hp, vcD_pend rest _ _ σ' H ?_ h⟩) hv)
        cases isLd oj.op with
        | false => exact fun p h => h
        | true => exact fun p h => by simp only [cond_true, List.mem_cons]; exact .inr h
      | false =>
        simp only [hy, cond_false] at h
        have hf : pd.filter (fun p => !waitsFor ops i p.1) = pd := List.filter_eq_self.2 fun p hp' => by simp [hpw p hp']
        rw [hf] at h
        refine stepA_mono (fun v H' h => ?_) h
        rw [PND_iff] at h
        exact putA_mono (fun σ' h' => ⟨h.1, h'⟩) h.2
    · have hm' : j ∈ rest := by
        rcases List.mem_cons.1 hm with e | e
        · exact absurd e.symm hij
        · exact e
      split at h
      · exact h.elim
      · rename_i oi hoi
        have hyi : isYD oi.op = true := by
          cases hy : isYAt ops i with
          | true => simpa only [isYAt, hoi] using hy
          | false =>
            have := hx hy j hm'
            rw [hr i (List.mem_cons_self)] at this; cases this
        have hcl : clash ops i j = false := by
          cases hb : clash ops i j with
          | false => rfl
          | true => have := hc j hm' hb; rw [hw i (List.mem_cons_self)] at this; cases this
        obtain ⟨c1, c2, c3⟩ := clash_false hoi hj hcl
        simp only [hyi, cond_true] at h
        obtain ⟨v, hv, hrep⟩ := stepA_yld hyi h
        rw [putA_iff] at hv
        obtain ⟨hok, hv, hgb⟩ := hv
        have ih := comm hj rest _ (updo σ oi.dst v) H hl' hm' (fun k hk => hw k (List.mem_cons_of_mem _ hk)) (fun k hk => hr k (List.mem_cons_of_mem _ hk)) (by
          cases isLd oi.op with
          | false => exact hpw
          | true =>
            intro p hp'
            simp only [cond_true, List.mem_cons] at hp'
            rcases hp' with rfl | hp'
            · exact hw i (List.mem_cons_self)
            · exact hpw p hp') (by
          cases isLd oi.op with
          | false => exact hp
          | true =>
            intro p hp'
            simp only [cond_true, List.mem_cons] at hp'
            rcases hp' with rfl | hp'
            · exact hrep H (.inr rfl) (fun v' _ => v' = v) rfl
            · exact hp p hp') hv
        rw [stepA_congr (updo_looks c1)] at ih
        refine stepA_mono (fun vj H' h' => ?_) ih
        rw [putA_iff] at h' ⊢
        obtain ⟨hok', ⟨hpp, h'⟩, hgb'⟩ := h'
        have hpd : ∀ p ∈ pd, p.2 H' := fun p hp' => hpp p (by
          cases isLd oi.op with
          | false => exact hp'
          | true => simp only [cond_true, List.mem_cons]; exact .inr hp')
        refine ⟨hok', ⟨hpd, ?_⟩, hgb'⟩
        rw [List.erase_cons_tail (by simpa using hij)]
        simp only [vcD, hoi, hyi, cond_true]
        rw [stepA_congr (updo_looks (v := vj) (σ := σ) c3)]
        have hyl : Yl (stepA P ops oi σ H') v H' := by
          cases hld : isLd oi.op with
          | false => exact hrep H' (.inl hld)
          | true =>
            have : stepA P ops oi σ H' fun v' _ => v' = v := hpp _ (by rw [hld]; exact List.mem_cons_self)
            obtain ⟨v0, rfl, hr0⟩ := stepA_yld hyi this
            exact hr0 H' (.inr rfl)
        refine hyl _ ?_
        rw [putA_iff]
        refine ⟨hok, ?_, hgb⟩
        rw [updo_comm (fun x hx' => fun e => c2 x e hx')]
        exact h'

theorem okOrd_nodup : ∀ {l : List Nat}, okOrd ops l = true → l.Nodup
  | [], _ => List.nodup_nil
  | i :: rest, h => by
    obtain ⟨_, hn, _, _, _, hl⟩ := okOrd_cons h
    exact List.nodup_cons.2 ⟨hn, okOrd_nodup hl⟩
theorem okOrd_erase (j : Nat) : ∀ {l : List Nat}, okOrd ops l = true → okOrd ops (l.erase j) = true
  | [], h => h
  | i :: rest, h => by
    by_cases hij : i = j
    · subst hij
      rw [List.erase_cons_head]
      exact (okOrd_cons h).2.2.2.2.2
    · rw [List.erase_cons_tail (by simpa using hij)]
      simp only [okOrd, Bool.and_eq_true, Bool.not_eq_true', List.all_eq_true, Bool.or_eq_true] at h ⊢
      obtain ⟨⟨⟨⟨⟨h1, h2⟩, h3⟩, h4⟩, h5⟩, h6⟩ := h
      have sub : ∀ x, x ∈ rest.erase j → x ∈ rest := fun x hx => List.mem_of_mem_erase hx
      have anyF : ∀ (p : Nat → Bool) (l l' : List Nat), (∀ x ∈ l', x ∈ l) → l.any p = false → l'.any p = false := by
        intro p l l' hs hl
        cases hb : l'.any p with
        | false => rfl
        | true =>
          obtain ⟨x, hx, hp⟩ := List.any_eq_true.1 hb
          rw [List.any_eq_true.2 ⟨x, hs x hx, hp⟩] at hl; cases hl
      refine ⟨⟨⟨⟨⟨h1, anyF _ _ _ sub h2⟩, ?_⟩, fun x hx => h4 x (sub x hx)⟩, h5.imp id fun h x hx => h x (sub x hx)⟩, okOrd_erase j h6⟩
      split
      · rename_i o ho
        rw [ho] at h3
        simp only at h3
        rw [List.all_eq_true] at h3 ⊢
        intro e he
        have := h3 e he
        simp only [Bool.or_eq_true, Bool.not_eq_true', Bool.and_eq_true] at this ⊢
        refine this.imp id fun h => ⟨h.1, anyF _ _ _ ?_ h.2⟩
        intro x hx
        rcases List.mem_cons.1 hx with rfl | hx
        · exact List.mem_cons_self
        · exact List.mem_cons_of_mem _ (sub x hx)
      · rename_i ho
        rw [ho] at h3; cases h3

theorem ready_iff {listed : Array Bool} {j : Nat} : j ∈ Region.ready .any ops listed ↔ j < ops.size ∧ listed.getD j true = false ∧ ∀ k, waitsFor ops j k = true → listed.getD k false = true := by
  simp only [Region.ready, List.mem_filter, List.mem_range, Bool.and_eq_true, Bool.not_eq_true']
  refine and_congr_right fun hj => and_congr_right fun hl => ?_
  have ho : ops[j]? = some ops[j] := Array.getElem?_eq_getElem hj
  have ho' : ops.toList[j]? = some ops[j] := by rw [Array.getElem?_toList]; exact ho
  simp only [ho, Option.map_some, Option.getD_some, waitsFor, ho']
  rw [← Array.all_toList, List.all_eq_true]
  constructor
  · intro h k hk
    rw [List.any_eq_true] at hk
    obtain ⟨e, he, hb⟩ := hk
    rw [Bool.and_eq_true] at hb
    have := Nat.eq_of_beq_eq_true hb.2
    subst this
    have h' := h e he
    have hb1 : Region.binds .any e = true := hb.1
    simpa [hb1] using h'
  · intro h e he
    cases hb : Region.binds .any e with
    | false => rfl
    | true =>
      simp only [Bool.not_true, Bool.false_or]
      exact h e.on (List.any_eq_true.2 ⟨e, he, by simp [binds, hb]⟩)

theorem reach_listed {listed : Array Bool} (hcl : ∀ r, listed.getD r false = true → ∀ k, waitsFor ops r k = true → listed.getD k false = true) {i : Nat} :
    ∀ (n r : Nat), (∀ k, waitsFor ops r k = true → listed.getD k false = true) → reaches ops i n r = true → listed.getD i false = true
  | 0, r, hr, h => by cases h
  | n + 1, r, hr, h => by
    simp only [reaches] at h
    split at h
    · rename_i o ho
      obtain ⟨e, he, hb⟩ := List.any_eq_true.1 h
      rw [Bool.and_eq_true] at hb
      have hw : waitsFor ops r e.on = true := by
        simp only [waitsFor, ho]
        exact List.any_eq_true.2 ⟨e, he, by simp [hb.1]⟩
      have hl := hr e.on hw
      rcases Bool.or_eq_true _ _ |>.mp hb.2 with h' | h'
      · have := Nat.eq_of_beq_eq_true h'
        rw [← this]; exact hl
      · exact reach_listed hcl n e.on (hcl e.on hl) h'
    · cases h

theorem getD_set (listed : Array Bool) (j i : Nat) (d : Bool) (hj : j < listed.size) : (listed.setIfInBounds j true).getD i d = if i = j then true else listed.getD i d := by
  simp only [Array.getD_eq_getD_getElem?, Array.getElem?_setIfInBounds]
  by_cases h : j = i
  · subst h; simp [hj]
  · rw [if_neg h, if_neg (fun e => h e.symm)]

theorem vcD_sound {Qc : Exit → Act → World → Prop} {B : Nat} {w0 : World} {I0 : Nat → Prop}
    (post : ∀ σ' H' w' I' a', K σ' H' → HRel w' I' B H' → FRel N w' I' σ' a' → Ext B w0 I0 w' I' → Qc .normal a' w') :
    ∀ (n : Nat) (l : List Nat) (listed : Array Bool) (σ : Slots) (H : Heap) (w : World) (I : Nat → Prop) (a : Act), l.length = n → listed.size = ops.size →
      (∀ i, listed.getD i true = false ↔ i ∈ l) → (∀ r, listed.getD r false = true → ∀ k, waitsFor ops r k = true → listed.getD k false = true) → okOrd ops l = true →
      vcD P N ops gs l [] σ H K → HRel w I B H → FRel N w I σ a → Ext B w0 I0 w I → wpAny P .any ops Qc n listed a w
  | 0, l, listed, σ, H, w, I, a, hn, hs, hm, hcl, hok, h, hH, hF, he => by
    have : l = [] := List.eq_nil_of_length_eq_zero hn
    subst this
    refine ⟨?_, post σ H w I a h hH hF he⟩
    rw [List.eq_nil_iff_forall_not_mem]
    intro j hj
    have := (ready_iff.1 hj).2.1
    exact absurd ((hm j).1 this) (by simp)
  | n + 1, l, listed, σ, H, w, I, a, hn, hs, hm, hcl, hok, h, hH, hF, he => by
    have inL : ∀ k, k < ops.size → k ∉ l → listed.getD k false = true := by
      intro k hk hkl
      have : listed.getD k true ≠ false := fun e => hkl ((hm k).1 e)
      have hk' : k < listed.size := by omega
      simp only [Array.getD_eq_getD_getElem?, Array.getElem?_eq_getElem hk'] at this ⊢
      simpa using this
    have notL : ∀ k, k ∈ l → listed.getD k false = false := by
      intro k hk
      have := (hm k).2 hk
      simp only [Array.getD_eq_getD_getElem?] at this ⊢
      cases hg : listed[k]? with
      | none => rfl
      | some b => rw [hg] at this; simpa using this
    have hsz : ops.toList.length = ops.size := by simp
    refine ⟨fun hr => ?_, fun j hj => ?_⟩
    · cases l with
      | nil => cases hn
      | cons i rest =>
        obtain ⟨hi, hn', ha, _⟩ := okOrd_cons hok
        have : i ∈ Region.ready .any ops listed := ready_iff.2 ⟨by omega, (hm i).2 List.mem_cons_self, fun k hk => inL k (by have := (ha k hk).1; omega) (ha k hk).2⟩
        rw [hr] at this; cases this
    · obtain ⟨hj1, hj2, hj3⟩ := ready_iff.1 hj
      have hjl : j ∈ l := (hm j).1 hj2
      have hoj : ops[j]? = some ops[j] := Array.getElem?_eq_getElem hj1
      have hoj' : ops.toList[j]? = some ops[j] := by rw [Array.getElem?_toList]; exact hoj
      have hst := comm (gs := gs) (K := K) hoj' l [] σ H hok hjl (fun i hi => by
          cases hb : waitsFor ops j i with
          | false => rfl
          | true => have := hj3 i hb; rw [notL i hi] at this; cases this) (fun i hi => by
          cases hb : reaches ops i ops.toList.length j with
          | false => rfl
          | true => have := reach_listed hcl _ j hj3 hb; rw [notL i hi] at this; cases this) (by simp) (by simp) h
      have next : ∀ (v : AVal) (H' : Heap) (w' : World) (I' : Nat → Prop) (u : Value), putA N (gs.any (Nat.beq j)) ops[j].dst v σ (fun σ' => (∀ p ∈ ([] : Pend), p.2 H') ∧ vcD P N ops gs (l.erase j) [] σ' H' K) →
          HRel w' I' B H' → VRel w' I' v u → Ext B w I w' I' → wpAny P .any ops Qc n (listed.setIfInBounds j true) (a.put ops[j].dst u) w' := by
        intro v H' w' I' u hp hH' hv he'
        rw [putA_iff] at hp
        have hp2 : PUT N σ ops[j].dst v (fun σ' => vcD P N ops gs (l.erase j) [] σ' H' K) := PUT_iff.2 ⟨hp.1, hp.2.1.2⟩
        obtain ⟨σ', hk', hF'⟩ := PUT_sound hp2 (hF.mono he') hv
        refine vcD_sound post n (l.erase j) _ σ' H' w' I' _ ?_ (by simpa using hs) ?_ ?_ (okOrd_erase j hok) hk' hH' hF' (he.trans he')
        · rw [List.length_erase_of_mem hjl]; omega
        · intro i
          rw [getD_set _ _ _ _ (by omega), (okOrd_nodup hok).mem_erase_iff]
          by_cases hij : i = j
          · simp [hij]
          · rw [if_neg hij]; exact ⟨fun h => ⟨hij, (hm i).1 h⟩, fun h => (hm i).2 h.2⟩
        · intro r hr k hk
          rw [getD_set _ _ _ _ (by omega)] at hr ⊢
          by_cases hkj : k = j
          · rw [if_pos hkj]
          · rw [if_neg hkj]
            by_cases hrj : r = j
            · subst hrj; exact hj3 k hk
            · rw [if_neg hrj] at hr; exact hcl r hr k hk
      simp only [wpOp, hoj]
      unfold stepA at hst
      split at hst
      · rename_i hgd
        rw [if_pos (by simp [Region.wanted, hgd])]
        exact .inl (vop_sound hH (vop_of_D hst) hF fun v H' w' I' u hk hH' hv he' => next v H' w' I' u hk hH' hv he')
      · rename_i g want hgd
        split at hst
        · rename_i b hb
          have hy := gval_sound hF hb
          cases hbw : (b == some want) with
          | true =>
            rw [hbw] at hst
            have : b = some want := by simpa using hbw
            subst this
            simp only [cond_true] at hst
            rw [if_pos (by simp [Region.wanted, hgd, hy])]
            exact .inl (vop_sound hH (vop_of_D hst) hF fun v H' w' I' u hk hH' hv he' => next v H' w' I' u hk hH' hv he')
          | false =>
            rw [hbw] at hst
            have : b ≠ some want := by simpa using hbw
            rw [if_neg (by simp [Region.wanted, hgd, hy, this])]
            exact next (.tup []) H w I undef hst hH (undef_rel w I) (Ext.refl _ _ _)
        · exact hst.elim

/-- Reads, then what waits for all before it: the order in which the region is looked at. -/
def readyL (ops : Array Oper) (done : List Nat) (i : Nat) : Bool := match ops.toList[i]? with
  | some o => o.after.toList.all fun e => !binds e || done.any (Nat.beq e.on)
  | none => false
def greedy (ops : Array Oper) : Nat → List Nat → List Nat → List Nat
  | 0, _, _ => []
  | n + 1, done, left => match left.find? (fun i => isYAt ops i && readyL ops done i) with
    | some i => i :: greedy ops n (i :: done) (left.erase i)
    | none => match left.find? (readyL ops done) with
      | some i => i :: greedy ops n (i :: done) (left.erase i)
      | none => []
def orderOf (ops : Array Oper) : List Nat := greedy ops ops.toList.length [] (List.range ops.toList.length)
def okDraw (ops : Array Oper) (gs : List Nat) : Bool :=
  let l := orderOf ops
  okOrd ops l && Nat.beq l.length ops.toList.length && (List.range ops.toList.length).all (fun i => l.any (Nat.beq i))

theorem wp_region_drawn {Qc : Exit → Act → World → Prop} {B : Nat} {id : Nat} {σ : Slots} {H : Heap} {w : World} {I : Nat → Prop} {a : Act} (hmix : P.follows .mixedOrders = true) (hok : okDraw ops (guardsOf ops) = true)
    (post : ∀ σ' H' w' I' a', K σ' H' → HRel w' I' B H' → FRel N w' I' σ' a' → Ext B w I w' I' → Qc .normal a' w')
    (h : vcD P N ops (guardsOf ops) (orderOf ops) [] σ H K) (hH : HRel w I B H) (hF : FRel N w I σ a) : (Code.region id ops true).wp P Qc a w := by
  refine wp_region_any hmix ?_
  simp only [okDraw, Bool.and_eq_true] at hok
  obtain ⟨⟨h1, h2⟩, h3⟩ := hok
  have hlen := Nat.eq_of_beq_eq_true h2
  rw [List.all_eq_true] at h3
  have hsz : ops.toList.length = ops.size := by simp
  have hmem : ∀ i, i < ops.size → i ∈ orderOf ops := by
    intro i hi
    have := h3 i (List.mem_range.2 (by omega))
    obtain ⟨x, hx, hb⟩ := List.any_eq_true.1 this
    have := Nat.eq_of_beq_eq_true hb
    subst this; exact hx
  have hlt : ∀ (l : List Nat), okOrd ops l = true → ∀ i ∈ l, i < ops.size := by
    intro l
    induction l with
    | nil => intro _ i hi; cases hi
    | cons x xs ih =>
      intro hl i hi
      obtain ⟨hx, _, _, _, _, hl'⟩ := okOrd_cons hl
      rcases List.mem_cons.1 hi with rfl | hi
      · omega
      · exact ih hl' i hi
  have hdr : ∀ (w : World), HRel w I B H → HRel { w with drawn := w.drawn + 1 } I B H ∧ Ext B w I { w with drawn := w.drawn + 1 } I := by
    intro w hH
    have he : Ext B w I { w with drawn := w.drawn + 1 } I := ⟨⟨rfl, rfl, rfl, Nat.le_refl _, fun _ _ => rfl⟩, fun g h => h, fun _ _ => rfl, fun g cur T fr h => ⟨cur, fr, h, rfl⟩⟩
    refine ⟨⟨hH.base, hH.imm, fun i g cs h => ?_, hH.inj⟩, he⟩
    have hb := hH.blk i g cs h
    obtain ⟨cur, T, us, rest, h1, h2, h3⟩ := hb.cells
    exact ⟨hb.ge, hb.out, cur, T, us, rest, h1, h2, CRels.mono he h3⟩
  obtain ⟨hH', he'⟩ := hdr w hH
  refine vcD_sound (w0 := w) (I0 := I) post ops.size (orderOf ops) _ σ H _ I a (by omega) (by simp) ?_ ?_ h1 h hH' (hF.mono he') he'
  · intro i
    simp only [Array.getD_eq_getD_getElem?, Array.getElem?_replicate]
    by_cases hi : i < ops.size
    · simp [hi, hmem i hi]
    · simp [hi]
      exact fun hm => hi (hlt _ h1 i hm)
  · intro r hr
    simp only [Array.getD_eq_getD_getElem?, Array.getElem?_replicate] at hr
    split at hr <;> cases hr

end
end
end Go.Proofs.Ytccioplhchmilaa.AL
