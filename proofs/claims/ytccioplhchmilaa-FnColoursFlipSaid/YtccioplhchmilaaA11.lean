/-
  An abstract program logic over the kit's model, part 11: what an operation looks at, and operations that only yield a value.
-/
import Derived.Test.YtccioplhchmilaaA10
set_option linter.unusedVariables false
set_option linter.unusedSimpArgs false
namespace Go.Proofs.Ytccioplhchmilaa.AL
open Go Go.RowKit

section
variable {P : Program}

def opnds : Op → List Operand
  | .move x => [x]
  | .assign x => [x]
  | .pick c a b => [c, a, b]
  | .alloc _ => []
  | .box _ x => [x]
  | .buildSlice _ _ ps => ps.toList.map (·.2)
  | .build _ ps => ps.toList.map (·.2)
  | .load _ a => [a]
  | .store _ a x => [a, x]
  | .nilCheck x => [x]
  | .binOp _ _ x y _ => [x, y]
  | .unOp _ _ x => [x]
  | .convert _ _ x => [x]
  | .makeInterface _ x => [x]
  | .makeFunc _ first caps => first.toList ++ caps.toList
  | .makeSlice _ l c => [l, c]
  | .slice _ x lo hi mx => x :: (lo.toList ++ hi.toList ++ mx.toList)
  | .fieldAddr _ x _ => [x]
  | .field _ x _ => [x]
  | .indexAddr _ x i => [x, i]
  | .index _ x i => [x, i]
  | .extract t _ => [t]
  | .call c => (match c.callee with | .value f => [f] | _ => []) ++ c.args.toList
  | _ => []
def opTmps (o : Oper) : List Nat := (opnds o.op).filterMap fun | .tmp t => some t | _ => none

theorem ev_congr {σ σ' : Slots} {l : List Operand} (h : ∀ t, .tmp t ∈ l → σ t = σ' t) {x : Operand} (hx : x ∈ l) : ev σ x = ev σ' x := by
  cases x with
  | tmp t => exact h t hx
  | _ => rfl
theorem map_congr {σ σ' : Slots} {l : List Operand} (h : ∀ x ∈ l, ev σ x = ev σ' x) : l.map (ev σ) = l.map (ev σ') := List.map_congr_left h
theorem fieldsOf_congr {σ σ' : Slots} (fs : List Field) : ∀ (ps : List (Nat × Operand)), (∀ x ∈ ps.map (·.2), ev σ x = ev σ' x) → fieldsOf fs P σ ps = fieldsOf fs P σ' ps
  | [], _ => rfl
  | (i, x) :: ps, h => by
    simp only [fieldsOf]
    rw [fieldsOf_congr fs ps (fun y hy => h y (by simp only [List.map_cons, List.mem_cons]; exact .inr hy)), h x (by simp)]
theorem inOrder_mem : ∀ (ps : List (Nat × Operand)) (i : Nat) (xs : List Operand), inOrder i ps = some xs → xs = ps.map (·.2)
  | [], i, xs, h => by cases h; rfl
  | (j, x) :: ps, i, xs, h => by
    simp only [inOrder] at h
    cases hb : Nat.beq i j with
    | false => rw [hb] at h; cases h
    | true =>
      rw [hb] at h
      cases hr : inOrder (i + 1) ps with
      | none => rw [hr] at h; cases h
      | some ys => rw [hr] at h; cases h; rw [inOrder_mem ps _ ys hr]; rfl
theorem opt_congr {σ σ' : Slots} {x : Option Operand} (h : ∀ y ∈ x.toList, ev σ y = ev σ' y) : x.map (ev σ) = x.map (ev σ') := by
  cases x with
  | none => rfl
  | some y => simp [h y (by simp)]

theorem vop_congr {o : Oper} {σ σ' : Slots} (h : ∀ t, .tmp t ∈ opnds o.op → σ t = σ' t) : vop P o σ = vop P o σ' := by
  have he : ∀ x ∈ opnds o.op, ev σ x = ev σ' x := fun x hx => ev_congr h hx
  funext H K
  unfold vop
  split <;> rename_i hop <;> try simp only [hop, opnds, List.mem_cons, List.mem_append, List.not_mem_nil, or_false, forall_eq_or_imp, forall_eq] at he
  case h_6 =>
    congr 1
    funext e
    congr 1
    split
    · rename_i xs hxs
      rw [inOrder_mem _ _ _ hxs, map_congr he]
    · rfl
  case h_7 =>
    split
    · rw [fieldsOf_congr _ _ he]
    · rfl
  case h_16 => rw [map_congr (fun x hx => he x (.inl hx)), map_congr (fun x hx => he x (.inr hx))]
  case h_18 =>
    rw [he.1, opt_congr fun y hy => he.2 y (.inl (.inl hy)), opt_congr fun y hy => he.2 y (.inl (.inr hy)), opt_congr fun y hy => he.2 y (.inr hy)]
  case h_24 =>
    split
    · rename_i f hc
      simp only [hc, List.mem_cons, List.not_mem_nil, or_false] at he
      rw [he f (.inl rfl), map_congr fun x hx => he x (.inr hx)]
    · rename_i hc
      simp only [hc, List.not_mem_nil, false_or] at he
      split
      · rename_i x t hx ht
        rw [hx] at he
        rw [he x (by simp)]
      · rfl
    · rename_i hc
      simp only [hc, List.not_mem_nil, false_or] at he
      split
      · rename_i d x t u hx ht
        rw [hx] at he
        rw [he x (by simp), he d (by simp)]
      · rfl
    · rename_i hc
      simp only [hc, List.not_mem_nil, false_or] at he
      rw [map_congr he]
    · rename_i hc
      simp only [hc, List.not_mem_nil, false_or] at he
      rw [map_congr he]
    · rename_i hc
      simp only [hc, List.not_mem_nil, false_or] at he
      split
      · rename_i x t hx ht
        rw [hx] at he
        rw [he x (by simp)]
      · rfl
    · rename_i hc
      simp only [hc, List.not_mem_nil, false_or] at he
      split
      · rename_i d x t u hx ht
        rw [hx] at he
        rw [he x (by simp), he d (by simp)]
      · rfl
    · rfl
  all_goals first
    | rfl
    | (simp only [he]; done)
    | simp only [he.1, he.2]
    | simp only [he.1, he.2.1, he.2.2]

/-! ### Operations that yield a value and change nothing -/
def Fn (F : (AVal → Prop) → Prop) : Prop := ∀ K, F K → ∃ v, K v ∧ ∀ K' : AVal → Prop, K' v → F K'
theorem fn_k (v : AVal) : Fn (fun K => K v) := fun K h => ⟨v, h, fun _ h => h⟩
theorem fn_false : Fn (fun _ => False) := fun K h => h.elim
theorem fn_and {A : Prop} {F : (AVal → Prop) → Prop} (h : Fn F) : Fn (fun K => A ∧ F K) := fun K ⟨ha, hf⟩ => by
  obtain ⟨v, hv, hr⟩ := h K hf
  exact ⟨v, hv, fun K' hk => ⟨ha, hr K' hk⟩⟩
theorem fn_ex {α : Sort _} {F : α → (AVal → Prop) → Prop} (h : ∀ a, Fn (F a)) : Fn (fun K => ∃ a, F a K) := fun K ⟨a, hf⟩ => by
  obtain ⟨v, hv, hr⟩ := h a K hf
  exact ⟨v, hv, fun K' hk => ⟨a, hr K' hk⟩⟩

theorem fn_cellsAt (ag : Bool) (n : Nat) (cs : List AVal) (o : Nat) : Fn (cellsAt ag n cs o) := by
  cases ag with
  | true => exact fn_and (fn_k _)
  | false => exact fn_ex fun v => fn_and (fn_k v)
theorem fn_IXK (es : Nat) (x i : AVal) : Fn (IXK es x i) := by
  unfold IXK; split
  · exact fn_and (fn_and (fn_k _))
  · exact fn_and (fn_and (fn_and (fn_k _)))
  · exact fn_false
theorem fn_LDK (ag : Bool) (n : Nat) (H : Heap) (p : AVal) : Fn (LDK ag n H p) := by
  unfold LDK; split
  · exact fn_ex fun cs => fn_and (fn_cellsAt _ _ _ _)
  · exact fn_cellsAt _ _ _ _
  · exact fn_false
theorem fn_LENK (x : AVal) : Fn (LENK x) := by unfold LENK; split <;> first | exact fn_k _ | exact fn_false
theorem fn_LENS (x : AVal) : Fn (LENS x) := by unfold LENS; split <;> first | exact fn_k _ | exact fn_false
theorem fn_bound (d : Nat) (x : Option AVal) {F : Nat → (AVal → Prop) → Prop} (h : ∀ n, Fn (F n)) : Fn (fun K => boundOf d x fun n => F n K) := by
  unfold boundOf
  match x with
  | none => exact h d
  | some v => cases v <;> first | exact fn_and (h _) | exact fn_false
theorem fn_SLK (es : Nat) (x : AVal) (lo hi mx : Option AVal) : Fn (SLK es x lo hi mx) := by
  unfold SLK; split
  · exact fn_bound _ _ fun l => fn_bound _ _ fun h => fn_bound _ _ fun m => fn_and (fn_and (fn_and (fn_k _)))
  · exact fn_bound _ _ fun l => fn_bound _ _ fun h => fn_bound _ _ fun m => fn_and (fn_and (fn_and (fn_k _)))
  · rename_i i g es' off n
    refine fn_and (fn_bound _ _ fun l => fn_bound _ _ fun h => fn_bound _ _ fun m => ?_)
    intro K ⟨hle, hb, hm, h1, h2⟩
    by_cases hl : l = h
    · exact ⟨_, h1 hl, fun K' hk => ⟨hle, hb, hm, fun _ => hk, fun hlt => by omega⟩⟩
    · exact ⟨_, (h2 (by omega)).2, fun K' hk => ⟨hle, hb, hm, fun e => absurd e hl, fun hlt => ⟨(h2 hlt).1, hk⟩⟩⟩
  · exact fn_false
theorem fn_SSK (x : AVal) (lo hi : Option AVal) : Fn (SSK x lo hi) := by
  unfold SSK; split
  · exact fn_bound _ _ fun l => fn_bound _ _ fun h => fn_and (fn_and (fn_k _))
  · exact fn_false
theorem fn_ICVK (k : IntKind) (x : AVal) : Fn (ICVK k x) := by unfold ICVK; split <;> first | exact fn_k _ | exact fn_false
theorem fn_ITH (x : AVal) : Fn (ITH x) := by unfold ITH; split <;> first | exact fn_k _ | exact fn_false
theorem fn_FLDK (ag : Bool) (n o : Nat) (x : AVal) : Fn (FLDK ag n o x) := by unfold FLDK; split <;> first | exact fn_cellsAt _ _ _ _ | exact fn_false
theorem fn_FADK (o : Nat) (x : AVal) : Fn (FADK o x) := by unfold FADK; split <;> first | exact fn_k _ | exact fn_false
theorem fn_NILK (x : AVal) : Fn (NILK x) := by unfold NILK; split <;> first | exact fn_k _ | exact fn_false
theorem fn_EXTK (x : AVal) (i : Nat) : Fn (EXTK x i) := by unfold EXTK; split <;> first | exact fn_ex fun v => fn_and (fn_k v) | exact fn_false
theorem fn_IDXK (x i : AVal) : Fn (IDXK x i) := by unfold IDXK; split <;> first | exact fn_ex fun b => fn_and (fn_and (fn_k _)) | exact fn_false
theorem fn_NEGK (x : AVal) : Fn (NEGK x) := by unfold NEGK; split <;> first | exact fn_k _ | exact fn_false
theorem fn_NOTK (x : AVal) : Fn (NOTK x) := by unfold NOTK; split <;> first | exact fn_k _ | exact fn_false
theorem fn_PICK (c a b : AVal) : Fn (PICK c a b) := by unfold PICK; split <;> first | exact fn_k _ | exact fn_false
theorem fn_ariK (op : BinOp) (k : IntKind) (a b : Int) : Fn (ariK op k a b) := by unfold ariK; split <;> first | exact fn_k _ | exact fn_and (fn_k _) | exact fn_false
theorem fn_strK (op : BinOp) (a b : ByteArray) : Fn (strK op a b) := by unfold strK; split <;> first | exact fn_k _ | exact fn_and (fn_k _) | exact fn_false
theorem fn_BINK (op : BinOp) (x y : AVal) : Fn (BINK op x y) := by
  unfold BINK; split
  · split <;> first | exact fn_ariK _ _ _ _ | exact fn_and (fn_ariK _ _ _ _)
  · exact fn_strK _ _ _
  · exact fn_false
theorem fn_EQB (op : BinOp) (x y : AVal) : Fn (EQB op x y) := by unfold EQB; split <;> first | exact fn_k _ | exact fn_false
theorem fn_EQS (op : BinOp) (x y : AVal) : Fn (EQS op x y) := by unfold EQS; split <;> first | exact fn_k _ | exact fn_false
theorem fn_MMK (m : Bool) (vs : List AVal) : Fn (MMK m vs) := by unfold MMK; split <;> first | exact fn_k _ | exact fn_false

/-- The operations that only yield a value; loads look at the heap. -/
def isLd : Op → Bool
  | .load .. => true
  | _ => false
def isY : Op → Bool
  | .move _ | .assign _ | .pick .. | .load .. | .nilCheck _ | .binOp .. | .unOp .. | .slice .. | .fieldAddr .. | .field .. | .extract .. | .indexAddr .. | .index .. | .makeFunc .. => true
  | .call c => match c.callee with
    | .builtin .len => true
    | .builtin .max => true
    | .builtin .min => true
    | _ => false
  | _ => false

/-- It yields the one value. -/
def Yl (F : (AVal → Heap → Prop) → Prop) (v : AVal) (H : Heap) : Prop := ∀ K : AVal → Heap → Prop, K v H → F K
theorem yl_of_fn {F : (AVal → Prop) → Prop} (hF : Fn F) {G : Heap → (AVal → Heap → Prop) → Prop} (hG : ∀ H K, G H K = F fun v => K v H) {H : Heap} {K : AVal → Heap → Prop} (h : G H K) :
    ∃ v, K v H ∧ ∀ H', Yl (G H') v H' := by
  rw [hG] at h
  obtain ⟨v, hv, hr⟩ := hF _ h
  exact ⟨v, hv, fun H' K' hk => by rw [hG]; exact hr (fun v => K' v H') hk⟩

theorem vop_yld {o : Oper} {σ : Slots} {H : Heap} {K : AVal → Heap → Prop} (hy : isY o.op = true) (h : vop P o σ H K) :
    ∃ v, K v H ∧ ∀ H', (isLd o.op = false ∨ H' = H) → Yl (vop P o σ H') v H' := by
  have fin : ∀ {F : (AVal → Prop) → Prop}, Fn F → (∀ H K, vop P o σ H K = F fun v => K v H) → ∃ v, K v H ∧ ∀ H', (isLd o.op = false ∨ H' = H) → Yl (vop P o σ H') v H' := by
    intro F hF hG
    obtain ⟨v, hv, hr⟩ := yl_of_fn hF hG h
    exact ⟨v, hv, fun H' _ => hr H'⟩
  unfold isY at hy
  split at hy
  case h_1 x hop => exact fin (F := fun K => K (ev σ x)) (fn_k _) (by intro H K; simp only [vop, hop] <;> rfl)
  case h_2 x hop => exact fin (F := fun K => K (ev σ x)) (fn_k _) (by intro H K; simp only [vop, hop] <;> rfl)
  case h_3 c a b hop => exact fin (fn_PICK (ev σ c) (ev σ a) (ev σ b)) (by intro H K; simp only [vop, hop] <;> rfl)
  case h_4 t a hop =>
    have hG : ∀ H K, vop P o σ H K = (bytesOk P t = true ∧ (P.underlying t).isSome = true ∧ LDK (aggOf P t) (szOf P t) H (ev σ a) fun v => K v H) := by intro H K; simp only [vop, hop]
    rw [hG] at h
    obtain ⟨v, hv, hr⟩ := fn_and (fn_and (fn_LDK _ _ _ _)) (fun v => K v H) h
    refine ⟨v, hv, fun H' hc => ?_⟩
    rcases hc with hc | rfl
    · rw [hop] at hc; cases hc
    · intro K' hk; rw [hG]; exact hr (fun v => K' v H') hk
  case h_5 x hop => exact fin (fn_NILK (ev σ x)) (by intro H K; simp only [vop, hop] <;> rfl)
  case h_6 op t x y u hop =>
    cases hu : P.underlying t with
    | none => simp only [vop, hop, hu] at h
    | some d =>
      cases d with
      | int k => exact fin (fn_BINK op (ev σ x) (ev σ y)) (by intro H K; simp only [vop, hop, hu] <;> rfl)
      | string => exact fin (fn_BINK op (ev σ x) (ev σ y)) (by intro H K; simp only [vop, hop, hu] <;> rfl)
      | bool => exact fin (fn_EQB op (ev σ x) (ev σ y)) (by intro H K; simp only [vop, hop, hu] <;> rfl)
      | slice e => exact fin (fn_EQS op (ev σ x) (ev σ y)) (by intro H K; simp only [vop, hop, hu] <;> rfl)
      | _ => simp only [vop, hop, hu] at h
  case h_7 op t x hop =>
    cases op with
    | neg => exact fin (fn_NEGK (ev σ x)) (by intro H K; simp only [vop, hop] <;> rfl)
    | not => exact fin (fn_NOTK (ev σ x)) (by intro H K; simp only [vop, hop] <;> rfl)
    | _ => simp only [vop, hop] at h
  case h_8 t x lo hi mx hop =>
    cases hu : P.underlying t with
    | none => simp only [vop, hop, hu] at h
    | some d =>
      cases d with
      | slice e => exact fin (fn_and (fn_and (fn_SLK (szOf P e) (ev σ x) (lo.map (ev σ)) (hi.map (ev σ)) (mx.map (ev σ))))) (by intro H K; simp only [vop, hop, hu] <;> rfl)
      | string => exact fin (fn_and (fn_SSK (ev σ x) (lo.map (ev σ)) (hi.map (ev σ)))) (by intro H K; simp only [vop, hop, hu] <;> rfl)
      | _ => simp only [vop, hop, hu] at h
  case h_9 s x f hop =>
    cases hu : P.underlying s with
    | none => simp only [vop, hop, hu] at h
    | some d =>
      cases d with
      | struct fs =>
        cases hf : fs.toList[f]? with
        | none => simp only [vop, hop, hu, hf] at h
        | some fd => exact fin (fn_and (fn_FADK fd.offset (ev σ x))) (by intro H K; simp only [vop, hop, hu, hf] <;> rfl)
      | _ => simp only [vop, hop, hu] at h
  case h_10 s x f hop =>
    cases hu : P.underlying s with
    | none => simp only [vop, hop, hu] at h
    | some d =>
      cases d with
      | struct fs =>
        cases hf : fs.toList[f]? with
        | none => simp only [vop, hop, hu, hf] at h
        | some fd => exact fin (fn_and (fn_and (fn_FLDK (aggOf P fd.type) (szOf P fd.type) fd.offset (ev σ x)))) (by intro H K; simp only [vop, hop, hu, hf] <;> rfl)
      | _ => simp only [vop, hop, hu] at h
  case h_11 t i hop => exact fin (fn_EXTK (ev σ t) i) (by intro H K; simp only [vop, hop] <;> rfl)
  case h_12 t x i hop =>
    cases hu : P.underlying t with
    | none => simp only [vop, hop, elemT, hu] at h
    | some d =>
      cases d with
      | slice e => exact fin (fn_and (fn_IXK (szOf P e) (ev σ x) (ev σ i))) (by intro H K; simp only [vop, hop, elemT, hu] <;> rfl)
      | _ => simp only [vop, hop, elemT, hu] at h
  case h_13 t x i hop =>
    cases hu : P.underlying t with
    | none => simp only [vop, hop, hu] at h
    | some d =>
      cases d with
      | string => exact fin (fn_IDXK (ev σ x) (ev σ i)) (by intro H K; simp only [vop, hop, hu] <;> rfl)
      | _ => simp only [vop, hop, hu] at h
  case h_14 g first caps hop =>
    cases g with
    | func f => exact fin (fn_k (.fn f (first.toList.map (ev σ)) (caps.toList.map (ev σ)))) (by intro H K; simp only [vop, hop] <;> rfl)
    | _ => simp only [vop, hop] at h
  case h_15 c hop =>
    split at hy
    · rename_i hc
      cases hx : c.args.toList with
      | nil => simp only [vop, hop, hc, hx] at h
      | cons x xs =>
        cases xs with
        | cons => simp only [vop, hop, hc, hx] at h
        | nil =>
          cases ht : c.argTypes.toList with
          | nil => simp only [vop, hop, hc, hx, ht] at h
          | cons t ts =>
            cases ts with
            | cons => simp only [vop, hop, hc, hx, ht] at h
            | nil =>
              cases hu : P.underlying t with
              | none => simp only [vop, hop, hc, hx, ht, hu] at h
              | some d =>
                cases d with
                | slice e => exact fin (fn_LENK (ev σ x)) (by intro H K; simp only [vop, hop, hc, hx, ht, hu] <;> rfl)
                | string => exact fin (fn_LENS (ev σ x)) (by intro H K; simp only [vop, hop, hc, hx, ht, hu] <;> rfl)
                | _ => simp only [vop, hop, hc, hx, ht, hu] at h
    · rename_i hc
      exact fin (fn_MMK true (c.args.toList.map (ev σ))) (by intro H K; simp only [vop, hop, hc] <;> rfl)
    · rename_i hc
      exact fin (fn_MMK false (c.args.toList.map (ev σ))) (by intro H K; simp only [vop, hop, hc] <;> rfl)
    · cases hy
  case h_16 => cases hy

end
end Go.Proofs.Ytccioplhchmilaa.AL
