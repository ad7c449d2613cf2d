/-
  Contracts of functions, and what they rest on: Plain facts: toggles and flips of colours. Contracts: toggles and colours of the program. Contracts: cells of a colour that are flipped. Contracts: toggles and colours of the reference. From a law as a call over abstract values to the law as a call in a world. Contracts: draws for colours; the law FnColoursFlip, as a call. The law FnColoursFlip, as a call.
-/
import Derived.Test.YtccioplhchmilaaLawColoursFlipM2
set_option linter.unusedVariables false
set_option maxRecDepth 100000
namespace Go.Proofs.Ytccioplhchmilaa.AL
open Go Go.Proofs

/-! ### Toggles -/
/-- A cell toggled. -/
def tog (m : List (List Int)) (c : List Int) : List (List Int) := if heWayF (heightsF m) (c.getD 0 0).toNat (c.getD 1 0).toNat ≠ 0 then flipL m c else m
def togs (m : List (List Int)) (L : List (List Int)) : List (List Int) := L.foldl tog m
theorem tog_pair (m : List (List Int)) (i j : Nat) : tog m [(i : Int), (j : Int)] = if heWayF (heightsF m) i j ≠ 0 then flipM m i j else m := rfl
theorem tog_good {n : Nat} {m : List (List Int)} (h : Good n m) {i j : Nat} (hi1 : 1 ≤ i) (hi : i < n) (hj1 : 1 ≤ j) (hj : j < n) : Good n (tog m [(i : Int), (j : Int)]) := by
  rw [tog_pair]; split
  · exact flip_good h hi1 hi hj1 hj (by assumption)
  · exact h
theorem tog_Cn {n : Nat} {m : List (List Int)} (h : Good n m) {i j : Nat} (hi1 : 1 ≤ i) (hi : i < n) (hj1 : 1 ≤ j) (hj : j < n) {a b : Nat} (ha : a ≤ n) (hb : b ≤ n) : Cn (tog m [(i : Int), (j : Int)]) a b = flipC (Cn m) i j (heWayF (heightsF m) i j) a b := by
  rw [tog_pair]; split
  · exact flip_Cn h hi1 hi hj1 hj (by assumption) ha hb
  · rename_i hw
    rw [Decidable.not_not] at hw
    unfold flipC
    rw [hw]; split <;> omega
theorem tog_ht {n : Nat} {m : List (List Int)} (h : Good n m) {i j : Nat} (hi1 : 1 ≤ i) (hi : i < n) (hj1 : 1 ≤ j) (hj : j < n) : heUp (heightsF m) i j = heightsF (tog m [(i : Int), (j : Int)]) := by
  rw [tog_pair]; split
  · exact flip_ht h hi1 hi hj1 hj (by assumption)
  · rename_i hw
    rw [Decidable.not_not] at hw
    have hl : (heightsF m).length = n + 1 := by rw [heights_len, h.len]
    have hs : ∀ r ∈ heightsF m, r.length = n + 1 := fun r hr => by rw [heights_sq hr, h.len]
    refine getM_eq (n := n + 1) (by rw [heUp, setM_len, hl]) hl (setM_sq hs (by omega)) hs fun a b ha hb => ?_
    have hb1 := ht_bound h (i := i) (j := j) (by omega) (by omega)
    rw [heUp, getM_set hl hs (by omega) (by omega), hw, w64_in (by constructor <;> omega)]
    split
    · rename_i e; rw [e.1, e.2]; omega
    · rfl
theorem tog_tog {n : Nat} {m : List (List Int)} (h : Good n m) {i j : Nat} (hi1 : 1 ≤ i) (hi : i < n) (hj1 : 1 ≤ j) (hj : j < n) : tog (tog m [(i : Int), (j : Int)]) [(i : Int), (j : Int)] = m := by
  rw [tog_pair m]; split
  · rename_i hw
    rw [tog_pair, flip_way h hi1 hi hj1 hj hw, if_pos (by omega)]
    exact flipM_flip h hi1 hi hj1 hj hw
  · rename_i hw
    rw [tog_pair, if_neg hw]
theorem good_ext {n : Nat} {a b : List (List Int)} (ha : Good n a) (hb : Good n b) (h : ∀ i j, i ≤ n → j ≤ n → Cn a i j = Cn b i j) : a = b := by
  rw [ha.of, hb.of]; exact ofC_congr h
/-- Cells of a matrix with n rows. -/
def Cells (n : Nat) (L : List (List Int)) : Prop := ∀ c ∈ L, ∃ i j : Nat, c = [(i : Int), (j : Int)] ∧ 1 ≤ i ∧ i < n ∧ 1 ≤ j ∧ j < n
theorem togs_good {n : Nat} : ∀ {L : List (List Int)} {m : List (List Int)}, Good n m → Cells n L → Good n (togs m L)
  | [], m, h, _ => h
  | c :: L, m, h, hc => by
    obtain ⟨i, j, rfl, i1, i2, j1, j2⟩ := hc c (by simp)
    exact togs_good (L := L) (tog_good h i1 i2 j1 j2) fun c hc' => hc c (by simp [hc'])
theorem togs_rev {n : Nat} : ∀ {L : List (List Int)} {m : List (List Int)}, Good n m → Cells n L → togs (togs m L) L.reverse = m
  | [], m, h, _ => rfl
  | c :: L, m, h, hc => by
    obtain ⟨i, j, rfl, i1, i2, j1, j2⟩ := hc c (by simp)
    have ih := togs_rev (L := L) (tog_good h i1 i2 j1 j2) fun c hc' => hc c (by simp [hc'])
    show togs (togs (tog m [(i : Int), (j : Int)]) L) (([(i : Int), (j : Int)] :: L).reverse) = m
    rw [List.reverse_cons]
    unfold togs at ih ⊢
    rw [List.foldl_append, ih]
    exact tog_tog h i1 i2 j1 j2
theorem way_congr {n : Nat} {m k : List (List Int)} (hm : Good n m) (hk : Good n k) {i j : Nat} (hi1 : 1 ≤ i) (hi : i < n) (hj1 : 1 ≤ j) (hj : j < n) (e0 : Cn m i j = Cn k i j) (e1 : Cn m (i - 1) j = Cn k (i - 1) j) (e2 : Cn m (i + 1) j = Cn k (i + 1) j) (e3 : Cn m i (j - 1) = Cn k i (j - 1)) (e4 : Cn m i (j + 1) = Cn k i (j + 1)) : heWayF (heightsF m) i j = heWayF (heightsF k) i j := by
  have g : ∀ a b, a ≤ n → b ≤ n → Cn m a b = Cn k a b → getM (heightsF m) a b = getM (heightsF k) a b := fun a b ha hb e => by
    rw [ht_get hm ha hb, ht_get hk ha hb]; unfold htC; rw [e]
  unfold heWayF sameB
  rw [g i j (by omega) (by omega) e0, g (i - 1) j (by omega) (by omega) e1, g (i + 1) j (by omega) (by omega) e2, g i (j - 1) (by omega) (by omega) e3, g i (j + 1) (by omega) (by omega) e4]
/-- Cells of one colour, each once. -/
def OneCol (col : Int) (L : List (List Int)) : Prop := L.Nodup ∧ ∀ i j : Nat, [(i : Int), (j : Int)] ∈ L → ((i : Int) + j).tmod 2 = col
theorem tmod2 {a b : Nat} : ((a : Int) + b).tmod 2 = ((a + b) % 2 : Nat) := by
  rw [Int.tmod_eq_emod_of_nonneg (by omega)]; omega
theorem togs_Cn {n : Nat} {col : Int} : ∀ {L : List (List Int)} {m : List (List Int)}, Good n m → Cells n L → OneCol col L → ∀ a b, a ≤ n → b ≤ n → Cn (togs m L) a b = Cn m a b - if [(a : Int), (b : Int)] ∈ L then heWayF (heightsF m) a b else 0
  | [], m, h, _, _, a, b, ha, hb => by rw [if_neg (by simp)]; show Cn m a b = _; omega
  | c :: L, m, h, hc, ho, a, b, ha, hb => by
    obtain ⟨i, j, rfl, i1, i2, j1, j2⟩ := hc c (by simp)
    have hcL : Cells n L := fun c hc' => hc c (by simp [hc'])
    have hnd := List.nodup_cons.1 ho.1
    have hoL : OneCol col L := ⟨hnd.2, fun i j h => ho.2 i j (by simp [h])⟩
    have g := tog_good h i1 i2 j1 j2
    have ih := togs_Cn (L := L) g hcL hoL a b ha hb
    show Cn (togs (tog m [(i : Int), (j : Int)]) L) a b = _
    rw [ih, tog_Cn h i1 i2 j1 j2 ha hb]
    unfold flipC
    by_cases hab : a = i ∧ b = j
    · obtain ⟨rfl, rfl⟩ := hab
      rw [if_pos ⟨rfl, rfl⟩, if_neg hnd.1, if_pos (by simp)]; omega
    · rw [if_neg hab]
      by_cases hin : [(a : Int), (b : Int)] ∈ L
      · rw [if_pos hin, if_pos (by simp [hin])]
        obtain ⟨a', b', e, q1, q2, q3, q4⟩ := hcL _ hin
        simp only [List.cons.injEq, and_true] at e
        have ea : a = a' := by omega
        have eb : b = b' := by omega
        subst ea; subst eb
        have c1 := ho.2 i j (by simp)
        have c2 := ho.2 a b (by simp [hin])
        rw [tmod2] at c1 c2
        have key : ∀ x y, x ≤ n → y ≤ n → ¬ (x = i ∧ y = j) → Cn (tog m [(i : Int), (j : Int)]) x y = Cn m x y := fun x y hx hy hne => by
          rw [tog_Cn h i1 i2 j1 j2 hx hy]; unfold flipC; rw [if_neg hne]
        rw [way_congr g h q1 q2 q3 q4 (key _ _ (by omega) (by omega) hab) (key _ _ (by omega) (by omega) (by omega)) (key _ _ (by omega) (by omega) (by omega)) (key _ _ (by omega) (by omega) (by omega)) (key _ _ (by omega) (by omega) (by omega))]
      · rw [if_neg hin, if_neg]
        simp only [List.mem_cons, not_or]
        refine ⟨fun e => hab ?_, hin⟩
        simp only [List.cons.injEq, and_true] at e
        omega

/-! ### A colour -/
def colP (col : Int) (i j : Nat) : Bool := decide (((i : Int) + j).tmod 2 = col)
def colCells (n : Nat) (col : Int) : List (List Int) := cellsF (colP col) (n - 1)
def flipCol (m : List (List Int)) (col : Int) : List (List Int) := togs m (colCells m.length col)
def flippedF (m : List (List Int)) (col : Int) : List (List Int) := cellsF (fun i j => colP col i j && decide (heWayF (heightsF m) i j ≠ 0)) (m.length - 1)
theorem cells_Cells {n : Nat} (hn : 1 ≤ n) (p : Nat → Nat → Bool) : Cells n (cellsF p (n - 1)) := fun c hc => by
  obtain ⟨i, j, h1, h2, h3, h4, _, rfl⟩ := mem_cellsFrom' hc
  exact ⟨i, j, rfl, h1, by omega, h3, by omega⟩
theorem row_nodup {p : Nat → Bool} {i : Nat} : ∀ {m j : Nat}, (cellsRow p i j m).Nodup
  | 0, j => by simp [cellsRow]
  | m + 1, j => by
    rw [cellsRow, List.nodup_append]
    refine ⟨by split <;> simp, row_nodup, ?_⟩
    intro a ha b hb e
    subst e
    obtain ⟨j', h1, _, _, rfl⟩ := mem_cellsRow' hb
    split at ha
    · simp at ha; omega
    · simp at ha
theorem from_nodup {p : Nat → Nat → Bool} {n : Nat} : ∀ {m i : Nat}, (cellsFrom p n i m).Nodup
  | 0, i => by simp [cellsFrom]
  | m + 1, i => by
    rw [cellsFrom, List.nodup_append]
    refine ⟨row_nodup, from_nodup, ?_⟩
    intro a ha b hb e
    subst e
    obtain ⟨j', _, _, _, rfl⟩ := mem_cellsRow' ha
    obtain ⟨i', j'', h1, _, _, _, _, e⟩ := mem_cellsFrom' hb
    simp only [List.cons.injEq, and_true] at e
    omega
theorem cells_nodup {p : Nat → Nat → Bool} {n : Nat} : (cellsF p n).Nodup := from_nodup
theorem cells_p {p : Nat → Nat → Bool} {n i j : Nat} (h : [(i : Int), (j : Int)] ∈ cellsF p n) : p i j = true ∧ 1 ≤ i ∧ i ≤ n ∧ 1 ≤ j ∧ j ≤ n := by
  obtain ⟨i', j', h1, h2, h3, h4, h5, e⟩ := mem_cellsFrom' h
  simp only [List.cons.injEq, and_true] at e
  have e1 : i = i' := by omega
  have e2 : j = j' := by omega
  subst e1; subst e2
  exact ⟨h5, h1, by omega, h3, h4⟩
theorem colCells_one (n : Nat) (col : Int) : OneCol col (colCells n col) := ⟨cells_nodup, fun _ _ h => of_decide_eq_true (cells_p h).1⟩
theorem flipCol_good {n : Nat} {m : List (List Int)} (h : Good n m) (col : Int) : Good n (flipCol m col) := by
  unfold flipCol; rw [h.len]; exact togs_good h (cells_Cells h.n1 _)
theorem flipCol_Cn {n : Nat} {m : List (List Int)} (h : Good n m) (col : Int) {a b : Nat} (ha : a ≤ n) (hb : b ≤ n) : Cn (flipCol m col) a b = Cn m a b - if (1 ≤ a ∧ a < n ∧ 1 ≤ b ∧ b < n) ∧ colP col a b = true then heWayF (heightsF m) a b else 0 := by
  have hn := h.n1
  unfold flipCol
  rw [h.len, togs_Cn (L := colCells n col) h (cells_Cells h.n1 _) (colCells_one n col) a b ha hb]
  congr 1
  by_cases hin : [(a : Int), (b : Int)] ∈ colCells n col
  · have := cells_p hin
    rw [if_pos hin, if_pos ⟨by omega, this.1⟩]
  · rw [if_neg hin, if_neg]
    rintro ⟨h1, h2⟩
    exact hin (cells_mem h2 h1.1 (by omega) h1.2.2.1 (by omega))
theorem flipCol_way {n : Nat} {m : List (List Int)} (h : Good n m) {col : Int} {i j : Nat} (hi1 : 1 ≤ i) (hi : i < n) (hj1 : 1 ≤ j) (hj : j < n) (hc : colP col i j = true) : heWayF (heightsF (flipCol m col)) i j = - heWayF (heightsF m) i j := by
  have g := flipCol_good h col
  have hc' := of_decide_eq_true hc
  rw [tmod2] at hc'
  have nb : ∀ a b, a ≤ n → b ≤ n → (a + b) % 2 ≠ (i + j) % 2 → getM (heightsF (flipCol m col)) a b = getM (heightsF m) a b := by
    intro a b ha hb hp
    rw [ht_get g ha hb, ht_get h ha hb]
    unfold htC
    rw [flipCol_Cn h col ha hb, if_neg]
    · omega
    · rintro ⟨_, h2⟩
      have h2 := of_decide_eq_true h2
      rw [tmod2] at h2
      omega
  have e0 : getM (heightsF (flipCol m col)) i j = getM (heightsF m) i j + 2 * heWayF (heightsF m) i j := by
    rw [ht_get g (by omega) (by omega), ht_get h (by omega) (by omega)]
    unfold htC
    rw [flipCol_Cn h col (by omega) (by omega), if_pos ⟨⟨hi1, hi, hj1, hj⟩, hc⟩]; omega
  have e1 := nb (i - 1) j (by omega) (by omega) (by omega)
  have e2 := nb (i + 1) j (by omega) (by omega) (by omega)
  have e3 := nb i (j - 1) (by omega) (by omega) (by omega)
  have e4 := nb i (j + 1) (by omega) (by omega) (by omega)
  rcases way_cases (heightsF m) i j with hw | hw | hw
  · have q := (way_up h (by omega) (by omega)).1 hw
    rw [hw, way_dn g (by omega) (by omega)]
    rw [hw] at e0
    omega
  · have q := (way_dn h (by omega) (by omega)).1 hw
    rw [hw, show (- -1 : Int) = 1 from rfl, way_up g (by omega) (by omega)]
    rw [hw] at e0
    omega
  · have u := way_up h (i := i) (j := j) (by omega) (by omega)
    have d := way_dn h (i := i) (j := j) (by omega) (by omega)
    have u' := way_up g (i := i) (j := j) (by omega) (by omega)
    have d' := way_dn g (i := i) (j := j) (by omega) (by omega)
    rw [hw] at e0
    rw [e1, e2, e3, e4, show getM (heightsF (flipCol m col)) i j = getM (heightsF m) i j by omega] at u' d'
    rw [hw] at u d ⊢
    rcases way_cases (heightsF (flipCol m col)) i j with h1 | h1 | h1
    · have := u.2 (u'.1 h1); omega
    · have := d.2 (d'.1 h1); omega
    · rw [h1]; rfl
theorem flipCol_flip {n : Nat} {m : List (List Int)} (h : Good n m) (col : Int) : flipCol (flipCol m col) col = m := by
  have g := flipCol_good h col
  refine good_ext (flipCol_good g col) h fun a b ha hb => ?_
  rw [flipCol_Cn g col ha hb, flipCol_Cn h col ha hb]
  by_cases hc : (1 ≤ a ∧ a < n ∧ 1 ≤ b ∧ b < n) ∧ colP col a b = true
  · rw [if_pos hc, if_pos hc, flipCol_way h hc.1.1 hc.1.2.1 hc.1.2.2.1 hc.1.2.2.2 hc.2]; omega
  · rw [if_neg hc, if_neg hc]; omega
theorem flipped_flip {n : Nat} {m : List (List Int)} (h : Good n m) (col : Int) : flippedF (flipCol m col) col = flippedF m col := by
  have hn := h.n1
  unfold flippedF
  rw [(flipCol_good h col).len, h.len]
  refine cells_congr fun i j h1 h2 h3 h4 => ?_
  cases hc : colP col i j with
  | false => simp only [Bool.false_and]
  | true =>
    rw [flipCol_way h h1 (by omega) h3 (by omega) hc]
    simp only [Bool.true_and, decide_eq_decide]; omega
/-! Counting cells. -/
theorem row_count {p : Nat → Bool} {i : Nat} : ∀ {m j : Nat}, ((cellsRow p i j m).length : Int) = psum (fun b => if j ≤ b ∧ p b = true then 1 else 0) (j + m)
  | 0, j => by
    rw [cellsRow]
    have : psum (fun b => if j ≤ b ∧ p b = true then (1 : Int) else 0) (j + 0) = psum (fun _ => 0) (j + 0) := psum_congr fun b hb => by rw [if_neg (by omega)]
    rw [this, psum_zero]; rfl
  | m + 1, j => by
    rw [cellsRow, List.length_append, Int.natCast_add, row_count (m := m) (j := j + 1)]
    have hj : j < j + (m + 1) := by omega
    rw [show j + 1 + m = j + (m + 1) by omega]
    rw [psum_upd (f := fun b => if j ≤ b ∧ p b = true then (1 : Int) else 0) (g := fun b => if j + 1 ≤ b ∧ p b = true then (1 : Int) else 0) hj fun k _ hkj => by
      by_cases hk : j ≤ k ∧ p k = true
      · rw [if_pos hk, if_pos ⟨by omega, hk.2⟩]
      · rw [if_neg hk, if_neg fun h => hk ⟨by omega, h.2⟩]]
    rw [if_neg (show ¬ (j + 1 ≤ j ∧ p j = true) by omega)]
    cases hp : p j with
    | true => simp; omega
    | false => simp
theorem from_count {p : Nat → Nat → Bool} {n : Nat} : ∀ {m i : Nat}, ((cellsFrom p n i m).length : Int) = psum (fun a => if i ≤ a then psum (fun b => if 1 ≤ b ∧ p a b = true then 1 else 0) (1 + n) else 0) (i + m)
  | 0, i => by
    rw [cellsFrom]
    have : psum (fun a => if i ≤ a then psum (fun b => if 1 ≤ b ∧ p a b = true then (1 : Int) else 0) (1 + n) else 0) (i + 0) = psum (fun _ => 0) (i + 0) := psum_congr fun b hb => by rw [if_neg (by omega)]
    rw [this, psum_zero]; rfl
  | m + 1, i => by
    rw [cellsFrom, List.length_append, Int.natCast_add, from_count (m := m) (i := i + 1), row_count]
    have hi : i < i + (m + 1) := by omega
    rw [show i + 1 + m = i + (m + 1) by omega]
    rw [psum_upd (f := fun a => if i ≤ a then psum (fun b => if 1 ≤ b ∧ p a b = true then (1 : Int) else 0) (1 + n) else 0) (g := fun a => if i + 1 ≤ a then psum (fun b => if 1 ≤ b ∧ p a b = true then (1 : Int) else 0) (1 + n) else 0) hi fun k _ hki => by
      by_cases hk : i ≤ k
      · rw [if_pos hk, if_pos (by omega)]
      · rw [if_neg hk, if_neg (by omega)]]
    rw [if_pos (Nat.le_refl i), if_neg (show ¬ i + 1 ≤ i by omega)]; omega
theorem dist_flipCol {n : Nat} {m : List (List Int)} (h : Good n m) (col : Int) : distM n m (flipCol m col) = (flippedF m col).length := by
  have hn := h.n1
  unfold flippedF cellsF distM
  rw [h.len, from_count, show 1 + (n - 1) = n by omega]
  have e1 : ∀ i j, i ≤ n → j ≤ n → ab (Cn m i j - Cn (flipCol m col) i j) = if 1 ≤ i ∧ i < n ∧ 1 ≤ j ∧ j < n ∧ colP col i j = true ∧ heWayF (heightsF m) i j ≠ 0 then 1 else 0 := by
    intro i j hi hj
    rw [flipCol_Cn h col hi hj]
    by_cases hc : (1 ≤ i ∧ i < n ∧ 1 ≤ j ∧ j < n) ∧ colP col i j = true
    · rw [if_pos hc]
      by_cases hw : heWayF (heightsF m) i j ≠ 0
      · rw [if_pos ⟨hc.1.1, hc.1.2.1, hc.1.2.2.1, hc.1.2.2.2, hc.2, hw⟩]
        have := way_cases (heightsF m) i j
        unfold ab; omega
      · rw [if_neg (fun h => hw h.2.2.2.2.2)]
        unfold ab; omega
    · rw [if_neg hc, if_neg (fun h => hc ⟨⟨h.1, h.2.1, h.2.2.1, h.2.2.2.1⟩, h.2.2.2.2.1⟩)]
      unfold ab; omega
  rw [psum_succ]
  have e2 : psum (fun j => ab (Cn m n j - Cn (flipCol m col) n j)) (n + 1) = 0 := by
    rw [psum_congr (g := fun _ => 0) fun j hj => by rw [e1 n j (by omega) (by omega), if_neg (by omega)], psum_zero]
  rw [e2, Int.add_zero]
  refine psum_congr fun i hi => ?_
  rw [psum_succ, e1 i n (by omega) (by omega), if_neg (by omega), Int.add_zero]
  by_cases h1 : 1 ≤ i
  · rw [if_pos h1]
    refine psum_congr fun j hj => ?_
    rw [e1 i j (by omega) (by omega)]
    simp only [Bool.and_eq_true, decide_eq_true_eq]
    by_cases hq : 1 ≤ j ∧ colP col i j = true ∧ heWayF (heightsF m) i j ≠ 0
    · rw [if_pos ⟨h1, hi, hq.1, hj, hq.2⟩, if_pos hq]
    · rw [if_neg (fun h => hq ⟨h.2.2.1, h.2.2.2.2⟩), if_neg hq]
  · rw [if_neg h1]
    rw [psum_congr (g := fun _ => 0) fun j hj => by rw [e1 i j (by omega) (by omega), if_neg (fun h => h1 h.1)], psum_zero]
/-- Following cells of a colour that can be flipped. -/
theorem follow_togs {n : Nat} {col : Int} : ∀ {L : List (List Int)} {m : List (List Int)}, Good n m → Cells n L → OneCol col L → (∀ i j : Nat, [(i : Int), (j : Int)] ∈ L → heWayF (heightsF m) i j ≠ 0) → followM n m L = some (togs m L)
  | [], m, h, _, _, _ => rfl
  | c :: L, m, h, hc, ho, hw => by
    obtain ⟨i, j, rfl, i1, i2, j1, j2⟩ := hc c (by simp)
    have hcL : Cells n L := fun c hc' => hc c (by simp [hc'])
    have hnd := List.nodup_cons.1 ho.1
    have hoL : OneCol col L := ⟨hnd.2, fun i j h => ho.2 i j (by simp [h])⟩
    have g := tog_good h i1 i2 j1 j2
    have hw1 := hw i j (by simp)
    have et : tog m [(i : Int), (j : Int)] = flipM m i j := by rw [tog_pair, if_pos hw1]
    rw [followM, if_pos ⟨isCell_mk i1 i2 j1 j2, hw1⟩]
    have key : ∀ x y, x ≤ n → y ≤ n → ¬ (x = i ∧ y = j) → Cn (tog m [(i : Int), (j : Int)]) x y = Cn m x y := fun x y hx hy hne => by
      rw [tog_Cn h i1 i2 j1 j2 hx hy]; unfold flipC; rw [if_neg hne]
    have ih := follow_togs (L := L) g hcL hoL fun a b hin => by
      obtain ⟨a', b', e, q1, q2, q3, q4⟩ := hcL _ hin
      simp only [List.cons.injEq, and_true] at e
      have ea : a = a' := by omega
      have eb : b = b' := by omega
      subst ea; subst eb
      have c1 := ho.2 i j (by simp)
      have c2 := ho.2 a b (by simp [hin])
      rw [tmod2] at c1 c2
      have hab : ¬ (a = i ∧ b = j) := by rintro ⟨rfl, rfl⟩; exact hnd.1 hin
      rw [way_congr g h q1 q2 q3 q4 (key _ _ (by omega) (by omega) hab) (key _ _ (by omega) (by omega) (by omega)) (key _ _ (by omega) (by omega) (by omega)) (key _ _ (by omega) (by omega) (by omega)) (key _ _ (by omega) (by omega) (by omega))]
      exact hw a b (by simp [hin])
    have e2 : flipL m [(i : Int), (j : Int)] = tog m [(i : Int), (j : Int)] := et.symm
    rw [e2, ih]; rfl
theorem follow_flipped {n : Nat} {m : List (List Int)} (h : Good n m) (col : Int) : followM n m (flippedF m col).reverse = some (flipCol m col) := by
  have hn := h.n1
  have hC : Cells n (flippedF m col).reverse := by
    unfold flippedF; rw [h.len]
    intro c hc; exact cells_Cells hn _ c (List.mem_reverse.1 hc)
  have hO : OneCol col (flippedF m col).reverse := by
    unfold flippedF
    refine ⟨List.pairwise_reverse.2 (cells_nodup.imp Ne.symm), fun i j hin => ?_⟩
    have := (cells_p (List.mem_reverse.1 hin)).1
    simp only [Bool.and_eq_true] at this
    exact of_decide_eq_true this.1
  rw [follow_togs h hC hO]
  · congr 1
    refine good_ext (togs_good h hC) (flipCol_good h col) fun a b ha hb => ?_
    rw [togs_Cn h hC hO a b ha hb, flipCol_Cn h col ha hb]
    congr 1
    by_cases hin : [(a : Int), (b : Int)] ∈ (flippedF m col).reverse
    · have q := List.mem_reverse.1 hin
      unfold flippedF at q
      have := cells_p q
      rw [h.len] at this
      simp only [Bool.and_eq_true, decide_eq_true_eq] at this
      rw [if_pos hin, if_pos ⟨by omega, this.1.1⟩]
    · rw [if_neg hin]
      by_cases hc : (1 ≤ a ∧ a < n ∧ 1 ≤ b ∧ b < n) ∧ colP col a b = true
      · rw [if_pos hc]
        by_cases hw : heWayF (heightsF m) a b = 0
        · rw [hw]
        · exfalso
          apply hin
          rw [List.mem_reverse]
          unfold flippedF
          rw [h.len]
          exact cells_mem (by rw [hc.2]; simp [hw]) hc.1.1 (by omega) hc.1.2.2.1 (by omega)
      · rw [if_neg hc]
  · intro i j hin
    have q := List.mem_reverse.1 hin
    unfold flippedF at q
    have := (cells_p q).1
    simp only [Bool.and_eq_true, decide_eq_true_eq] at this
    exact this.2

end Go.Proofs.Ytccioplhchmilaa.AL

set_option linter.unusedVariables false
set_option maxRecDepth 100000
namespace Go.Proofs.Ytccioplhchmilaa.AL
open Go Go.Proofs

/-! impl.toggled (slots: 0 m, 1 list, 2 m, 3 list, 5 h, 6 _, 7 c) -/
namespace impl_toggled
def lv : List (Nat × List Nat) := [(3, [5, 10, 11, 12])]
noncomputable def K3 : List KF := [.lp (cB (cB (cR (cL (cR (cR (bodyOf Try.f71))))))), .bl 0, .sq (cR (cR (cR (bodyOf Try.f71))))]
def L3 (Q : AVal → Heap → Prop) (v5 v10 v11 v12 : AVal) (H : Heap) : Prop := At Try.prog 71 40 K3 Q (slotsOf [(5, v5), (10, v10), (11, v11), (12, v12)]) H
theorem L3_frz {Q : AVal → Heap → Prop} {v5 v10 v11 v12 w5 w10 w11 w12 : AVal} {H Hf Hk : Heap} {k : Nat} (hs : Split H Hf Hk) (hp : PurL Hf k [(5, v5, w5), (10, v10, w10), (11, v11, w11), (12, v12, w12)]) (h : L3 Q w5 w10 w11 w12 Hk) : L3 Q v5 v10 v11 v12 H := at_frz (ks := K3) hs hp h
def start_vc (Q : AVal → Heap → Prop) (a0 a1 : AVal) (H : Heap) : Prop :=
 ACalls Try.prog 56 [a0] H fun x1 H2 =>
 LENK a1 fun x3 =>
 impl_toggled.L3 Q x1 a1 x3 (AVal.int .i64 0) H2
theorem start_eq (Q : AVal → Heap → Prop) (a0 a1 : AVal) (H : Heap) : vs Try.prog lv 71 40 Try.f71.results.toList Q true 1000 [.sq (bodyOf Try.f71)] (entry [a0, a1]) H = start_vc Q a0 a1 H := by kernel_rfl
theorem start {Q : AVal → Heap → Prop} {a0 a1 : AVal} {H : Heap} (h : start_vc Q a0 a1 H) : ACalls Try.prog 71 [a0, a1] H Q := acalls_vs (lv := lv) mixed Try.func71 rfl (by kernel_rfl) (by kernel_rfl) (start_eq Q a0 a1 H ▸ h)
def step3_vc (Q : AVal → Heap → Prop) (v5 v10 v11 v12 : AVal) (H : Heap) : Prop :=
 BINK .lss v12 v11 fun x1 =>
 BRK x1 (TT ∧ IXK 1 v10 v12 fun x2 =>
 TT ∧ TT ∧ LDK false 1 H x2 fun x3 =>
 TT ∧ TT ∧ IXK 1 x3 (AVal.int .i64 0) fun x4 =>
 TT ∧ TT ∧ LDK false 1 H x4 fun x5 =>
 TT ∧ IXK 1 v5 x5 fun x6 =>
 TT ∧ TT ∧ LDK false 1 H x6 fun x7 =>
 TT ∧ IXK 1 x3 (AVal.int .i64 1) fun x8 =>
 TT ∧ TT ∧ LDK false 1 H x8 fun x9 =>
 TT ∧ IXK 1 x7 x9 fun x10 =>
 TT ∧ TT ∧ LDK false 1 H x10 fun x11 =>
 TT ∧ IXK 1 x3 (AVal.int .i64 0) fun x12 =>
 TT ∧ TT ∧ LDK false 1 H x12 fun x13 =>
 TT ∧ IXK 1 x3 (AVal.int .i64 1) fun x14 =>
 TT ∧ TT ∧ LDK false 1 H x14 fun x15 =>
 ACalls Try.prog 60 [v5, x13, x15] H fun x16 H17 =>
 (TT ∧ TT ∧ LDK false 1 H17 x10 fun x18 =>
 x18 = x11) ∧
 (TT ∧ TT ∧ LDK false 1 H17 x8 fun x19 =>
 x19 = x9) ∧
 (TT ∧ TT ∧ LDK false 1 H17 x6 fun x20 =>
 x20 = x7) ∧
 (TT ∧ TT ∧ LDK false 1 H17 x4 fun x21 =>
 x21 = x5) ∧
 BINK .add x11 x16 fun x22 =>
 TT ∧ IXK 1 x7 x9 fun x23 =>
 TT ∧ STK 1 H17 x23 x22 fun H24 =>
 BINK .add v12 (AVal.int .i64 1) fun x25 =>
 impl_toggled.L3 Q v5 v10 v11 x25 H24) (ACalls Try.prog 67 [v5] H fun x26 H27 =>
 Q x26 H27)
theorem step3_eq (Q : AVal → Heap → Prop) (v5 v10 v11 v12 : AVal) (H : Heap) : vs Try.prog lv 71 40 Try.f71.results.toList Q true 1000 (.sq (cB (cB (cR (cL (cR (cR (bodyOf Try.f71))))))) :: K3) (slotsOf [(5, v5), (10, v10), (11, v11), (12, v12)]) H = step3_vc Q v5 v10 v11 v12 H := by kernel_rfl
theorem step3 {Q : AVal → Heap → Prop} {v5 v10 v11 v12 : AVal} {H : Heap} (h : step3_vc Q v5 v10 v11 v12 H) : L3 Q v5 v10 v11 v12 H := at_lp_vs (lv := lv) (ks := K3.tail) mixed Try.func71 (step3_eq Q v5 v10 v11 v12 H ▸ h)
end impl_toggled

/-! impl.coloured (slots: 0 n, 1 colour, 2 n, 3 colour) -/
namespace impl_coloured
def lv : List (Nat × List Nat) := []
def start_vc (Q : AVal → Heap → Prop) (a0 a1 : AVal) (H : Heap) : Prop :=
 BOXK a1 H fun x1 H2 =>
 ACalls Try.prog 78 [a0, (AVal.fn 111 [] [x1])] H2 fun x3 H4 =>
 Q x3 H4
theorem start_eq (Q : AVal → Heap → Prop) (a0 a1 : AVal) (H : Heap) : vs Try.prog lv 58 8 Try.f58.results.toList Q true 1000 [.sq (bodyOf Try.f58)] (entry [a0, a1]) H = start_vc Q a0 a1 H := by kernel_rfl
theorem start {Q : AVal → Heap → Prop} {a0 a1 : AVal} {H : Heap} (h : start_vc Q a0 a1 H) : ACalls Try.prog 58 [a0, a1] H Q := acalls_vs (lv := lv) mixed Try.func58 rfl (by kernel_rfl) (by kernel_rfl) (start_eq Q a0 a1 H ▸ h)
end impl_coloured

/-! impl.coloured$1 (slots: 0 i, 1 j, 3 i, 4 j) -/
namespace impl_coloured_1
def lv : List (Nat × List Nat) := []
def start_vc (Q : AVal → Heap → Prop) (a0 a1 a2 : AVal) (H : Heap) : Prop :=
 BINK .add a0 a1 fun x1 =>
 BINK .rem x1 (AVal.int .i64 2) fun x2 =>
 TT ∧ TT ∧ LDK false 1 H a2 fun x3 =>
 BINK .eql x2 x3 fun x4 =>
 Q x4 H
theorem start_eq (Q : AVal → Heap → Prop) (a0 a1 a2 : AVal) (H : Heap) : vs Try.prog lv 111 12 Try.f111.results.toList Q true 1000 [.sq (bodyOf Try.f111)] (entry [a0, a1, a2]) H = start_vc Q a0 a1 a2 H := by kernel_rfl
theorem start {Q : AVal → Heap → Prop} {a0 a1 a2 : AVal} {H : Heap} (h : start_vc Q a0 a1 a2 H) : ACalls Try.prog 111 [a0, a1, a2] H Q := acalls_vs (lv := lv) mixed Try.func111 rfl (by kernel_rfl) (by kernel_rfl) (start_eq Q a0 a1 a2 H ▸ h)
end impl_coloured_1

/-! impl.isColour (slots: 0 colour, 1 colour) -/
namespace impl_isColour
def lv : List (Nat × List Nat) := []
def start_vc (Q : AVal → Heap → Prop) (a0 : AVal) (H : Heap) : Prop :=
 ACalls Try.prog 102 [a0, (AVal.int .i64 0), (AVal.int .i64 1)] H fun x1 H2 =>
 Q x1 H2
theorem start_eq (Q : AVal → Heap → Prop) (a0 : AVal) (H : Heap) : vs Try.prog lv 51 5 Try.f51.results.toList Q true 1000 [.sq (bodyOf Try.f51)] (entry [a0]) H = start_vc Q a0 H := by kernel_rfl
theorem start {Q : AVal → Heap → Prop} {a0 : AVal} {H : Heap} (h : start_vc Q a0 H) : ACalls Try.prog 51 [a0] H Q := acalls_vs (lv := lv) mixed Try.func51 rfl (by kernel_rfl) (by kernel_rfl) (start_eq Q a0 H ▸ h)
end impl_isColour

/-! impl.flipped (slots: 0 m, 1 colours, 2 m, 3 colours, 5 _, 6 colour) -/
namespace impl_flipped
def lv : List (Nat × List Nat) := [(2, [0, 7, 8, 9])]
noncomputable def K2 : List KF := [.lp (cB (cB (cR (cL (cR (bodyOf Try.f52)))))), .bl 0, .sq (cR (cR (bodyOf Try.f52)))]
def L2 (Q : AVal → Heap → Prop) (v0 v7 v8 v9 : AVal) (H : Heap) : Prop := At Try.prog 52 21 K2 Q (slotsOf [(0, v0), (7, v7), (8, v8), (9, v9)]) H
theorem L2_frz {Q : AVal → Heap → Prop} {v0 v7 v8 v9 w0 w7 w8 w9 : AVal} {H Hf Hk : Heap} {k : Nat} (hs : Split H Hf Hk) (hp : PurL Hf k [(0, v0, w0), (7, v7, w7), (8, v8, w8), (9, v9, w9)]) (h : L2 Q w0 w7 w8 w9 Hk) : L2 Q v0 v7 v8 v9 H := at_frz (ks := K2) hs hp h
def start_vc (Q : AVal → Heap → Prop) (a0 a1 : AVal) (H : Heap) : Prop :=
 LENK a1 fun x1 =>
 impl_flipped.L2 Q a0 a1 x1 (AVal.int .i64 0) H
theorem start_eq (Q : AVal → Heap → Prop) (a0 a1 : AVal) (H : Heap) : vs Try.prog lv 52 21 Try.f52.results.toList Q true 1000 [.sq (bodyOf Try.f52)] (entry [a0, a1]) H = start_vc Q a0 a1 H := by kernel_rfl
theorem start {Q : AVal → Heap → Prop} {a0 a1 : AVal} {H : Heap} (h : start_vc Q a0 a1 H) : ACalls Try.prog 52 [a0, a1] H Q := acalls_vs (lv := lv) mixed Try.func52 rfl (by kernel_rfl) (by kernel_rfl) (start_eq Q a0 a1 H ▸ h)
def step2_vc (Q : AVal → Heap → Prop) (v0 v7 v8 v9 : AVal) (H : Heap) : Prop :=
 BINK .lss v9 v8 fun x1 =>
 BRK x1 (TT ∧ IXK 1 v7 v9 fun x2 =>
 TT ∧ TT ∧ LDK false 1 H x2 fun x3 =>
 LENK v0 fun x4 =>
 ACalls Try.prog 58 [x4, x3] H fun x5 H6 =>
 ACalls Try.prog 71 [v0, x5] H6 fun x7 H8 =>
 BINK .add v9 (AVal.int .i64 1) fun x9 =>
 impl_flipped.L2 Q x7 v7 v8 x9 H8) (Q v0 H)
theorem step2_eq (Q : AVal → Heap → Prop) (v0 v7 v8 v9 : AVal) (H : Heap) : vs Try.prog lv 52 21 Try.f52.results.toList Q true 1000 (.sq (cB (cB (cR (cL (cR (bodyOf Try.f52)))))) :: K2) (slotsOf [(0, v0), (7, v7), (8, v8), (9, v9)]) H = step2_vc Q v0 v7 v8 v9 H := by kernel_rfl
theorem step2 {Q : AVal → Heap → Prop} {v0 v7 v8 v9 : AVal} {H : Heap} (h : step2_vc Q v0 v7 v8 v9 H) : L2 Q v0 v7 v8 v9 H := at_lp_vs (lv := lv) (ks := K2.tail) mixed Try.func52 (step2_eq Q v0 v7 v8 v9 H ▸ h)
end impl_flipped

/-! impl.FlipColour (slots: 0 m, 1 colour, 2 m, 3 colour) -/
namespace impl_FlipColour
def lv : List (Nat × List Nat) := []
def start_vc (Q : AVal → Heap → Prop) (a0 a1 : AVal) (H : Heap) : Prop :=
 ACalls Try.prog 40 [a0] H fun x1 H2 =>
 NOTK x1 fun x3 =>
 SPL x3 (Q (AVal.tup [AVal.nilS, (AVal.bool false)]) H2) (ACalls Try.prog 51 [a1] H2 fun x4 H5 =>
 NOTK x4 fun x6 =>
 BRK x6 (Q (AVal.tup [AVal.nilS, (AVal.bool false)]) H5) (TT ∧ TT ∧ TT ∧ BSK 1 [a1] H5 fun x7 H8 =>
 ACalls Try.prog 52 [a0, x7] H8 fun x9 H10 =>
 Q (AVal.tup [x9, (AVal.bool true)]) H10))
theorem start_eq (Q : AVal → Heap → Prop) (a0 a1 : AVal) (H : Heap) : vs Try.prog lv 8 18 Try.f8.results.toList Q true 1000 [.sq (bodyOf Try.f8)] (entry [a0, a1]) H = start_vc Q a0 a1 H := by kernel_rfl
theorem start {Q : AVal → Heap → Prop} {a0 a1 : AVal} {H : Heap} (h : start_vc Q a0 a1 H) : ACalls Try.prog 8 [a0, a1] H Q := acalls_vs (lv := lv) mixed Try.func8 rfl (by kernel_rfl) (by kernel_rfl) (start_eq Q a0 a1 H ▸ h)
end impl_FlipColour

/-! impl.ToggleCells (slots: 0 m, 1 cells, 2 m, 3 cells) -/
namespace impl_ToggleCells
def lv : List (Nat × List Nat) := []
def start_vc (Q : AVal → Heap → Prop) (a0 a1 : AVal) (H : Heap) : Prop :=
 ACalls Try.prog 40 [a0] H fun x1 H2 =>
 NOTK x1 fun x3 =>
 SPL x3 (Q (AVal.tup [AVal.nilS, (AVal.bool false)]) H2) (LENK a0 fun x4 =>
 ACalls Try.prog 66 [x4, a1] H2 fun x5 H6 =>
 NOTK x5 fun x7 =>
 BRK x7 (Q (AVal.tup [AVal.nilS, (AVal.bool false)]) H6) (ACalls Try.prog 71 [a0, a1] H6 fun x8 H9 =>
 Q (AVal.tup [x8, (AVal.bool true)]) H9))
theorem start_eq (Q : AVal → Heap → Prop) (a0 a1 : AVal) (H : Heap) : vs Try.prog lv 16 19 Try.f16.results.toList Q true 1000 [.sq (bodyOf Try.f16)] (entry [a0, a1]) H = start_vc Q a0 a1 H := by kernel_rfl
theorem start {Q : AVal → Heap → Prop} {a0 a1 : AVal} {H : Heap} (h : start_vc Q a0 a1 H) : ACalls Try.prog 16 [a0, a1] H Q := acalls_vs (lv := lv) mixed Try.func16 rfl (by kernel_rfl) (by kernel_rfl) (start_eq Q a0 a1 H ▸ h)
end impl_ToggleCells

/-! impl.RowWave (slots: 0 m, 1 m) -/
namespace impl_RowWave
def lv : List (Nat × List Nat) := []
def start_vc (Q : AVal → Heap → Prop) (a0 : AVal) (H : Heap) : Prop :=
 ACalls Try.prog 76 [a0, (AVal.fn 77 [] [])] H fun x1 H2 =>
 EXTK x1 0 fun x3 =>
 EXTK x1 1 fun x4 =>
 Q (AVal.tup [x3, x4]) H2
theorem start_eq (Q : AVal → Heap → Prop) (a0 : AVal) (H : Heap) : vs Try.prog lv 19 8 Try.f19.results.toList Q true 1000 [.sq (bodyOf Try.f19)] (entry [a0]) H = start_vc Q a0 H := by kernel_rfl
theorem start {Q : AVal → Heap → Prop} {a0 : AVal} {H : Heap} (h : start_vc Q a0 H) : ACalls Try.prog 19 [a0] H Q := acalls_vs (lv := lv) mixed Try.func19 rfl (by kernel_rfl) (by kernel_rfl) (start_eq Q a0 H ▸ h)
end impl_RowWave

/-! impl.RowWave$1 (slots: 0 m, 1 m) -/
namespace impl_RowWave_1
def lv : List (Nat × List Nat) := []
def start_vc (Q : AVal → Heap → Prop) (a0 : AVal) (H : Heap) : Prop :=
 LENK a0 fun x1 =>
 ACalls Try.prog 78 [x1, (AVal.fn 79 [] [])] H fun x2 H3 =>
 ACalls Try.prog 71 [a0, x2] H3 fun x4 H5 =>
 Q x4 H5
theorem start_eq (Q : AVal → Heap → Prop) (a0 : AVal) (H : Heap) : vs Try.prog lv 77 8 Try.f77.results.toList Q true 1000 [.sq (bodyOf Try.f77)] (entry [a0]) H = start_vc Q a0 H := by kernel_rfl
theorem start {Q : AVal → Heap → Prop} {a0 : AVal} {H : Heap} (h : start_vc Q a0 H) : ACalls Try.prog 77 [a0] H Q := acalls_vs (lv := lv) mixed Try.func77 rfl (by kernel_rfl) (by kernel_rfl) (start_eq Q a0 H ▸ h)
end impl_RowWave_1

/-! impl.RowWave$1$1 (slots: ) -/
namespace impl_RowWave_1_1
def lv : List (Nat × List Nat) := []
def start_vc (Q : AVal → Heap → Prop) (a0 a1 : AVal) (H : Heap) : Prop :=
 Q (AVal.bool true) H
theorem start_eq (Q : AVal → Heap → Prop) (a0 a1 : AVal) (H : Heap) : vs Try.prog lv 79 5 Try.f79.results.toList Q true 1000 [.sq (bodyOf Try.f79)] (entry [a0, a1]) H = start_vc Q a0 a1 H := by kernel_rfl
theorem start {Q : AVal → Heap → Prop} {a0 a1 : AVal} {H : Heap} (h : start_vc Q a0 a1 H) : ACalls Try.prog 79 [a0, a1] H Q := acalls_vs (lv := lv) mixed Try.func79 rfl (by kernel_rfl) (by kernel_rfl) (start_eq Q a0 a1 H ▸ h)
end impl_RowWave_1_1


theorem cells_lit {n : Nat} {L : List (List Int)} (h : Cells n L) {c : List Int} (hc : c ∈ L) : ∃ i j : Nat, c = [(i : Int), (j : Int)] ∧ 1 ≤ i ∧ i < n ∧ 1 ≤ j ∧ j < n := h c hc
section
variable {n : Nat} {L : List (List Int)} {vp : AVal} {H0 : Heap} {T : List (List Int)}
theorem toggled_loop (hp : IsTab vp L) (hL : L.length ≤ 1000000) (hcs : Cells n L) {k g : Nat} {rows : List AVal} {ks : List Nat} : ∀ (cnt x : Nat) (m : List (List Int)) (H : Heap), x + cnt = L.length → Good n m → OTab H0.length H k g rows ks (heightsF m) → Grow H0 H → togs m (L.drop x) = T →
    impl_toggled.L3 (fun r H' => IsTab r T ∧ H' = H0) (.own k g 1 0 (n + 1)) vp (I L.length) (I x) H := by
  intro cnt
  induction cnt with
  | zero =>
    intro x m H hx G ho hG he
    have hl : (heightsF m).length = n + 1 := by rw [heights_len, G.len]
    rw [List.drop_eq_nil_of_le (by omega)] at he
    subst he
    apply impl_toggled.step3
    unfold impl_toggled.step3_vc
    repeat' (with_reducible first
 | refine rTT ?_
 | refine rRFL ?_
 | refine rLEN (by assumption) ?_
 | (refine rIXk (by assumption) (by assumption) ?_; intro p hp)
 | (refine rIX (by assumption) (by omega) (by omega) ?_; intro p a ha hp)
 | refine rLDi (by assumption) ?_
 | (refine rLD (by assumption) ?_; intro c hc)
 | refine rADD (by omega) ?_
 | refine rSUB (by omega) ?_
 | refine rLSS ?_
 | refine rLEQ ?_
 | refine rGTR ?_
 | refine rGEQ ?_
 | refine rEQL ?_
 | refine rNEQ ?_
 | refine rNOT ?_
 | (refine rBRK ?_ ?_ <;> intro hb)
 | (refine rBRKn ?_ ?_ <;> intro hb)
 | (refine rBRKnb ?_ ?_ <;> intro hb)
 | (refine rBRKb ?_ ?_ <;> intro hb)
 | (refine rSPL ?_ ?_ <;> intro hb)
 | (refine rSPLn ?_ ?_ <;> intro hb)
 | (refine rSPLnb ?_ ?_ <;> intro hb)
 | (refine rSPLb ?_ ?_ <;> intro hb)
 | (exfalso; omega))
    rw [← hl]
    exact fol_end G ho hG
  | succ cnt ih =>
    intro x m H hx G ho hG he
    have hl : (heightsF m).length = n + 1 := by rw [heights_len, G.len]
    have h6 := G.n6
    obtain ⟨cl, hcx⟩ := ex_get (l := L) (k := x) (by omega)
    rw [drop_some hcx] at he
    obtain ⟨i, j, rfl, i1, i2, j1, j2⟩ := hcs cl (getElem_mem' hcx)
    have q0 : [(i : Int), (j : Int)][0]? = some (i : Int) := rfl
    have q1 : [(i : Int), (j : Int)][1]? = some (j : Int) := rfl
    have hO : IsOTab H0.length H (.own k g 1 0 (n + 1)) (heightsF m) := by rw [← hl]; exact ho.is rfl
    obtain ⟨row, hrow⟩ := ex_get (l := heightsF m) (k := i) (by omega)
    have hrl : row.length = n + 1 := by rw [heights_sq (getElem_mem' hrow), G.len]
    obtain ⟨y, hy⟩ := ex_get (l := row) (k := j) (by omega)
    obtain ⟨kj, gj, g1, g2, g3, g4, g5⟩ := ho.get hrow
    rw [hrl] at g2
    have hy' : (row.map I)[j]? = some (I y) := by rw [List.getElem?_map, hy]; rfl
    have ht := ho.top
    have hb2 := ht_bound G (i := i) (j := j) (by omega) (by omega)
    rw [getM_at hrow hy] at hb2
    have hwc := way_cases (heightsF m) i j
    apply impl_toggled.step3
    unfold impl_toggled.step3_vc
    repeat' (first
 | ((refine rIXqi (i := 0) (by assumption) q0 ?_; intro cs o hc))
 | ((refine rIXqi (i := 1) (by assumption) q1 ?_; intro cs o hc))
 | with_reducible first
 | refine rTT ?_
 | refine rRFL ?_
 | refine rLEN (by assumption) ?_
 | refine rLENo ?_
 | refine rEXT0 ?_
 | refine rEXT1 ?_
 | refine rNEB ?_
 | refine rEQB ?_
 | refine rLDp (by assumption) ?_
 | refine rLDf (by assumption) (by assumption) ?_
 | refine rIXo (by omega) ?_
 | (refine rIXqi (by assumption) (by assumption) ?_; intro cs o hc)
 | (refine rIXq (by assumption) (by assumption) ?_; intro cs o c hc hr)
 | refine rLDq (by assumption) ?_
 | refine ⟨rTT (rTT (rLDq (by assumption) rfl)), ?_⟩
 | refine ⟨rTT (rTT (rLDp (by assumption) rfl)), ?_⟩
 | refine ⟨rTT (rTT (rLDf (by assumption) (by assumption) rfl)), ?_⟩
 | (refine rIXk (by assumption) (by assumption) ?_; intro p hp)
 | (refine rIX (by assumption) (by omega) (by omega) ?_; intro p a ha hp)
 | refine rLDi (by assumption) ?_
 | (refine rLD (by assumption) ?_; intro c hc)
 | refine rADD (by omega) ?_
 | refine rSUB (by omega) ?_
 | refine rLSS ?_
 | refine rLEQ ?_
 | refine rGTR ?_
 | refine rGEQ ?_
 | refine rEQL ?_
 | refine rNEQ ?_
 | refine rNOT ?_
 | (refine rBRK ?_ ?_ <;> intro hb)
 | (refine rBRKn ?_ ?_ <;> intro hb)
 | (refine rBRKnb ?_ ?_ <;> intro hb)
 | (refine rBRKb ?_ ?_ <;> intro hb)
 | (refine rSPL ?_ ?_ <;> intro hb)
 | (refine rSPLn ?_ ?_ <;> intro hb)
 | (refine rSPLnb ?_ ?_ <;> intro hb)
 | (refine rSPLb ?_ ?_ <;> intro hb)
 | (exfalso; omega))
    refine ACalls.mono (way_own hO hl (fun r hr => by rw [heights_sq hr, G.len]) i1 (by omega) j1 (by omega) (by omega)) ?_
    rintro r H1 ⟨rfl, rfl⟩
    rw [way_eq G i1 i2 j1 j2]
    repeat' (with_reducible first
 | refine rTT ?_
 | refine rRFL ?_
 | refine rLEN (by assumption) ?_
 | refine rLENo ?_
 | refine rEXT0 ?_
 | refine rEXT1 ?_
 | refine rNEB ?_
 | refine rEQB ?_
 | refine rLDp (by assumption) ?_
 | refine rLDf (by assumption) (by assumption) ?_
 | refine rIXo (by omega) ?_
 | (refine rIXqi (by assumption) (by assumption) ?_; intro cs o hc)
 | (refine rIXq (by assumption) (by assumption) ?_; intro cs o c hc hr)
 | refine rLDq (by assumption) ?_
 | refine ⟨rTT (rTT (rLDq (by assumption) rfl)), ?_⟩
 | refine ⟨rTT (rTT (rLDp (by assumption) rfl)), ?_⟩
 | refine ⟨rTT (rTT (rLDf (by assumption) (by assumption) rfl)), ?_⟩
 | (refine rIXk (by assumption) (by assumption) ?_; intro p hp)
 | (refine rIX (by assumption) (by omega) (by omega) ?_; intro p a ha hp)
 | refine rLDi (by assumption) ?_
 | (refine rLD (by assumption) ?_; intro c hc)
 | refine rADD (by omega) ?_
 | refine rSUB (by omega) ?_
 | refine rLSS ?_
 | refine rLEQ ?_
 | refine rGTR ?_
 | refine rGEQ ?_
 | refine rEQL ?_
 | refine rNEQ ?_
 | refine rNOT ?_
 | (refine rBRK ?_ ?_ <;> intro hb)
 | (refine rBRKn ?_ ?_ <;> intro hb)
 | (refine rBRKnb ?_ ?_ <;> intro hb)
 | (refine rBRKb ?_ ?_ <;> intro hb)
 | (refine rSPL ?_ ?_ <;> intro hb)
 | (refine rSPLn ?_ ?_ <;> intro hb)
 | (refine rSPLnb ?_ ?_ <;> intro hb)
 | (refine rSPLb ?_ ?_ <;> intro hb)
 | (exfalso; omega))
    refine rSTp g3 (by simp; omega) rfl ?_
    repeat' (with_reducible first
 | refine rTT ?_
 | refine rRFL ?_
 | refine rLEN (by assumption) ?_
 | (refine rIXk (by assumption) (by assumption) ?_; intro p hp)
 | (refine rIX (by assumption) (by omega) (by omega) ?_; intro p a ha hp)
 | refine rLDi (by assumption) ?_
 | (refine rLD (by assumption) ?_; intro c hc)
 | refine rADD (by omega) ?_
 | refine rSUB (by omega) ?_
 | refine rLSS ?_
 | refine rLEQ ?_
 | refine rGTR ?_
 | refine rGEQ ?_
 | refine rEQL ?_
 | refine rNEQ ?_
 | refine rNOT ?_
 | (refine rBRK ?_ ?_ <;> intro hb)
 | (refine rBRKn ?_ ?_ <;> intro hb)
 | (refine rBRKnb ?_ ?_ <;> intro hb)
 | (refine rBRKb ?_ ?_ <;> intro hb)
 | (refine rSPL ?_ ?_ <;> intro hb)
 | (refine rSPLn ?_ ?_ <;> intro hb)
 | (refine rSPLnb ?_ ?_ <;> intro hb)
 | (refine rSPLb ?_ ?_ <;> intro hb)
 | (exfalso; omega))
    have hset1 : ∀ w, (row.map I).set j (I w) = (row.set j w).map I := fun w => by rw [List.map_set]
    rw [hset1]
    have ho2 := ho.put hrow g1 g3 (r' := row.set j (y + 2 * heWayF (heightsF m) i j)) (by simp)
    rw [up_set G (by omega) (by omega) hrow hy, tog_ht G i1 i2 j1 j2] at ho2
    exact ih (x + 1) _ _ (by omega) (tog_good G i1 i2 j1 j2) ho2 (hG.set g4 _ _) he
theorem toggled_ok {m : List (List Int)} {v : AVal} (G : Good n m) (hv : IsTab v m) (hp : IsTab vp L) (hL : L.length ≤ 1000000) (hcs : Cells n L) : ACalls Try.prog 71 [v, vp] H0 fun r H' => IsTab r (togs m L) ∧ H' = H0 := by
  have h6 := G.n6
  have hl := G.len
  apply impl_toggled.start
  unfold impl_toggled.start_vc
  refine ACalls.mono (heightsO_ok hv (by omega) (goodB_sq (goodB_of G))) ?_
  rintro r3 H3 ⟨h3, hG⟩
  refine rLEN hp ?_
  have hlen := heights_len m
  rcases h3 with ⟨rfl, ht⟩ | ⟨k, g, rows, ks, rfl, ho⟩
  · rw [ht] at hlen; simp at hlen
  · rw [hlen, hl]
    exact toggled_loop hp hL hcs L.length 0 m H3 (by omega) G ho hG rfl
end

section
variable {H : Heap}
theorem coloured_ok {n : Nat} {col : Int} (hn : n ≤ 1000) (h1 : 1 ≤ n) : ACalls Try.prog 58 [I n, I col] H fun r H' => IsTab r (colCells n col) ∧ H' = H := by
  apply ACalls.sub
  apply impl_coloured.start
  unfold impl_coloured.start_vc
  refine rBOX rfl fun g => ?_
  refine ACalls.mono (cellsP_ok (p := colP col) hn h1 (fun i j a1 a2 b1 b2 H3 hs => rCALL ?_)) ?_
  · show ACalls Try.prog 111 [I i, I j, .ptr H.length g 0] _ _
    have q1 := hs _ _ _ (hget_new H g [I col])
    apply impl_coloured_1.start
    unfold impl_coloured_1.start_vc
    refine rADD (by constructor <;> omega) (rREM (by decide) (rTT (rTT (rLDp q1 (rEQL ⟨rfl, rfl⟩)))))
  · rintro r H1 ⟨h2, rfl⟩
    exact ⟨H, hsub_new _ _ _, h2, rfl⟩
theorem colCells_len {n : Nat} {col : Int} (hn : n ≤ 7) : (colCells n col).length ≤ 49 := by
  have h0 := cells_len (colP col) (n - 1)
  have h1 : n - 1 ≤ 7 := by omega
  have h2 := Nat.mul_le_mul h1 h1
  unfold colCells; omega
theorem flipped_loop {n : Nat} {cols : List Int} {vc : AVal} (hc : IsInts vc cols) (hcl : cols.length ≤ 1000) {T : List (List Int)} : ∀ (cnt x : Nat) (m : List (List Int)) (v : AVal), x + cnt = cols.length → Good n m → IsTab v m → (cols.drop x).foldl flipCol m = T →
    impl_flipped.L2 (fun r H' => IsTab r T ∧ H' = H) v vc (I cols.length) (I x) H := by
  intro cnt
  induction cnt with
  | zero =>
    intro x m v hx G hv he
    rw [List.drop_eq_nil_of_le (by omega)] at he
    apply impl_flipped.step2
    unfold impl_flipped.step2_vc
    repeat' (with_reducible first
 | refine rTT ?_
 | refine rRFL ?_
 | refine rLEN (by assumption) ?_
 | (refine rIXk (by assumption) (by assumption) ?_; intro p hp)
 | (refine rIX (by assumption) (by omega) (by omega) ?_; intro p a ha hp)
 | refine rLDi (by assumption) ?_
 | (refine rLD (by assumption) ?_; intro c hc)
 | refine rADD (by omega) ?_
 | refine rSUB (by omega) ?_
 | refine rLSS ?_
 | refine rLEQ ?_
 | refine rGTR ?_
 | refine rGEQ ?_
 | refine rEQL ?_
 | refine rNEQ ?_
 | refine rNOT ?_
 | (refine rBRK ?_ ?_ <;> intro hb)
 | (refine rBRKn ?_ ?_ <;> intro hb)
 | (refine rBRKnb ?_ ?_ <;> intro hb)
 | (refine rBRKb ?_ ?_ <;> intro hb)
 | (refine rSPL ?_ ?_ <;> intro hb)
 | (refine rSPLn ?_ ?_ <;> intro hb)
 | (refine rSPLnb ?_ ?_ <;> intro hb)
 | (refine rSPLb ?_ ?_ <;> intro hb)
 | (exfalso; omega))
    subst he
    exact ⟨hv, rfl⟩
  | succ cnt ih =>
    intro x m v hx G hv he
    have h6 := G.n6
    have hl := G.len
    obtain ⟨col, hcx⟩ := ex_get (l := cols) (k := x) (by omega)
    rw [drop_some hcx] at he
    apply impl_flipped.step2
    unfold impl_flipped.step2_vc
    repeat' (with_reducible first
 | refine rTT ?_
 | refine rRFL ?_
 | refine rLEN (by assumption) ?_
 | (refine rIXk (by assumption) (by assumption) ?_; intro p hp)
 | (refine rIX (by assumption) (by omega) (by omega) ?_; intro p a ha hp)
 | refine rLDi (by assumption) ?_
 | (refine rLD (by assumption) ?_; intro c hc)
 | refine rADD (by omega) ?_
 | refine rSUB (by omega) ?_
 | refine rLSS ?_
 | refine rLEQ ?_
 | refine rGTR ?_
 | refine rGEQ ?_
 | refine rEQL ?_
 | refine rNEQ ?_
 | refine rNOT ?_
 | (refine rBRK ?_ ?_ <;> intro hb)
 | (refine rBRKn ?_ ?_ <;> intro hb)
 | (refine rBRKnb ?_ ?_ <;> intro hb)
 | (refine rBRKb ?_ ?_ <;> intro hb)
 | (refine rSPL ?_ ?_ <;> intro hb)
 | (refine rSPLn ?_ ?_ <;> intro hb)
 | (refine rSPLnb ?_ ?_ <;> intro hb)
 | (refine rSPLb ?_ ?_ <;> intro hb)
 | (exfalso; omega))
    rw [hl]
    refine ACalls.mono (coloured_ok (by omega) G.n1) ?_
    rintro r2 H2 ⟨h2, rfl⟩
    refine ACalls.mono (toggled_ok G hv h2 (by have := colCells_len (n := n) (col := col) (by omega); omega) (cells_Cells G.n1 _)) ?_
    rintro r3 H3 ⟨h3, rfl⟩
    repeat' (with_reducible first
 | refine rTT ?_
 | refine rRFL ?_
 | refine rLEN (by assumption) ?_
 | (refine rIXk (by assumption) (by assumption) ?_; intro p hp)
 | (refine rIX (by assumption) (by omega) (by omega) ?_; intro p a ha hp)
 | refine rLDi (by assumption) ?_
 | (refine rLD (by assumption) ?_; intro c hc)
 | refine rADD (by omega) ?_
 | refine rSUB (by omega) ?_
 | refine rLSS ?_
 | refine rLEQ ?_
 | refine rGTR ?_
 | refine rGEQ ?_
 | refine rEQL ?_
 | refine rNEQ ?_
 | refine rNOT ?_
 | (refine rBRK ?_ ?_ <;> intro hb)
 | (refine rBRKn ?_ ?_ <;> intro hb)
 | (refine rBRKnb ?_ ?_ <;> intro hb)
 | (refine rBRKb ?_ ?_ <;> intro hb)
 | (refine rSPL ?_ ?_ <;> intro hb)
 | (refine rSPLn ?_ ?_ <;> intro hb)
 | (refine rSPLnb ?_ ?_ <;> intro hb)
 | (refine rSPLb ?_ ?_ <;> intro hb)
 | (exfalso; omega))
    have e : togs m (colCells n col) = flipCol m col := by unfold flipCol; rw [hl]
    rw [e] at h3
    exact ih (x + 1) _ _ (by omega) (flipCol_good G col) h3 he
theorem flipped_ok {n : Nat} {cols : List Int} {m : List (List Int)} {v vc : AVal} (G : Good n m) (hv : IsTab v m) (hc : IsInts vc cols) (hcl : cols.length ≤ 1000) : ACalls Try.prog 52 [v, vc] H fun r H' => IsTab r (cols.foldl flipCol m) ∧ H' = H := by
  apply impl_flipped.start
  unfold impl_flipped.start_vc
  refine rLEN hc ?_
  exact flipped_loop hc hcl cols.length 0 m v (by omega) G hv rfl
theorem isColour_ok {x : Int} : ACalls Try.prog 51 [I x] H fun r H' => r = .bool (decide (0 ≤ x ∧ x ≤ 1)) ∧ H' = H := by
  apply impl_isColour.start
  unfold impl_isColour.start_vc
  exact within_ok
def colB (m : List (List Int)) (col : Int) : Bool := goodB m && decide (0 ≤ col ∧ col ≤ 1)
theorem flipColour_ok {m : List (List Int)} {v : AVal} {col : Int} (hv : IsTab v m) (hl : m.length ≤ 100000) : ACalls Try.prog 8 [v, I col] H fun r H' => TabOk (colB m col) (flipCol m col) r ∧ H' = H := by
  apply impl_FlipColour.start
  unfold impl_FlipColour.start_vc
  refine ACalls.mono (isSign_ok hv (by omega)) ?_
  rintro r H1 ⟨rfl, rfl⟩
  refine rNOT (rSPLnb (fun hb => ?_) (fun hb => ?_))
  · unfold colB; rw [hb]; exact ⟨tabOk_no, rfl⟩
  · refine ACalls.mono isColour_ok ?_
    rintro r H2 ⟨rfl, rfl⟩
    refine rNOT (rBRKn (fun hc => ?_) (fun hc => ?_))
    · unfold colB; rw [hb, decide_eq_false hc]; exact ⟨tabOk_no, rfl⟩
    · refine rTT (rTT (rTT (rLITn (rLITc rfl (rLITe ?_)))))
      refine ACalls.mono (flipped_ok (goodB_iff.1 hb) hv (isI_list [col] true) (by simp)) ?_
      rintro r3 H3 ⟨h3, rfl⟩
      unfold colB; rw [hb, decide_eq_true hc]
      exact ⟨⟨_, rfl, h3⟩, rfl⟩
def toggleB (m L : List (List Int)) : Bool := goodB m && (decide (L.length ≤ 200) && L.all (isCellB m.length))
theorem all_Cells {n : Nat} {L : List (List Int)} (h : L.all (isCellB n) = true) : Cells n L := fun c hc => isCell_iff (List.all_eq_true.1 h c hc)
theorem toggleCells_ok {m L : List (List Int)} {v vp : AVal} (hv : IsTab v m) (hp : IsTab vp L) (hl : m.length ≤ 100000) (hL : L.length ≤ 1000000) (hr : ∀ c ∈ L, c.length ≤ 1000000) : ACalls Try.prog 16 [v, vp] H fun r H' => TabOk (toggleB m L) (togs m L) r ∧ H' = H := by
  apply impl_ToggleCells.start
  unfold impl_ToggleCells.start_vc
  refine ACalls.mono (isSign_ok hv (by omega)) ?_
  rintro r H1 ⟨rfl, rfl⟩
  refine rNOT (rSPLnb (fun hb => ?_) (fun hb => ?_))
  · unfold toggleB; rw [hb]; exact ⟨tabOk_no, rfl⟩
  · refine rLEN hv ?_
    refine ACalls.mono (areCells_ok hp hL hr (by omega)) ?_
    rintro r H2 ⟨rfl, rfl⟩
    refine rNOT (rBRKnb (fun hc => ?_) (fun hc => ?_))
    · unfold toggleB; rw [hb, hc]; exact ⟨tabOk_no, rfl⟩
    · have hc' := hc
      simp only [Bool.and_eq_true] at hc'
      refine ACalls.mono (toggled_ok (goodB_iff.1 hb) hv hp hL (all_Cells hc'.2)) ?_
      rintro r3 H3 ⟨h3, rfl⟩
      unfold toggleB; rw [hb, hc]
      exact ⟨⟨_, rfl, h3⟩, rfl⟩
def allCells' (n : Nat) : List (List Int) := cellsF (fun _ _ => true) (n - 1)
theorem cells_len7 {p : Nat → Nat → Bool} {n : Nat} (hn : n ≤ 7) : (cellsF p (n - 1)).length ≤ 49 := by
  have h0 := cells_len p (n - 1)
  have h1 : n - 1 ≤ 7 := by omega
  have h2 := Nat.mul_le_mul h1 h1
  omega
theorem rowWave_ok {m : List (List Int)} {v : AVal} (hv : IsTab v m) (hl : m.length ≤ 100000) : ACalls Try.prog 19 [v] H fun r H' => TabOk (goodB m) (togs m (allCells' m.length)) r ∧ H' = H := by
  apply impl_RowWave.start
  unfold impl_RowWave.start_vc
  apply impl_changed.start
  unfold impl_changed.start_vc
  refine ACalls.mono (isSign_ok hv (by omega)) ?_
  rintro r H1 ⟨rfl, rfl⟩
  refine rNOT (rBRKnb (fun hb => ?_) (fun hb => ?_))
  · exact rEXT0 (rEXT1 ⟨by rw [hb]; exact tabOk_no, rfl⟩)
  · have G := goodB_iff.1 hb
    have h6 := G.n6
    refine rCALL ?_
    show ACalls Try.prog 77 [v] _ _
    apply impl_RowWave_1.start
    unfold impl_RowWave_1.start_vc
    refine rLEN hv ?_
    refine ACalls.mono (cellsP_ok (p := fun _ _ => true) (by omega) G.n1 (fun i j a1 a2 b1 b2 H3 hs => rCALL ?_)) ?_
    · show ACalls Try.prog 79 [I i, I j] _ _
      apply impl_RowWave_1_1.start
      unfold impl_RowWave_1_1.start_vc
      exact ⟨rfl, rfl⟩
    · rintro r2 H2 ⟨h2, rfl⟩
      refine ACalls.mono (toggled_ok G hv h2 (by have := cells_len7 (p := fun _ _ => true) (n := m.length) (by omega); omega) (cells_Cells G.n1 _)) ?_
      rintro r3 H3 ⟨h3, rfl⟩
      exact rEXT0 (rEXT1 ⟨by rw [hb]; exact ⟨_, rfl, h3⟩, rfl⟩)
end

end Go.Proofs.Ytccioplhchmilaa.AL

set_option linter.unusedVariables false
set_option maxRecDepth 100000
namespace Go.Proofs.Ytccioplhchmilaa.AL
open Go Go.Proofs

/-! slices.DeleteFunc[[][]int,[]int] (slots: 0 s, 1 del, 2 s, 3 del, 5 i, 6 j, 7 v) -/
namespace slices_DeleteFunc_T2_T1
def lv : List (Nat × List Nat) := [(5, [0, 1, 5, 6])]
noncomputable def K5 : List KF := [.lp (cB (cB (cR (cL (cR (cR (cR (bodyOf Try.f57)))))))), .bl 0, .sq (cR (cR (cR (cR (bodyOf Try.f57)))))]
def L5 (Q : AVal → Heap → Prop) (v0 v1 v5 v6 : AVal) (H : Heap) : Prop := At Try.prog 57 42 K5 Q (slotsOf [(0, v0), (1, v1), (5, v5), (6, v6)]) H
theorem L5_frz {Q : AVal → Heap → Prop} {v0 v1 v5 v6 w0 w1 w5 w6 : AVal} {H Hf Hk : Heap} {k : Nat} (hs : Split H Hf Hk) (hp : PurL Hf k [(0, v0, w0), (1, v1, w1), (5, v5, w5), (6, v6, w6)]) (h : L5 Q w0 w1 w5 w6 Hk) : L5 Q v0 v1 v5 v6 H := at_frz (ks := K5) hs hp h
def start_vc (Q : AVal → Heap → Prop) (a0 a1 : AVal) (H : Heap) : Prop :=
 ACalls Try.prog 110 [a0, a1] H fun x1 H2 =>
 BINK .eql x1 (AVal.int .i64 (-1)) fun x3 =>
 BRK x3 (Q a0 H2) (BINK .add x1 (AVal.int .i64 1) fun x4 =>
 slices_DeleteFunc_T2_T1.L5 Q a0 a1 x1 x4 H2)
theorem start_eq (Q : AVal → Heap → Prop) (a0 a1 : AVal) (H : Heap) : vs Try.prog lv 57 42 Try.f57.results.toList Q true 1000 [.sq (bodyOf Try.f57)] (entry [a0, a1]) H = start_vc Q a0 a1 H := by kernel_rfl
theorem start {Q : AVal → Heap → Prop} {a0 a1 : AVal} {H : Heap} (h : start_vc Q a0 a1 H) : ACalls Try.prog 57 [a0, a1] H Q := acalls_vs (lv := lv) mixed Try.func57 rfl (by kernel_rfl) (by kernel_rfl) (start_eq Q a0 a1 H ▸ h)
def step5_vc (Q : AVal → Heap → Prop) (v0 v1 v5 v6 : AVal) (H : Heap) : Prop :=
 LENK v0 fun x1 =>
 BINK .lss v6 x1 fun x2 =>
 BRK x2 (TT ∧ IXK 1 v0 v6 fun x3 =>
 TT ∧ TT ∧ LDK false 1 H x3 fun x4 =>
 CALLK Try.prog v1 [x4] H fun x5 H6 =>
 NOTK x5 fun x7 =>
 BRK x7 (TT ∧ IXK 1 v0 v5 fun x8 =>
 TT ∧ STK 1 H6 x8 x4 fun H9 =>
 BINK .add v5 (AVal.int .i64 1) fun x10 =>
 BINK .add v6 (AVal.int .i64 1) fun x11 =>
 slices_DeleteFunc_T2_T1.L5 Q v0 v1 x10 x11 H9) (BINK .add v6 (AVal.int .i64 1) fun x12 =>
 slices_DeleteFunc_T2_T1.L5 Q v0 v1 v5 x12 H6)) (TT ∧ TT ∧ SLK 1 v0 (some v5) none none fun x13 =>
 TT ∧ CLRK 1 AVal.nilS H x13 fun x14 H15 =>
 TT ∧ TT ∧ SLK 1 v0 none (some v5) none fun x16 =>
 Q x16 H15)
theorem step5_eq (Q : AVal → Heap → Prop) (v0 v1 v5 v6 : AVal) (H : Heap) : vs Try.prog lv 57 42 Try.f57.results.toList Q true 1000 (.sq (cB (cB (cR (cL (cR (cR (cR (bodyOf Try.f57)))))))) :: K5) (slotsOf [(0, v0), (1, v1), (5, v5), (6, v6)]) H = step5_vc Q v0 v1 v5 v6 H := by kernel_rfl
theorem step5 {Q : AVal → Heap → Prop} {v0 v1 v5 v6 : AVal} {H : Heap} (h : step5_vc Q v0 v1 v5 v6 H) : L5 Q v0 v1 v5 v6 H := at_lp_vs (lv := lv) (ks := K5.tail) mixed Try.func57 (step5_eq Q v0 v1 v5 v6 H ▸ h)
end slices_DeleteFunc_T2_T1

/-! impl.FlippedCells (slots: 0 m, 1 colour, 2 m, 3 colour, 6 h) -/
namespace impl_FlippedCells
def lv : List (Nat × List Nat) := []
def start_vc (Q : AVal → Heap → Prop) (a0 a1 : AVal) (H : Heap) : Prop :=
 ACalls Try.prog 40 [a0] H fun x1 H2 =>
 NOTK x1 fun x3 =>
 SPL x3 (Q (AVal.tup [AVal.nilS, (AVal.bool false)]) H2) (ACalls Try.prog 51 [a1] H2 fun x4 H5 =>
 NOTK x4 fun x6 =>
 BRK x6 (Q (AVal.tup [AVal.nilS, (AVal.bool false)]) H5) (ACalls Try.prog 56 [a0] H5 fun x7 H8 =>
 TT ∧ BOXK AVal.nilS H8 fun x9 H10 =>
 TT ∧ STK 1 H10 x9 x7 fun H11 =>
 LENK a0 fun x12 =>
 ACalls Try.prog 58 [x12, a1] H11 fun x13 H14 =>
 ACalls Try.prog 57 [x13, (AVal.fn 59 [] [x9])] H14 fun x15 H16 =>
 Q (AVal.tup [x15, (AVal.bool true)]) H16))
theorem start_eq (Q : AVal → Heap → Prop) (a0 a1 : AVal) (H : Heap) : vs Try.prog lv 10 23 Try.f10.results.toList Q true 1000 [.sq (bodyOf Try.f10)] (entry [a0, a1]) H = start_vc Q a0 a1 H := by kernel_rfl
theorem start {Q : AVal → Heap → Prop} {a0 a1 : AVal} {H : Heap} (h : start_vc Q a0 a1 H) : ACalls Try.prog 10 [a0, a1] H Q := acalls_vs (lv := lv) mixed Try.func10 rfl (by kernel_rfl) (by kernel_rfl) (start_eq Q a0 a1 H ▸ h)
end impl_FlippedCells

/-! impl.FlippedCells$1 (slots: 0 c, 2 c) -/
namespace impl_FlippedCells_1
def lv : List (Nat × List Nat) := []
def start_vc (Q : AVal → Heap → Prop) (a0 a1 : AVal) (H : Heap) : Prop :=
 TT ∧ TT ∧ TT ∧ LDK false 1 H a1 fun x1 =>
 TT ∧ IXK 1 a0 (AVal.int .i64 0) fun x2 =>
 TT ∧ TT ∧ LDK false 1 H x2 fun x3 =>
 TT ∧ IXK 1 a0 (AVal.int .i64 1) fun x4 =>
 TT ∧ TT ∧ LDK false 1 H x4 fun x5 =>
 ACalls Try.prog 60 [x1, x3, x5] H fun x6 H7 =>
 BINK .eql x6 (AVal.int .i64 0) fun x8 =>
 Q x8 H7
theorem start_eq (Q : AVal → Heap → Prop) (a0 a1 : AVal) (H : Heap) : vs Try.prog lv 59 13 Try.f59.results.toList Q true 1000 [.sq (bodyOf Try.f59)] (entry [a0, a1]) H = start_vc Q a0 a1 H := by kernel_rfl
theorem start {Q : AVal → Heap → Prop} {a0 a1 : AVal} {H : Heap} (h : start_vc Q a0 a1 H) : ACalls Try.prog 59 [a0, a1] H Q := acalls_vs (lv := lv) mixed Try.func59 rfl (by kernel_rfl) (by kernel_rfl) (start_eq Q a0 a1 H ▸ h)
end impl_FlippedCells_1


/-! ### Deleting from a list that is owned -/
theorem rSLKto {k g n i : Nat} {K : AVal → Prop} (hi : i ≤ n) (h0 : i = 0 → K (.sl false 0 [])) (h1 : 0 < i → K (.own k g 1 0 i)) : SLK 1 (.own k g 1 0 n) none (some (I (i : Int))) none K := by
  simp only [SLK, boundOf, Int.toNat_natCast, true_and]
  refine ⟨by omega, Nat.zero_le _, hi, fun h => h0 h.symm, fun h => h1 h⟩
theorem rSLKfrom {k g n i : Nat} {K : AVal → Prop} (hi : i < n) (h1 : K (.own k g 1 i (n - i))) : SLK 1 (.own k g 1 0 n) (some (I (i : Int))) none none K := by
  simp only [SLK, boundOf, Int.toNat_natCast, true_and]
  refine ⟨by omega, by omega, Nat.le_refl _, fun h => by omega, fun _ => ?_⟩
  rw [Nat.zero_add, Nat.mul_one]; exact h1
/-- A list in a block of its own. -/
def OwnL (H : Heap) (v : AVal) (k g : Nat) (ls : List AVal) : Prop := v = .own k g 1 0 ls.length ∧ hget H k = some (g, ls)
theorem hset_same {H : Heap} {k g : Nat} {ls : List AVal} (h : hget H k = some (g, ls)) : hset H k g ls = H := hset_self h
section
variable {f : AVal} {H : Heap} {k g : Nat} {b : List Int → Bool} {L : List (List Int)} {ls : List AVal}
theorem indexO_loop (hg : hget H k = some (g, ls)) (hR : Rel2 IsInts ls L) (hl : L.length ≤ 1000000) (hf : ∀ a ∈ L, ∀ c, IsInts c a → CALLK Try.prog f [c] H fun r H' => r = .bool (b a) ∧ H' = H) {Q : AVal → Heap → Prop} : ∀ (n x : Nat), x + n = L.length →
    Q (I (match (L.drop x).findIdx? b with | some i => ((x + i : Nat) : Int) | none => -1)) H → slices_IndexFunc_T2_T1.L2 Q (.own k g 1 0 ls.length) f (I L.length) (I x) H := by
  have hll := hR.1
  intro n
  induction n with
  | zero =>
    intro x hx hq
    apply slices_IndexFunc_T2_T1.step2
    unfold slices_IndexFunc_T2_T1.step2_vc
    repeat' (with_reducible first
 | refine rTT ?_
 | refine rRFL ?_
 | refine rLEN (by assumption) ?_
 | (refine rIXk (by assumption) (by assumption) ?_; intro p hp)
 | (refine rIX (by assumption) (by omega) (by omega) ?_; intro p a ha hp)
 | refine rLDi (by assumption) ?_
 | (refine rLD (by assumption) ?_; intro c hc)
 | refine rADD (by omega) ?_
 | refine rSUB (by omega) ?_
 | refine rLSS ?_
 | refine rLEQ ?_
 | refine rGTR ?_
 | refine rGEQ ?_
 | refine rEQL ?_
 | refine rNEQ ?_
 | refine rNOT ?_
 | (refine rBRK ?_ ?_ <;> intro hb)
 | (refine rBRKn ?_ ?_ <;> intro hb)
 | (refine rBRKnb ?_ ?_ <;> intro hb)
 | (refine rBRKb ?_ ?_ <;> intro hb)
 | (refine rSPL ?_ ?_ <;> intro hb)
 | (refine rSPLn ?_ ?_ <;> intro hb)
 | (refine rSPLnb ?_ ?_ <;> intro hb)
 | (refine rSPLb ?_ ?_ <;> intro hb)
 | (exfalso; omega))
    rw [List.drop_eq_nil_of_le (by omega)] at hq
    exact hq
  | succ n ih =>
    intro x hx hq
    obtain ⟨a, ha⟩ := ex_get (l := L) (k := x) (by omega)
    obtain ⟨c, hcx⟩ := ex_get (l := ls) (k := x) (by omega)
    have hca := hR.2 x c a hcx ha
    apply slices_IndexFunc_T2_T1.step2
    unfold slices_IndexFunc_T2_T1.step2_vc
    repeat' (with_reducible first
 | refine rTT ?_
 | refine rRFL ?_
 | refine rLEN (by assumption) ?_
 | refine rLENo ?_
 | refine rEXT0 ?_
 | refine rEXT1 ?_
 | refine rNEB ?_
 | refine rEQB ?_
 | refine rLDp (by assumption) ?_
 | refine rLDf (by assumption) (by assumption) ?_
 | refine rIXo (by omega) ?_
 | (refine rIXqi (by assumption) (by assumption) ?_; intro cs o hc)
 | (refine rIXq (by assumption) (by assumption) ?_; intro cs o c hc hr)
 | refine rLDq (by assumption) ?_
 | refine ⟨rTT (rTT (rLDq (by assumption) rfl)), ?_⟩
 | refine ⟨rTT (rTT (rLDp (by assumption) rfl)), ?_⟩
 | refine ⟨rTT (rTT (rLDf (by assumption) (by assumption) rfl)), ?_⟩
 | (refine rIXk (by assumption) (by assumption) ?_; intro p hp)
 | (refine rIX (by assumption) (by omega) (by omega) ?_; intro p a ha hp)
 | refine rLDi (by assumption) ?_
 | (refine rLD (by assumption) ?_; intro c hc)
 | refine rADD (by omega) ?_
 | refine rSUB (by omega) ?_
 | refine rLSS ?_
 | refine rLEQ ?_
 | refine rGTR ?_
 | refine rGEQ ?_
 | refine rEQL ?_
 | refine rNEQ ?_
 | refine rNOT ?_
 | (refine rBRK ?_ ?_ <;> intro hb)
 | (refine rBRKn ?_ ?_ <;> intro hb)
 | (refine rBRKnb ?_ ?_ <;> intro hb)
 | (refine rBRKb ?_ ?_ <;> intro hb)
 | (refine rSPL ?_ ?_ <;> intro hb)
 | (refine rSPLn ?_ ?_ <;> intro hb)
 | (refine rSPLnb ?_ ?_ <;> intro hb)
 | (refine rSPLb ?_ ?_ <;> intro hb)
 | (exfalso; omega))
    rw [drop_some ha] at hq
    refine CALLK_mono ?_ (hf a (List.mem_of_getElem? ha) c hca)
    rintro r H' ⟨rfl, rfl⟩
    repeat' (with_reducible first
 | refine rTT ?_
 | refine rRFL ?_
 | refine rLEN (by assumption) ?_
 | (refine rIXk (by assumption) (by assumption) ?_; intro p hp)
 | (refine rIX (by assumption) (by omega) (by omega) ?_; intro p a ha hp)
 | refine rLDi (by assumption) ?_
 | (refine rLD (by assumption) ?_; intro c hc)
 | refine rADD (by omega) ?_
 | refine rSUB (by omega) ?_
 | refine rLSS ?_
 | refine rLEQ ?_
 | refine rGTR ?_
 | refine rGEQ ?_
 | refine rEQL ?_
 | refine rNEQ ?_
 | refine rNOT ?_
 | (refine rBRK ?_ ?_ <;> intro hb)
 | (refine rBRKn ?_ ?_ <;> intro hb)
 | (refine rBRKnb ?_ ?_ <;> intro hb)
 | (refine rBRKb ?_ ?_ <;> intro hb)
 | (refine rSPL ?_ ?_ <;> intro hb)
 | (refine rSPLn ?_ ?_ <;> intro hb)
 | (refine rSPLnb ?_ ?_ <;> intro hb)
 | (refine rSPLb ?_ ?_ <;> intro hb)
 | (exfalso; omega))
    · simp only [List.findIdx?_cons, hb] at hq
      simpa using hq
    · refine ih (x + 1) (by omega) ?_
      simp only [List.findIdx?_cons, hb] at hq
      cases hx : (L.drop (x + 1)).findIdx? b with
      | none => rw [hx] at hq; simpa using hq
      | some i =>
        rw [hx] at hq
        have : x + 1 + i = x + (i + 1) := by omega
        simp only [this]
        simpa using hq
/-- What is kept of the cells. -/
def kept (b : List Int → Bool) : List AVal → List (List Int) → List AVal
  | c :: ls, a :: L => if b a = true then kept b ls L else c :: kept b ls L
  | _, _ => []
theorem kept_rel : ∀ {ls : List AVal} {L : List (List Int)}, Rel2 IsInts ls L → Rel2 IsInts (kept b ls L) (L.filter fun a => !b a)
  | [], [], _ => Rel2.nil
  | c :: ls, a :: L, h => by
    have h1 : Rel2 IsInts ls L := ⟨by simpa using h.1, fun i c a h1 h2 => h.2 (i + 1) c a (by simpa using h1) (by simpa using h2)⟩
    have hc : IsInts c a := h.2 0 c a rfl rfl
    have ih := kept_rel h1
    rw [kept, List.filter_cons]
    cases hb : b a with
    | true => simp only [if_true]; exact ih
    | false =>
      simp only [Bool.not_false, if_true]
      refine ⟨by simp [ih.1], fun i d e h1 h2 => ?_⟩
      cases i with
      | zero => simp at h1 h2; subst h1; subst h2; exact hc
      | succ i => exact ih.2 i d e (by simpa using h1) (by simpa using h2)
  | [], a :: L, h => by have := h.1; simp at this
  | c :: ls, [], h => by have := h.1; simp at this
theorem kept_len : ∀ {ls : List AVal} {L : List (List Int)}, (kept b ls L).length ≤ ls.length
  | [], L => by cases L <;> simp [kept]
  | c :: ls, [] => by simp [kept]
  | c :: ls, a :: L => by
    have := kept_len (ls := ls) (L := L)
    rw [kept]; split
    · simp only [List.length_cons]; omega
    · simp only [List.length_cons]; omega
theorem kept_app : ∀ {ls ms : List AVal} {L M : List (List Int)}, ls.length = L.length → kept b (ls ++ ms) (L ++ M) = kept b ls L ++ kept b ms M
  | [], ms, [], M, _ => by simp [kept]
  | c :: ls, ms, a :: L, M, h => by
    simp only [List.cons_append, kept, kept_app (ls := ls) (L := L) (by simpa using h)]
    split <;> simp
theorem kept_all : ∀ {ls : List AVal} {L : List (List Int)}, ls.length = L.length → (∀ a ∈ L, b a = false) → kept b ls L = ls
  | [], [], _, _ => rfl
  | c :: ls, a :: L, h, hb => by rw [kept, if_neg (by rw [hb a (by simp)]; decide), kept_all (by simpa using h) fun a ha => hb a (by simp [ha])]
/-- The end: what is kept, and nothing behind it. -/
def QDel (H : Heap) (k g : Nat) (K : List AVal) (r : AVal) (H' : Heap) : Prop := (∃ cs, H' = hset H k g cs ∧ ((K = [] ∧ r = .sl false 0 []) ∨ (r = .own k g 1 0 K.length ∧ K ≠ [] ∧ K <+: cs)))
theorem delete_loop (hlt : k < H.length) (hR : Rel2 IsInts ls L) (hl : L.length ≤ 1000000) (hf : ∀ a ∈ L, ∀ c, IsInts c a → ∀ cs, CALLK Try.prog f [c] (hset H k g cs) fun r H' => r = .bool (b a) ∧ H' = hset H k g cs) :
    ∀ (n x i : Nat) (cs : List AVal), x + n = L.length → i = (kept b (ls.take x) (L.take x)).length → i < x → cs.length = ls.length → cs.take i = kept b (ls.take x) (L.take x) → cs.drop x = ls.drop x →
    slices_DeleteFunc_T2_T1.L5 (QDel H k g (kept b ls L)) (.own k g 1 0 ls.length) f (I i) (I x) (hset H k g cs) := by
  have hll := hR.1
  intro n
  induction n with
  | zero =>
    intro x i cs hx hi hix hcs h1 h2
    have hxl : x = ls.length := by omega
    subst hxl
    rw [show ls.take ls.length = ls from List.take_length, show L.take ls.length = L from List.take_of_length_le (by omega)] at hi h1
    have hg := hget_set (H := H) g cs hlt
    apply slices_DeleteFunc_T2_T1.step5
    unfold slices_DeleteFunc_T2_T1.step5_vc
    refine rLENo (rLSS (rBRf (by simp) (rTT (rTT ?_))))
    refine rSLKfrom hix (rTT ?_)
    refine ⟨rfl, cells_one rfl ⟨rfl, cs, hg, by omega, ?_⟩⟩
    rw [hset_set]
    refine rTT (rTT ?_)
    refine rSLKto (by omega) (fun h => ?_) (fun h => ?_)
    · exact ⟨_, rfl, .inl ⟨List.eq_nil_of_length_eq_zero (by rw [← hi]; exact h), rfl⟩⟩
    · refine ⟨_, rfl, .inr ⟨by rw [← hi], fun e => ?_, ?_⟩⟩
      · rw [e] at hi; simp at hi; omega
      · rw [← h1]
        simp only [List.append_assoc]
        exact List.prefix_append _ _
  | succ n ih =>
    intro x i cs hx hi hix hcs h1 h2
    obtain ⟨a, ha⟩ := ex_get (l := L) (k := x) (by omega)
    obtain ⟨c, hcx⟩ := ex_get (l := ls) (k := x) (by omega)
    have hca := hR.2 x c a hcx ha
    have hcsx : cs[x]? = some c := by
      have : (cs.drop x)[0]? = (ls.drop x)[0]? := by rw [h2]
      simpa [List.getElem?_drop, hcx] using this
    have hg := hget_set (H := H) g cs hlt
    have hk1 : kept b (ls.take (x + 1)) (L.take (x + 1)) = kept b (ls.take x) (L.take x) ++ kept b [c] [a] := by
      rw [take_some hcx, take_some ha, kept_app (by simp; omega)]
    have h2' : cs.drop (x + 1) = ls.drop (x + 1) := by
      have := congrArg (List.drop 1) h2
      simpa [List.drop_drop] using this
    apply slices_DeleteFunc_T2_T1.step5
    unfold slices_DeleteFunc_T2_T1.step5_vc
    repeat' (with_reducible first
 | refine rTT ?_
 | refine rRFL ?_
 | refine rLEN (by assumption) ?_
 | refine rLENo ?_
 | refine rEXT0 ?_
 | refine rEXT1 ?_
 | refine rNEB ?_
 | refine rEQB ?_
 | refine rLDp (by assumption) ?_
 | refine rLDf (by assumption) (by assumption) ?_
 | refine rIXo (by omega) ?_
 | (refine rIXqi (by assumption) (by assumption) ?_; intro cs o hc)
 | (refine rIXq (by assumption) (by assumption) ?_; intro cs o c hc hr)
 | refine rLDq (by assumption) ?_
 | refine ⟨rTT (rTT (rLDq (by assumption) rfl)), ?_⟩
 | refine ⟨rTT (rTT (rLDp (by assumption) rfl)), ?_⟩
 | refine ⟨rTT (rTT (rLDf (by assumption) (by assumption) rfl)), ?_⟩
 | (refine rIXk (by assumption) (by assumption) ?_; intro p hp)
 | (refine rIX (by assumption) (by omega) (by omega) ?_; intro p a ha hp)
 | refine rLDi (by assumption) ?_
 | (refine rLD (by assumption) ?_; intro c hc)
 | refine rADD (by omega) ?_
 | refine rSUB (by omega) ?_
 | refine rLSS ?_
 | refine rLEQ ?_
 | refine rGTR ?_
 | refine rGEQ ?_
 | refine rEQL ?_
 | refine rNEQ ?_
 | refine rNOT ?_
 | (refine rBRK ?_ ?_ <;> intro hb)
 | (refine rBRKn ?_ ?_ <;> intro hb)
 | (refine rBRKnb ?_ ?_ <;> intro hb)
 | (refine rBRKb ?_ ?_ <;> intro hb)
 | (refine rSPL ?_ ?_ <;> intro hb)
 | (refine rSPLn ?_ ?_ <;> intro hb)
 | (refine rSPLnb ?_ ?_ <;> intro hb)
 | (refine rSPLb ?_ ?_ <;> intro hb)
 | (exfalso; omega))
    refine CALLK_mono ?_ (hf a (List.mem_of_getElem? ha) c hca cs)
    rintro r H' ⟨rfl, rfl⟩
    refine rNOT (rBRKnb (fun hb => ?_) (fun hb => ?_))
    · -- kept
      have hi2 : i < ls.length := by omega
      refine rTT (rIXo hi2 (rTT (rSTp hg (by omega) hca.one ?_)))
      rw [hset_set]
      repeat' (with_reducible first
 | refine rTT ?_
 | refine rRFL ?_
 | refine rLEN (by assumption) ?_
 | (refine rIXk (by assumption) (by assumption) ?_; intro p hp)
 | (refine rIX (by assumption) (by omega) (by omega) ?_; intro p a ha hp)
 | refine rLDi (by assumption) ?_
 | (refine rLD (by assumption) ?_; intro c hc)
 | refine rADD (by omega) ?_
 | refine rSUB (by omega) ?_
 | refine rLSS ?_
 | refine rLEQ ?_
 | refine rGTR ?_
 | refine rGEQ ?_
 | refine rEQL ?_
 | refine rNEQ ?_
 | refine rNOT ?_
 | (refine rBRK ?_ ?_ <;> intro hb)
 | (refine rBRKn ?_ ?_ <;> intro hb)
 | (refine rBRKnb ?_ ?_ <;> intro hb)
 | (refine rBRKb ?_ ?_ <;> intro hb)
 | (refine rSPL ?_ ?_ <;> intro hb)
 | (refine rSPLn ?_ ?_ <;> intro hb)
 | (refine rSPLnb ?_ ?_ <;> intro hb)
 | (refine rSPLb ?_ ?_ <;> intro hb)
 | (exfalso; omega))
      have hkc : kept b [c] [a] = [c] := by rw [kept, if_neg (by rw [hb]; decide), kept]; all_goals (intros; simp_all)
      refine ih (x + 1) (i + 1) (cs.set i c) (by omega) (by rw [hk1, hkc, List.length_append, ← hi]; rfl) (by omega) (by simpa using hcs) ?_ ?_
      · rw [hk1, hkc, ← h1, List.take_add_one, List.getElem?_set_self (by omega), List.take_set_of_le (Nat.le_refl _)]; rfl
      · rw [List.drop_set_of_lt (by omega)]; exact h2'
    · -- deleted
      repeat' (with_reducible first
 | refine rTT ?_
 | refine rRFL ?_
 | refine rLEN (by assumption) ?_
 | (refine rIXk (by assumption) (by assumption) ?_; intro p hp)
 | (refine rIX (by assumption) (by omega) (by omega) ?_; intro p a ha hp)
 | refine rLDi (by assumption) ?_
 | (refine rLD (by assumption) ?_; intro c hc)
 | refine rADD (by omega) ?_
 | refine rSUB (by omega) ?_
 | refine rLSS ?_
 | refine rLEQ ?_
 | refine rGTR ?_
 | refine rGEQ ?_
 | refine rEQL ?_
 | refine rNEQ ?_
 | refine rNOT ?_
 | (refine rBRK ?_ ?_ <;> intro hb)
 | (refine rBRKn ?_ ?_ <;> intro hb)
 | (refine rBRKnb ?_ ?_ <;> intro hb)
 | (refine rBRKb ?_ ?_ <;> intro hb)
 | (refine rSPL ?_ ?_ <;> intro hb)
 | (refine rSPLn ?_ ?_ <;> intro hb)
 | (refine rSPLnb ?_ ?_ <;> intro hb)
 | (refine rSPLb ?_ ?_ <;> intro hb)
 | (exfalso; omega))
      have hkc : kept b [c] [a] = [] := by rw [kept, if_pos hb, kept]; all_goals (intros; simp_all)
      refine ih (x + 1) i cs (by omega) (by rw [hk1, hkc, List.append_nil]; exact hi) (by omega) hcs ?_ h2'
      rw [hk1, hkc, List.append_nil]; exact h1
theorem findIdx_none {L : List (List Int)} (h : L.findIdx? b = none) : ∀ a ∈ L, b a = false := by
  rw [List.findIdx?_eq_none_iff] at h
  exact h
theorem deleteFunc_ok (hg : hget H k = some (g, ls)) (hR : Rel2 IsInts ls L) (hl : L.length ≤ 1000000) (h0 : ls ≠ []) (hf : ∀ a ∈ L, ∀ c, IsInts c a → ∀ cs, CALLK Try.prog f [c] (hset H k g cs) fun r H' => r = .bool (b a) ∧ H' = hset H k g cs) :
    ACalls Try.prog 57 [.own k g 1 0 ls.length, f] H (QDel H k g (kept b ls L)) := by
  have hlt := hlt_of_get hg
  have hll := hR.1
  have hself := hset_self hg
  apply slices_DeleteFunc_T2_T1.start
  unfold slices_DeleteFunc_T2_T1.start_vc
  apply slices_IndexFunc_T2_T1.start
  unfold slices_IndexFunc_T2_T1.start_vc
  refine rLENo ?_
  rw [hll]
  have hf0 : ∀ a ∈ L, ∀ c, IsInts c a → CALLK Try.prog f [c] H fun r H' => r = .bool (b a) ∧ H' = H := fun a ha c hc => by
    have := hf a ha c hc ls
    rw [hself] at this; exact this
  have := indexO_loop (f := f) (b := b) hg hR hl hf0 (Q := fun x1 H2 => BINK .eql x1 (.int .i64 (-1)) fun x3 => BRK x3 (QDel H k g (kept b ls L) (.own k g 1 0 L.length) H2) (BINK .add x1 (.int .i64 1) fun x4 => slices_DeleteFunc_T2_T1.L5 (QDel H k g (kept b ls L)) (.own k g 1 0 L.length) f x1 x4 H2)) L.length 0 (by omega) ?_
  · rw [hll] at this; exact this
  · rw [List.drop_zero]
    cases hx : L.findIdx? b with
    | none =>
      refine rEQL (rBRt (by simp) ?_)
      have hall := kept_all (b := b) hll (findIdx_none hx)
      rw [hall]
      exact ⟨ls, hself.symm, .inr ⟨by rw [hll], h0, List.prefix_refl _⟩⟩
    | some i =>
      have hx' := hx
      rw [List.findIdx?_eq_some_iff_getElem] at hx'
      obtain ⟨h1, h2, h3⟩ := hx'
      have hi : i < ls.length := by omega
      obtain ⟨a, ha⟩ := ex_get (l := L) (k := i) h1
      obtain ⟨c, hc⟩ := ex_get (l := ls) (k := i) hi
      have hba : b a = true := by rw [List.getElem?_eq_getElem h1] at ha; cases ha; exact h2
      have hk0 : kept b (ls.take i) (L.take i) = ls.take i := kept_all (by simp; omega) fun a' ha' => by
        obtain ⟨j, hj, rfl⟩ := List.getElem_of_mem ha'
        have hj' : j < i := by simp at hj; omega
        have := h3 j hj'
        rw [List.getElem_take]
        simpa using this
      have hk1 : kept b (ls.take (i + 1)) (L.take (i + 1)) = ls.take i := by
        rw [take_some hc, take_some ha, kept_app (by simp; omega), hk0]
        have hkc : kept b [c] [a] = [] := by rw [kept, if_pos hba, kept]; all_goals (intros; simp_all)
        rw [hkc, List.append_nil]
      dsimp only
      refine rEQL (rBRf (by rw [decide_eq_false_iff_not]; omega) (rADD (by constructor <;> omega) ?_))
      have hdl := delete_loop (b := b) (f := f) (g := g) hlt hR hl hf (L.length - (i + 1)) (i + 1) i ls (by omega) (by rw [hk1]; simp; omega) (by omega) rfl hk1.symm rfl
      rw [hself] at hdl
      have e : (((0 + i : Nat) : Int) + 1) = ((i + 1 : Nat) : Int) := by omega
      rw [e, Nat.zero_add, ← hll]
      exact hdl
end

/-! ### Cells that are flipped -/
theorem cellsO_ok {f : AVal} {n : Nat} {p : Nat → Nat → Bool} {H0 : Heap} (hn : n ≤ 1000) (h1 : 1 ≤ n) (hf : ∀ i j, 1 ≤ i → i < n → 1 ≤ j → j < n → ∀ H1, HSub H0 H1 → CALLK Try.prog f [I (i : Nat), I (j : Nat)] H1 fun v H2 => v = .bool (p i j) ∧ H2 = H1) :
    ACalls Try.prog 78 [I n, f] H0 fun r H' => ∃ ls, Bld H0 r H' ls ∧ Rel2 IsInts ls (cellsF p (n - 1)) := by
  apply impl_cells.start
  unfold impl_cells.start_vc
  refine rTT (rTT (rTT (rLIT0 ?_)))
  unfold cellsF
  show impl_cells.L3 _ (I n) f _ (I (1 : Nat)) H0
  exact cells_out hn hf (fun v5 H1 ls hb1 hr1 => ⟨ls, hb1, hr1⟩) (n - 1) 1 _ _ [] [] (by omega) (by omega) (bld_lit H0) Rel2.nil (by simp) (by simp)
theorem colouredO_ok {n : Nat} {col : Int} {H : Heap} (hn : n ≤ 1000) (h1 : 1 ≤ n) : ACalls Try.prog 58 [I n, I col] H fun r H' => ∃ g ls, Bld (hnew H g [I col]) r H' ls ∧ Rel2 IsInts ls (colCells n col) := by
  apply impl_coloured.start
  unfold impl_coloured.start_vc
  refine rBOX rfl fun g => ?_
  refine ACalls.mono (cellsO_ok (p := colP col) hn h1 (fun i j a1 a2 b1 b2 H3 hs => rCALL ?_)) ?_
  · show ACalls Try.prog 111 [I i, I j, .ptr H.length g 0] _ _
    have q1 := hs _ _ _ (hget_new H g [I col])
    apply impl_coloured_1.start
    unfold impl_coloured_1.start_vc
    refine rADD (by constructor <;> omega) (rREM (by decide) (rTT (rTT (rLDp q1 (rEQL ⟨rfl, rfl⟩)))))
  · rintro r H1 ⟨ls, h2, h3⟩
    exact ⟨g, ls, h2, h3⟩
theorem filter_flipped {n : Nat} {m : List (List Int)} (G : Good n m) (col : Int) : (colCells n col).filter (fun c => !decide (wayF (heightsF m) (c.getD 0 0).toNat (c.getD 1 0).toNat = 0)) = flippedF m col := by
  have hn := G.n1
  have e : flippedF m col = (colCells n col).filter (onCell fun i j => decide (heWayF (heightsF m) i j ≠ 0)) := by
    unfold flippedF colCells; rw [cells_filter, G.len]
  rw [e]
  refine List.filter_congr fun c hc => ?_
  obtain ⟨i, j, rfl, i1, i2, j1, j2⟩ := cells_Cells hn _ c hc
  show (!decide (wayF (heightsF m) i j = 0)) = decide (heWayF (heightsF m) i j ≠ 0)
  rw [way_eq G i1 i2 j1 j2, ← decide_not, decide_eq_decide]
  omega
theorem flippedCells1_ok {n : Nat} {m : List (List Int)} {hv c : AVal} {bk bg : Nat} {H : Heap} (G : Good n m) (hh : IsTab hv (heightsF m)) (hg : hget H bk = some (bg, [hv])) {a : List Int} (ha : ∃ i j : Nat, a = [(i : Int), (j : Int)] ∧ 1 ≤ i ∧ i < n ∧ 1 ≤ j ∧ j < n) (hc : IsInts c a) :
    ACalls Try.prog 59 [c, .ptr bk bg 0] H fun r H' => r = .bool (decide (wayF (heightsF m) (a.getD 0 0).toNat (a.getD 1 0).toNat = 0)) ∧ H' = H := by
  obtain ⟨i, j, rfl, i1, i2, j1, j2⟩ := ha
  have h6 := G.n6
  have hl : (heightsF m).length = n + 1 := by rw [heights_len, G.len]
  have q0 : [(i : Int), (j : Int)][0]? = some (i : Int) := rfl
  have q1 : [(i : Int), (j : Int)][1]? = some (j : Int) := rfl
  apply impl_FlippedCells_1.start
  unfold impl_FlippedCells_1.start_vc
  repeat' (first
 | ((refine rIXk (i := 0) hc q0 ?_; intro p hp))
 | ((refine rIXk (i := 1) hc q1 ?_; intro p hp))
 | with_reducible first
 | refine rTT ?_
 | refine rRFL ?_
 | refine rLEN (by assumption) ?_
 | refine rLENo ?_
 | refine rEXT0 ?_
 | refine rEXT1 ?_
 | refine rNEB ?_
 | refine rEQB ?_
 | refine rLDp (by assumption) ?_
 | refine rLDf (by assumption) (by assumption) ?_
 | refine rIXo (by omega) ?_
 | (refine rIXqi (by assumption) (by assumption) ?_; intro cs o hc)
 | (refine rIXq (by assumption) (by assumption) ?_; intro cs o c hc hr)
 | refine rLDq (by assumption) ?_
 | refine ⟨rTT (rTT (rLDq (by assumption) rfl)), ?_⟩
 | refine ⟨rTT (rTT (rLDp (by assumption) rfl)), ?_⟩
 | refine ⟨rTT (rTT (rLDf (by assumption) (by assumption) rfl)), ?_⟩
 | (refine rIXk (by assumption) (by assumption) ?_; intro p hp)
 | (refine rIX (by assumption) (by omega) (by omega) ?_; intro p a ha hp)
 | refine rLDi (by assumption) ?_
 | (refine rLD (by assumption) ?_; intro c hc)
 | refine rADD (by omega) ?_
 | refine rSUB (by omega) ?_
 | refine rLSS ?_
 | refine rLEQ ?_
 | refine rGTR ?_
 | refine rGEQ ?_
 | refine rEQL ?_
 | refine rNEQ ?_
 | refine rNOT ?_
 | (refine rBRK ?_ ?_ <;> intro hb)
 | (refine rBRKn ?_ ?_ <;> intro hb)
 | (refine rBRKnb ?_ ?_ <;> intro hb)
 | (refine rBRKb ?_ ?_ <;> intro hb)
 | (refine rSPL ?_ ?_ <;> intro hb)
 | (refine rSPLn ?_ ?_ <;> intro hb)
 | (refine rSPLnb ?_ ?_ <;> intro hb)
 | (refine rSPLb ?_ ?_ <;> intro hb)
 | (exfalso; omega))
  refine ACalls.mono (way_ok hh hl (fun r hr => by rw [heights_sq hr, G.len]) i1 (by omega) j1 (by omega) (by omega)) ?_
  rintro r H1 ⟨rfl, rfl⟩
  exact rEQL ⟨rfl, rfl⟩
theorem flippedCells_ok {m : List (List Int)} {v : AVal} {col : Int} {H : Heap} (hv : IsTab v m) (hl : m.length ≤ 100000) : ACalls Try.prog 10 [v, I col] H fun r H' => TabOk (colB m col) (flippedF m col) r ∧ H' = H := by
  apply ACalls.pure
  apply impl_FlippedCells.start
  unfold impl_FlippedCells.start_vc
  refine ACalls.mono (isSign_ok hv (by omega)) ?_
  rintro r H1 ⟨rfl, rfl⟩
  refine rNOT (rSPLnb (fun hb => ?_) (fun hb => ?_))
  · unfold colB; rw [hb]; exact ⟨HSub.refl _, 1, _, Pur.refl _ _ _, tabOk_no, rfl⟩
  · refine ACalls.mono isColour_ok ?_
    rintro r H2 ⟨rfl, rfl⟩
    refine rNOT (rBRKn (fun hc => ?_) (fun hc => ?_))
    · unfold colB; rw [hb, decide_eq_false hc]; exact ⟨HSub.refl _, 1, _, Pur.refl _ _ _, tabOk_no, rfl⟩
    · have G := goodB_iff.1 hb
      have h6 := G.n6
      refine ACalls.mono (heights_ok hv hl (goodB_sq hb)) ?_
      rintro r3 H3 ⟨h3, rfl⟩
      refine rTT (rBOX rfl fun gb => ?_)
      refine rTT (rSTp (hget_new _ _ _) (by simp) h3.one ?_)
      rw [hset_new]
      have hbox : hget (hnew H3 gb ([AVal.nilS].set 0 r3)) H3.length = some (gb, [r3]) := hget_new _ _ _
      have hS : HSub H3 (hnew H3 gb ([AVal.nilS].set 0 r3)) := hsub_new _ _ _
      have hL : (hnew H3 gb ([AVal.nilS].set 0 r3)).length = H3.length + 1 := hlen_new _ _ _
      generalize hnew H3 gb ([AVal.nilS].set 0 r3) = H4 at hbox hS hL ⊢
      refine rLEN hv ?_
      refine ACalls.mono (colouredO_ok (by omega) G.n1) ?_
      rintro r5 H5 ⟨g5, ls, hB5, hR5⟩
      have hok : colB m col = true := by unfold colB; rw [hb, decide_eq_true hc]; rfl
      have hcl := colCells_len (n := m.length) (col := col) (by omega)
      by_cases h0 : ls = []
      · -- nothing of that colour
        subst h0
        have hL0 : colCells m.length col = [] := List.eq_nil_of_length_eq_zero hR5.1.symm
        have hf0 : flippedF m col = [] := by rw [← filter_flipped G, hL0]; rfl
        rcases hB5 with ⟨_, hr5, rfl⟩ | ⟨g, rfl, rfl⟩
        · have hT : IsTab r5 [] := by
            rcases hr5 with rfl | rfl
            · exact .inl ⟨rfl, rfl⟩
            · exact isSl_mk rfl rfl (fun i c a h => by simp at h)
          apply slices_DeleteFunc_T2_T1.start
          unfold slices_DeleteFunc_T2_T1.start_vc
          apply slices_IndexFunc_T2_T1.start
          unfold slices_IndexFunc_T2_T1.start_vc
          refine rLEN hT ?_
          refine indexT_loop (b := fun _ => true) hT (by simp) (by simp) 0 0 rfl ?_
          refine rEQL (rBRt (by simp) ?_)
          exact ⟨hS.trans (hsub_new _ _ _), 1, _, Pur.refl _ _ _, ⟨_, by rw [hok], by rw [hok, cond_true, hf0]; exact hT⟩, rfl⟩
        · have hg6 := hget_new (hnew H4 g5 [I col]) g []
          apply slices_DeleteFunc_T2_T1.start
          unfold slices_DeleteFunc_T2_T1.start_vc
          apply slices_IndexFunc_T2_T1.start
          unfold slices_IndexFunc_T2_T1.start_vc
          refine rLENo ?_
          refine indexO_loop (b := fun _ => true) (L := []) hg6 Rel2.nil (by simp) (by simp) 0 0 rfl ?_
          refine rEQL (rBRt (by simp) ?_)
          have hp : Pur (nw H3 (hnew (hnew H4 g5 [I col]) g [])) 1 (.own (hnew H4 g5 [I col]).length g 1 0 ([] : List AVal).length) (.sl false 0 []) := .inr ⟨[], [], by rw [nw_above _ _ (by rw [hlen_new]; omega)]; exact hg6, by simp, rfl, rfl⟩
          exact ⟨(hS.trans (hsub_new _ _ _)).trans (hsub_new _ _ _), 2, _, pur_pair hp true, ⟨_, by rw [hok], by rw [hok, cond_true, hf0]; exact isSl_mk rfl rfl (fun i c a h => by simp at h)⟩, rfl⟩
      · obtain ⟨g6, rfl, rfl⟩ := hB5.blk h0
        have hklen : (hnew H4 g5 [I col]).length = H3.length + 2 := by rw [hlen_new, hL]
        have hg6 := hget_new (hnew H4 g5 [I col]) g6 ls
        have hb6 : hget (hnew (hnew H4 g5 [I col]) g6 ls) H3.length = some (gb, [r3]) := hget_new' _ _ (hget_new' _ _ hbox)
        have hS6 : HSub H3 (hnew (hnew H4 g5 [I col]) g6 ls) := (hS.trans (hsub_new _ _ _)).trans (hsub_new _ _ _)
        generalize hH6 : hnew (hnew H4 g5 [I col]) g6 ls = H6 at hg6 hb6 hS6 ⊢
        refine ACalls.mono (deleteFunc_ok (b := fun c => decide (wayF (heightsF m) (c.getD 0 0).toNat (c.getD 1 0).toNat = 0)) hg6 hR5 (by omega) h0 (fun a ha c hca cs => rCALL ?_)) ?_
        · refine flippedCells1_ok G h3 ?_ (cells_Cells G.n1 _ a ha) hca
          rw [hget_set_ne _ _ (by omega)]; exact hb6
        · rintro r7 H7 ⟨cs, rfl, hr7⟩
          have hrel := kept_rel (b := fun c => decide (wayF (heightsF m) (c.getD 0 0).toNat (c.getD 1 0).toNat = 0)) hR5
          rw [filter_flipped G] at hrel
          have hlt := hlt_of_get hg6
          have hS7 : HSub H3 (hset H6 (hnew H4 g5 [I col]).length g6 cs) := fun i g' ds hi => by
            have := hlt_of_get hi
            rw [hget_set_ne _ _ (by omega)]; exact hS6 i g' ds hi
          generalize hK : kept (fun c => decide (wayF (heightsF m) (c.getD 0 0).toNat (c.getD 1 0).toNat = 0)) ls (colCells m.length col) = K at hr7 hrel
          rcases hr7 with ⟨rfl, rfl⟩ | ⟨rfl, hne, hpre⟩
          · have hf0 : flippedF m col = [] := List.eq_nil_of_length_eq_zero hrel.1.symm
            exact ⟨hS7, 1, _, Pur.refl _ _ _, ⟨_, by rw [hok], by rw [hok, cond_true, hf0]; exact isSl_mk rfl rfl (fun i c a h => by simp at h)⟩, rfl⟩
          · obtain ⟨rest, rfl⟩ := hpre
            have hgn : hget (nw H3 (hset H6 (hnew H4 g5 [I col]).length g6 (K ++ rest))) (hnew H4 g5 [I col]).length = some (g6, K ++ rest) := by
              rw [nw_above _ _ (by omega), hget_set _ _ hlt]
            have hp : Pur (nw H3 (hset H6 (hnew H4 g5 [I col]).length g6 (K ++ rest))) 1 (.own (hnew H4 g5 [I col]).length g6 1 0 K.length) (.sl false K.length K) := by
              refine .inr ⟨K ++ rest, K, hgn, by simp, rfl, ?_⟩
              rw [List.drop_zero, Nat.mul_one, List.take_left]
              exact All2.refl (fun v => rfl) K
            exact ⟨hS7, 2, _, pur_pair hp true, ⟨_, by rw [hok], by rw [hok, cond_true]; exact isSl_mk hrel.1 hrel.1 hrel.2⟩, rfl⟩

end Go.Proofs.Ytccioplhchmilaa.AL

set_option linter.unusedVariables false
set_option maxRecDepth 100000
namespace Go.Proofs.Ytccioplhchmilaa.AL
open Go Go.Proofs

/-! spec.gyToggle (slots: 0 h, 1 i, 2 j, 3 h, 4 i, 5 j) -/
namespace spec_gyToggle
def lv : List (Nat × List Nat) := []
def start_vc (Q : AVal → Heap → Prop) (a0 a1 a2 : AVal) (H : Heap) : Prop :=
 TT ∧ TT ∧ IXK 1 a0 a1 fun x1 =>
 TT ∧ TT ∧ LDK false 1 H x1 fun x2 =>
 TT ∧ IXK 1 x2 a2 fun x3 =>
 TT ∧ TT ∧ LDK false 1 H x3 fun x4 =>
 ACalls Try.prog 62 [a0, a1, a2] H fun x5 H6 =>
 (TT ∧ TT ∧ LDK false 1 H6 x3 fun x7 =>
 x7 = x4) ∧
 (TT ∧ TT ∧ LDK false 1 H6 x1 fun x8 =>
 x8 = x2) ∧
 BINK .mul (AVal.int .i64 2) x5 fun x9 =>
 BINK .add x4 x9 fun x10 =>
 TT ∧ IXK 1 x2 a2 fun x11 =>
 TT ∧ STK 1 H6 x11 x10 fun H12 =>
 Q a0 H12
theorem start_eq (Q : AVal → Heap → Prop) (a0 a1 a2 : AVal) (H : Heap) : vs Try.prog lv 73 22 Try.f73.results.toList Q true 1000 [.sq (bodyOf Try.f73)] (entry [a0, a1, a2]) H = start_vc Q a0 a1 a2 H := by kernel_rfl
theorem start {Q : AVal → Heap → Prop} {a0 a1 a2 : AVal} {H : Heap} (h : start_vc Q a0 a1 a2 H) : ACalls Try.prog 73 [a0, a1, a2] H Q := acalls_vs (lv := lv) mixed Try.func73 rfl (by kernel_rfl) (by kernel_rfl) (start_eq Q a0 a1 a2 H ▸ h)
end spec_gyToggle

/-! spec.gyColour (slots: 0 h, 1 colour, 2 h, 3 colour, 5 i, 6 j) -/
namespace spec_gyColour
def lv : List (Nat × List Nat) := [(2, [0, 1, 5]), (5, [0, 1, 5, 6])]
noncomputable def K2 : List KF := [.lp (cB (cB (cR (cL (cR (bodyOf Try.f106)))))), .bl 0, .sq (cR (cR (bodyOf Try.f106)))]
def L2 (Q : AVal → Heap → Prop) (v0 v1 v5 : AVal) (H : Heap) : Prop := At Try.prog 106 32 K2 Q (slotsOf [(0, v0), (1, v1), (5, v5)]) H
theorem L2_frz {Q : AVal → Heap → Prop} {v0 v1 v5 w0 w1 w5 : AVal} {H Hf Hk : Heap} {k : Nat} (hs : Split H Hf Hk) (hp : PurL Hf k [(0, v0, w0), (1, v1, w1), (5, v5, w5)]) (h : L2 Q w0 w1 w5 Hk) : L2 Q v0 v1 v5 H := at_frz (ks := K2) hs hp h
noncomputable def K5 : List KF := [.lp (cB (cB (cR (cB (cL (cR (cB (cB (cR (cL (cR (bodyOf Try.f106)))))))))))), .bl 2, .bl 1, .sq (cR (cR (cB (cB (cR (cL (cR (bodyOf Try.f106)))))))), .lp (cB (cB (cR (cL (cR (bodyOf Try.f106)))))), .bl 0, .sq (cR (cR (bodyOf Try.f106)))]
def L5 (Q : AVal → Heap → Prop) (v0 v1 v5 v6 : AVal) (H : Heap) : Prop := At Try.prog 106 32 K5 Q (slotsOf [(0, v0), (1, v1), (5, v5), (6, v6)]) H
theorem L5_frz {Q : AVal → Heap → Prop} {v0 v1 v5 v6 w0 w1 w5 w6 : AVal} {H Hf Hk : Heap} {k : Nat} (hs : Split H Hf Hk) (hp : PurL Hf k [(0, v0, w0), (1, v1, w1), (5, v5, w5), (6, v6, w6)]) (h : L5 Q w0 w1 w5 w6 Hk) : L5 Q v0 v1 v5 v6 H := at_frz (ks := K5) hs hp h
def start_vc (Q : AVal → Heap → Prop) (a0 a1 : AVal) (H : Heap) : Prop :=
 spec_gyColour.L2 Q a0 a1 (AVal.int .i64 1) H
theorem start_eq (Q : AVal → Heap → Prop) (a0 a1 : AVal) (H : Heap) : vs Try.prog lv 106 32 Try.f106.results.toList Q true 1000 [.sq (bodyOf Try.f106)] (entry [a0, a1]) H = start_vc Q a0 a1 H := by kernel_rfl
theorem start {Q : AVal → Heap → Prop} {a0 a1 : AVal} {H : Heap} (h : start_vc Q a0 a1 H) : ACalls Try.prog 106 [a0, a1] H Q := acalls_vs (lv := lv) mixed Try.func106 rfl (by kernel_rfl) (by kernel_rfl) (start_eq Q a0 a1 H ▸ h)
def step2_vc (Q : AVal → Heap → Prop) (v0 v1 v5 : AVal) (H : Heap) : Prop :=
 LENK v0 fun x1 =>
 BINK .sub x1 (AVal.int .i64 1) fun x2 =>
 BINK .lss v5 x2 fun x3 =>
 BRK x3 (spec_gyColour.L5 Q v0 v1 v5 (AVal.int .i64 1) H) (Q v0 H)
theorem step2_eq (Q : AVal → Heap → Prop) (v0 v1 v5 : AVal) (H : Heap) : vs Try.prog lv 106 32 Try.f106.results.toList Q true 1000 (.sq (cB (cB (cR (cL (cR (bodyOf Try.f106)))))) :: K2) (slotsOf [(0, v0), (1, v1), (5, v5)]) H = step2_vc Q v0 v1 v5 H := by kernel_rfl
theorem step2 {Q : AVal → Heap → Prop} {v0 v1 v5 : AVal} {H : Heap} (h : step2_vc Q v0 v1 v5 H) : L2 Q v0 v1 v5 H := at_lp_vs (lv := lv) (ks := K2.tail) mixed Try.func106 (step2_eq Q v0 v1 v5 H ▸ h)
def step5_vc (Q : AVal → Heap → Prop) (v0 v1 v5 v6 : AVal) (H : Heap) : Prop :=
 LENK v0 fun x1 =>
 BINK .sub x1 (AVal.int .i64 1) fun x2 =>
 BINK .lss v6 x2 fun x3 =>
 BRK x3 (BINK .add v5 v6 fun x4 =>
 BINK .rem x4 (AVal.int .i64 2) fun x5 =>
 BINK .eql x5 v1 fun x6 =>
 BRK x6 (ACalls Try.prog 73 [v0, v5, v6] H fun x7 H8 =>
 BINK .add v6 (AVal.int .i64 1) fun x9 =>
 spec_gyColour.L5 Q x7 v1 v5 x9 H8) (BINK .add v6 (AVal.int .i64 1) fun x10 =>
 spec_gyColour.L5 Q v0 v1 v5 x10 H)) (BINK .add v5 (AVal.int .i64 1) fun x11 =>
 spec_gyColour.L2 Q v0 v1 x11 H)
theorem step5_eq (Q : AVal → Heap → Prop) (v0 v1 v5 v6 : AVal) (H : Heap) : vs Try.prog lv 106 32 Try.f106.results.toList Q true 1000 (.sq (cB (cB (cR (cB (cL (cR (cB (cB (cR (cL (cR (bodyOf Try.f106)))))))))))) :: K5) (slotsOf [(0, v0), (1, v1), (5, v5), (6, v6)]) H = step5_vc Q v0 v1 v5 v6 H := by kernel_rfl
theorem step5 {Q : AVal → Heap → Prop} {v0 v1 v5 v6 : AVal} {H : Heap} (h : step5_vc Q v0 v1 v5 v6 H) : L5 Q v0 v1 v5 v6 H := at_lp_vs (lv := lv) (ks := K5.tail) mixed Try.func106 (step5_eq Q v0 v1 v5 v6 H ▸ h)
end spec_gyColour

/-! spec.gyFlip (slots: 0 m, 1 colour, 2 m, 3 colour) -/
namespace spec_gyFlip
def lv : List (Nat × List Nat) := []
def start_vc (Q : AVal → Heap → Prop) (a0 a1 : AVal) (H : Heap) : Prop :=
 ACalls Try.prog 61 [a0] H fun x1 H2 =>
 ACalls Try.prog 106 [x1, a1] H2 fun x3 H4 =>
 ACalls Try.prog 74 [x3] H4 fun x5 H6 =>
 Q x5 H6
theorem start_eq (Q : AVal → Heap → Prop) (a0 a1 : AVal) (H : Heap) : vs Try.prog lv 55 10 Try.f55.results.toList Q true 1000 [.sq (bodyOf Try.f55)] (entry [a0, a1]) H = start_vc Q a0 a1 H := by kernel_rfl
theorem start {Q : AVal → Heap → Prop} {a0 a1 : AVal} {H : Heap} (h : start_vc Q a0 a1 H) : ACalls Try.prog 55 [a0, a1] H Q := acalls_vs (lv := lv) mixed Try.func55 rfl (by kernel_rfl) (by kernel_rfl) (start_eq Q a0 a1 H ▸ h)
end spec_gyFlip

/-! spec.FlipColour (slots: 0 m, 1 colour, 2 m, 3 colour) -/
namespace spec_FlipColour
def lv : List (Nat × List Nat) := []
def start_vc (Q : AVal → Heap → Prop) (a0 a1 : AVal) (H : Heap) : Prop :=
 ACalls Try.prog 53 [a0] H fun x1 H2 =>
 NOTK x1 fun x3 =>
 SPL x3 (Q (AVal.tup [AVal.nilS, (AVal.bool false)]) H2) (ACalls Try.prog 54 [a1, (AVal.int .i64 0), (AVal.int .i64 1)] H2 fun x4 H5 =>
 NOTK x4 fun x6 =>
 BRK x6 (Q (AVal.tup [AVal.nilS, (AVal.bool false)]) H5) (ACalls Try.prog 55 [a0, a1] H5 fun x7 H8 =>
 Q (AVal.tup [x7, (AVal.bool true)]) H8))
theorem start_eq (Q : AVal → Heap → Prop) (a0 a1 : AVal) (H : Heap) : vs Try.prog lv 9 17 Try.f9.results.toList Q true 1000 [.sq (bodyOf Try.f9)] (entry [a0, a1]) H = start_vc Q a0 a1 H := by kernel_rfl
theorem start {Q : AVal → Heap → Prop} {a0 a1 : AVal} {H : Heap} (h : start_vc Q a0 a1 H) : ACalls Try.prog 9 [a0, a1] H Q := acalls_vs (lv := lv) mixed Try.func9 rfl (by kernel_rfl) (by kernel_rfl) (start_eq Q a0 a1 H ▸ h)
end spec_FlipColour

/-! spec.FlippedCells (slots: 0 m, 1 colour, 2 m, 3 colour, 6 h, 7 out, 8 i, 9 j) -/
namespace spec_FlippedCells
def lv : List (Nat × List Nat) := [(6, [0, 1, 6, 7, 8]), (9, [0, 1, 6, 7, 8, 9])]
noncomputable def K6 : List KF := [.lp (cB (cB (cR (cL (cR (cR (cR (cR (bodyOf Try.f11))))))))), .bl 0, .sq (cR (cR (cR (cR (cR (bodyOf Try.f11))))))]
def L6 (Q : AVal → Heap → Prop) (v0 v1 v6 v7 v8 : AVal) (H : Heap) : Prop := At Try.prog 11 52 K6 Q (slotsOf [(0, v0), (1, v1), (6, v6), (7, v7), (8, v8)]) H
theorem L6_frz {Q : AVal → Heap → Prop} {v0 v1 v6 v7 v8 w0 w1 w6 w7 w8 : AVal} {H Hf Hk : Heap} {k : Nat} (hs : Split H Hf Hk) (hp : PurL Hf k [(0, v0, w0), (1, v1, w1), (6, v6, w6), (7, v7, w7), (8, v8, w8)]) (h : L6 Q w0 w1 w6 w7 w8 Hk) : L6 Q v0 v1 v6 v7 v8 H := at_frz (ks := K6) hs hp h
noncomputable def K9 : List KF := [.lp (cB (cB (cR (cB (cL (cR (cB (cB (cR (cL (cR (cR (cR (cR (bodyOf Try.f11))))))))))))))), .bl 2, .bl 1, .sq (cR (cR (cB (cB (cR (cL (cR (cR (cR (cR (bodyOf Try.f11))))))))))), .lp (cB (cB (cR (cL (cR (cR (cR (cR (bodyOf Try.f11))))))))), .bl 0, .sq (cR (cR (cR (cR (cR (bodyOf Try.f11))))))]
def L9 (Q : AVal → Heap → Prop) (v0 v1 v6 v7 v8 v9 : AVal) (H : Heap) : Prop := At Try.prog 11 52 K9 Q (slotsOf [(0, v0), (1, v1), (6, v6), (7, v7), (8, v8), (9, v9)]) H
theorem L9_frz {Q : AVal → Heap → Prop} {v0 v1 v6 v7 v8 v9 w0 w1 w6 w7 w8 w9 : AVal} {H Hf Hk : Heap} {k : Nat} (hs : Split H Hf Hk) (hp : PurL Hf k [(0, v0, w0), (1, v1, w1), (6, v6, w6), (7, v7, w7), (8, v8, w8), (9, v9, w9)]) (h : L9 Q w0 w1 w6 w7 w8 w9 Hk) : L9 Q v0 v1 v6 v7 v8 v9 H := at_frz (ks := K9) hs hp h
def start_vc (Q : AVal → Heap → Prop) (a0 a1 : AVal) (H : Heap) : Prop :=
 ACalls Try.prog 53 [a0] H fun x1 H2 =>
 NOTK x1 fun x3 =>
 SPL x3 (Q (AVal.tup [AVal.nilS, (AVal.bool false)]) H2) (ACalls Try.prog 54 [a1, (AVal.int .i64 0), (AVal.int .i64 1)] H2 fun x4 H5 =>
 NOTK x4 fun x6 =>
 BRK x6 (Q (AVal.tup [AVal.nilS, (AVal.bool false)]) H5) (ACalls Try.prog 61 [a0] H5 fun x7 H8 =>
 spec_FlippedCells.L6 Q a0 a1 x7 AVal.nilS (AVal.int .i64 1) H8))
theorem start_eq (Q : AVal → Heap → Prop) (a0 a1 : AVal) (H : Heap) : vs Try.prog lv 11 52 Try.f11.results.toList Q true 1000 [.sq (bodyOf Try.f11)] (entry [a0, a1]) H = start_vc Q a0 a1 H := by kernel_rfl
theorem start {Q : AVal → Heap → Prop} {a0 a1 : AVal} {H : Heap} (h : start_vc Q a0 a1 H) : ACalls Try.prog 11 [a0, a1] H Q := acalls_vs (lv := lv) mixed Try.func11 rfl (by kernel_rfl) (by kernel_rfl) (start_eq Q a0 a1 H ▸ h)
def step6_vc (Q : AVal → Heap → Prop) (v0 v1 v6 v7 v8 : AVal) (H : Heap) : Prop :=
 LENK v0 fun x1 =>
 BINK .lss v8 x1 fun x2 =>
 BRK x2 (spec_FlippedCells.L9 Q v0 v1 v6 v7 v8 (AVal.int .i64 1) H) (Q (AVal.tup [v7, (AVal.bool true)]) H)
theorem step6_eq (Q : AVal → Heap → Prop) (v0 v1 v6 v7 v8 : AVal) (H : Heap) : vs Try.prog lv 11 52 Try.f11.results.toList Q true 1000 (.sq (cB (cB (cR (cL (cR (cR (cR (cR (bodyOf Try.f11))))))))) :: K6) (slotsOf [(0, v0), (1, v1), (6, v6), (7, v7), (8, v8)]) H = step6_vc Q v0 v1 v6 v7 v8 H := by kernel_rfl
theorem step6 {Q : AVal → Heap → Prop} {v0 v1 v6 v7 v8 : AVal} {H : Heap} (h : step6_vc Q v0 v1 v6 v7 v8 H) : L6 Q v0 v1 v6 v7 v8 H := at_lp_vs (lv := lv) (ks := K6.tail) mixed Try.func11 (step6_eq Q v0 v1 v6 v7 v8 H ▸ h)
def step9_vc (Q : AVal → Heap → Prop) (v0 v1 v6 v7 v8 v9 : AVal) (H : Heap) : Prop :=
 LENK v0 fun x1 =>
 BINK .lss v9 x1 fun x2 =>
 BRK x2 (BINK .add v8 v9 fun x3 =>
 BINK .rem x3 (AVal.int .i64 2) fun x4 =>
 BINK .eql x4 v1 fun x5 =>
 SPL x5 (ACalls Try.prog 62 [v6, v8, v9] H fun x6 H7 =>
 BINK .neq x6 (AVal.int .i64 0) fun x8 =>
 BRK x8 (TT ∧ TT ∧ TT ∧ BSK 1 [v8, v9] H7 fun x9 H10 =>
 TT ∧ TT ∧ TT ∧ BSK 1 [x9] H10 fun x11 H12 =>
 TT ∧ TT ∧ APK 1 H12 v7 x11 fun x13 H14 =>
 BINK .add v9 (AVal.int .i64 1) fun x15 =>
 spec_FlippedCells.L9 Q v0 v1 v6 x13 v8 x15 H14) (BINK .add v9 (AVal.int .i64 1) fun x16 =>
 spec_FlippedCells.L9 Q v0 v1 v6 v7 v8 x16 H7)) (BINK .add v9 (AVal.int .i64 1) fun x17 =>
 spec_FlippedCells.L9 Q v0 v1 v6 v7 v8 x17 H)) (BINK .add v8 (AVal.int .i64 1) fun x18 =>
 spec_FlippedCells.L6 Q v0 v1 v6 v7 x18 H)
theorem step9_eq (Q : AVal → Heap → Prop) (v0 v1 v6 v7 v8 v9 : AVal) (H : Heap) : vs Try.prog lv 11 52 Try.f11.results.toList Q true 1000 (.sq (cB (cB (cR (cB (cL (cR (cB (cB (cR (cL (cR (cR (cR (cR (bodyOf Try.f11))))))))))))))) :: K9) (slotsOf [(0, v0), (1, v1), (6, v6), (7, v7), (8, v8), (9, v9)]) H = step9_vc Q v0 v1 v6 v7 v8 v9 H := by kernel_rfl
theorem step9 {Q : AVal → Heap → Prop} {v0 v1 v6 v7 v8 v9 : AVal} {H : Heap} (h : step9_vc Q v0 v1 v6 v7 v8 v9 H) : L9 Q v0 v1 v6 v7 v8 v9 H := at_lp_vs (lv := lv) (ks := K9.tail) mixed Try.func11 (step9_eq Q v0 v1 v6 v7 v8 v9 H ▸ h)
end spec_FlippedCells

/-! spec.RowWave (slots: 0 m, 1 m, 4 h, 5 i, 6 j) -/
namespace spec_RowWave
def lv : List (Nat × List Nat) := [(5, [0, 4, 5]), (8, [0, 4, 5, 6])]
noncomputable def K5 : List KF := [.lp (cB (cB (cR (cL (cR (cR (cR (bodyOf Try.f20)))))))), .bl 0, .sq (cR (cR (cR (cR (bodyOf Try.f20)))))]
def L5 (Q : AVal → Heap → Prop) (v0 v4 v5 : AVal) (H : Heap) : Prop := At Try.prog 20 30 K5 Q (slotsOf [(0, v0), (4, v4), (5, v5)]) H
theorem L5_frz {Q : AVal → Heap → Prop} {v0 v4 v5 w0 w4 w5 : AVal} {H Hf Hk : Heap} {k : Nat} (hs : Split H Hf Hk) (hp : PurL Hf k [(0, v0, w0), (4, v4, w4), (5, v5, w5)]) (h : L5 Q w0 w4 w5 Hk) : L5 Q v0 v4 v5 H := at_frz (ks := K5) hs hp h
noncomputable def K8 : List KF := [.lp (cB (cB (cR (cB (cL (cR (cB (cB (cR (cL (cR (cR (cR (bodyOf Try.f20)))))))))))))), .bl 2, .bl 1, .sq (cR (cR (cB (cB (cR (cL (cR (cR (cR (bodyOf Try.f20)))))))))), .lp (cB (cB (cR (cL (cR (cR (cR (bodyOf Try.f20)))))))), .bl 0, .sq (cR (cR (cR (cR (bodyOf Try.f20)))))]
def L8 (Q : AVal → Heap → Prop) (v0 v4 v5 v6 : AVal) (H : Heap) : Prop := At Try.prog 20 30 K8 Q (slotsOf [(0, v0), (4, v4), (5, v5), (6, v6)]) H
theorem L8_frz {Q : AVal → Heap → Prop} {v0 v4 v5 v6 w0 w4 w5 w6 : AVal} {H Hf Hk : Heap} {k : Nat} (hs : Split H Hf Hk) (hp : PurL Hf k [(0, v0, w0), (4, v4, w4), (5, v5, w5), (6, v6, w6)]) (h : L8 Q w0 w4 w5 w6 Hk) : L8 Q v0 v4 v5 v6 H := at_frz (ks := K8) hs hp h
def start_vc (Q : AVal → Heap → Prop) (a0 : AVal) (H : Heap) : Prop :=
 ACalls Try.prog 53 [a0] H fun x1 H2 =>
 NOTK x1 fun x3 =>
 BRK x3 (Q (AVal.tup [AVal.nilS, (AVal.bool false)]) H2) (ACalls Try.prog 61 [a0] H2 fun x4 H5 =>
 spec_RowWave.L5 Q a0 x4 (AVal.int .i64 1) H5)
theorem start_eq (Q : AVal → Heap → Prop) (a0 : AVal) (H : Heap) : vs Try.prog lv 20 30 Try.f20.results.toList Q true 1000 [.sq (bodyOf Try.f20)] (entry [a0]) H = start_vc Q a0 H := by kernel_rfl
theorem start {Q : AVal → Heap → Prop} {a0 : AVal} {H : Heap} (h : start_vc Q a0 H) : ACalls Try.prog 20 [a0] H Q := acalls_vs (lv := lv) mixed Try.func20 rfl (by kernel_rfl) (by kernel_rfl) (start_eq Q a0 H ▸ h)
def step5_vc (Q : AVal → Heap → Prop) (v0 v4 v5 : AVal) (H : Heap) : Prop :=
 LENK v0 fun x1 =>
 BINK .lss v5 x1 fun x2 =>
 BRK x2 (spec_RowWave.L8 Q v0 v4 v5 (AVal.int .i64 1) H) (ACalls Try.prog 74 [v4] H fun x3 H4 =>
 Q (AVal.tup [x3, (AVal.bool true)]) H4)
theorem step5_eq (Q : AVal → Heap → Prop) (v0 v4 v5 : AVal) (H : Heap) : vs Try.prog lv 20 30 Try.f20.results.toList Q true 1000 (.sq (cB (cB (cR (cL (cR (cR (cR (bodyOf Try.f20)))))))) :: K5) (slotsOf [(0, v0), (4, v4), (5, v5)]) H = step5_vc Q v0 v4 v5 H := by kernel_rfl
theorem step5 {Q : AVal → Heap → Prop} {v0 v4 v5 : AVal} {H : Heap} (h : step5_vc Q v0 v4 v5 H) : L5 Q v0 v4 v5 H := at_lp_vs (lv := lv) (ks := K5.tail) mixed Try.func20 (step5_eq Q v0 v4 v5 H ▸ h)
def step8_vc (Q : AVal → Heap → Prop) (v0 v4 v5 v6 : AVal) (H : Heap) : Prop :=
 LENK v0 fun x1 =>
 BINK .lss v6 x1 fun x2 =>
 BRK x2 (ACalls Try.prog 73 [v4, v5, v6] H fun x3 H4 =>
 BINK .add v6 (AVal.int .i64 1) fun x5 =>
 spec_RowWave.L8 Q v0 x3 v5 x5 H4) (BINK .add v5 (AVal.int .i64 1) fun x6 =>
 spec_RowWave.L5 Q v0 v4 x6 H)
theorem step8_eq (Q : AVal → Heap → Prop) (v0 v4 v5 v6 : AVal) (H : Heap) : vs Try.prog lv 20 30 Try.f20.results.toList Q true 1000 (.sq (cB (cB (cR (cB (cL (cR (cB (cB (cR (cL (cR (cR (cR (bodyOf Try.f20)))))))))))))) :: K8) (slotsOf [(0, v0), (4, v4), (5, v5), (6, v6)]) H = step8_vc Q v0 v4 v5 v6 H := by kernel_rfl
theorem step8 {Q : AVal → Heap → Prop} {v0 v4 v5 v6 : AVal} {H : Heap} (h : step8_vc Q v0 v4 v5 v6 H) : L8 Q v0 v4 v5 v6 H := at_lp_vs (lv := lv) (ks := K8.tail) mixed Try.func20 (step8_eq Q v0 v4 v5 v6 H ▸ h)
end spec_RowWave

/-! spec.ToggleCells (slots: 0 m, 1 cells, 2 m, 3 cells, 6 _, 7 cell, 8 h, 9 _, 10 cell) -/
namespace spec_ToggleCells
def lv : List (Nat × List Nat) := [(4, [0, 1, 19, 20, 21]), (11, [8, 43, 44, 45])]
noncomputable def K4 : List KF := [.lp (cB (cB (cR (cL (cR (cR (bodyOf Try.f17))))))), .bl 0, .sq (cR (cR (cR (bodyOf Try.f17))))]
def L4 (Q : AVal → Heap → Prop) (v0 v1 v19 v20 v21 : AVal) (H : Heap) : Prop := At Try.prog 17 60 K4 Q (slotsOf [(0, v0), (1, v1), (19, v19), (20, v20), (21, v21)]) H
theorem L4_frz {Q : AVal → Heap → Prop} {v0 v1 v19 v20 v21 w0 w1 w19 w20 w21 : AVal} {H Hf Hk : Heap} {k : Nat} (hs : Split H Hf Hk) (hp : PurL Hf k [(0, v0, w0), (1, v1, w1), (19, v19, w19), (20, v20, w20), (21, v21, w21)]) (h : L4 Q w0 w1 w19 w20 w21 Hk) : L4 Q v0 v1 v19 v20 v21 H := at_frz (ks := K4) hs hp h
noncomputable def K11 : List KF := [.lp (cB (cB (cR (cL (cR (cR (cR (cR (bodyOf Try.f17))))))))), .bl 2, .sq (cR (cR (cR (cR (cR (bodyOf Try.f17))))))]
def L11 (Q : AVal → Heap → Prop) (v8 v43 v44 v45 : AVal) (H : Heap) : Prop := At Try.prog 17 60 K11 Q (slotsOf [(8, v8), (43, v43), (44, v44), (45, v45)]) H
theorem L11_frz {Q : AVal → Heap → Prop} {v8 v43 v44 v45 w8 w43 w44 w45 : AVal} {H Hf Hk : Heap} {k : Nat} (hs : Split H Hf Hk) (hp : PurL Hf k [(8, v8, w8), (43, v43, w43), (44, v44, w44), (45, v45, w45)]) (h : L11 Q w8 w43 w44 w45 Hk) : L11 Q v8 v43 v44 v45 H := at_frz (ks := K11) hs hp h
def start_vc (Q : AVal → Heap → Prop) (a0 a1 : AVal) (H : Heap) : Prop :=
 ACalls Try.prog 53 [a0] H fun x1 H2 =>
 NOTK x1 fun x3 =>
 SPL x3 (Q (AVal.tup [AVal.nilS, (AVal.bool false)]) H2) (LENK a1 fun x4 =>
 BINK .gtr x4 (AVal.int .i64 200) fun x5 =>
 BRK x5 (Q (AVal.tup [AVal.nilS, (AVal.bool false)]) H2) (LENK a1 fun x6 =>
 spec_ToggleCells.L4 Q a0 a1 a1 x6 (AVal.int .i64 0) H2))
theorem start_eq (Q : AVal → Heap → Prop) (a0 a1 : AVal) (H : Heap) : vs Try.prog lv 17 60 Try.f17.results.toList Q true 1000 [.sq (bodyOf Try.f17)] (entry [a0, a1]) H = start_vc Q a0 a1 H := by kernel_rfl
theorem start {Q : AVal → Heap → Prop} {a0 a1 : AVal} {H : Heap} (h : start_vc Q a0 a1 H) : ACalls Try.prog 17 [a0, a1] H Q := acalls_vs (lv := lv) mixed Try.func17 rfl (by kernel_rfl) (by kernel_rfl) (start_eq Q a0 a1 H ▸ h)
def step4_vc (Q : AVal → Heap → Prop) (v0 v1 v19 v20 v21 : AVal) (H : Heap) : Prop :=
 BINK .lss v21 v20 fun x1 =>
 BRK x1 (TT ∧ IXK 1 v19 v21 fun x2 =>
 TT ∧ TT ∧ LDK false 1 H x2 fun x3 =>
 TT ∧ LENK x3 fun x4 =>
 BINK .neq x4 (AVal.int .i64 2) fun x5 =>
 SPL x5 (Q (AVal.tup [AVal.nilS, (AVal.bool false)]) H) (LENK v0 fun x6 =>
 TT ∧ IXK 1 x3 (AVal.int .i64 0) fun x7 =>
 TT ∧ TT ∧ LDK false 1 H x7 fun x8 =>
 TT ∧ IXK 1 x3 (AVal.int .i64 1) fun x9 =>
 TT ∧ TT ∧ LDK false 1 H x9 fun x10 =>
 ACalls Try.prog 72 [x6, x8, x10] H fun x11 H12 =>
 NOTK x11 fun x13 =>
 BRK x13 (Q (AVal.tup [AVal.nilS, (AVal.bool false)]) H12) (BINK .add v21 (AVal.int .i64 1) fun x14 =>
 spec_ToggleCells.L4 Q v0 v1 v19 v20 x14 H12))) (ACalls Try.prog 61 [v0] H fun x15 H16 =>
 LENK v1 fun x17 =>
 spec_ToggleCells.L11 Q x15 v1 x17 (AVal.int .i64 0) H16)
theorem step4_eq (Q : AVal → Heap → Prop) (v0 v1 v19 v20 v21 : AVal) (H : Heap) : vs Try.prog lv 17 60 Try.f17.results.toList Q true 1000 (.sq (cB (cB (cR (cL (cR (cR (bodyOf Try.f17))))))) :: K4) (slotsOf [(0, v0), (1, v1), (19, v19), (20, v20), (21, v21)]) H = step4_vc Q v0 v1 v19 v20 v21 H := by kernel_rfl
theorem step4 {Q : AVal → Heap → Prop} {v0 v1 v19 v20 v21 : AVal} {H : Heap} (h : step4_vc Q v0 v1 v19 v20 v21 H) : L4 Q v0 v1 v19 v20 v21 H := at_lp_vs (lv := lv) (ks := K4.tail) mixed Try.func17 (step4_eq Q v0 v1 v19 v20 v21 H ▸ h)
def step11_vc (Q : AVal → Heap → Prop) (v8 v43 v44 v45 : AVal) (H : Heap) : Prop :=
 BINK .lss v45 v44 fun x1 =>
 BRK x1 (TT ∧ IXK 1 v43 v45 fun x2 =>
 TT ∧ TT ∧ LDK false 1 H x2 fun x3 =>
 TT ∧ TT ∧ IXK 1 x3 (AVal.int .i64 0) fun x4 =>
 TT ∧ TT ∧ LDK false 1 H x4 fun x5 =>
 TT ∧ IXK 1 x3 (AVal.int .i64 1) fun x6 =>
 TT ∧ TT ∧ LDK false 1 H x6 fun x7 =>
 ACalls Try.prog 73 [v8, x5, x7] H fun x8 H9 =>
 BINK .add v45 (AVal.int .i64 1) fun x10 =>
 spec_ToggleCells.L11 Q x8 v43 v44 x10 H9) (ACalls Try.prog 74 [v8] H fun x11 H12 =>
 Q (AVal.tup [x11, (AVal.bool true)]) H12)
theorem step11_eq (Q : AVal → Heap → Prop) (v8 v43 v44 v45 : AVal) (H : Heap) : vs Try.prog lv 17 60 Try.f17.results.toList Q true 1000 (.sq (cB (cB (cR (cL (cR (cR (cR (cR (bodyOf Try.f17))))))))) :: K11) (slotsOf [(8, v8), (43, v43), (44, v44), (45, v45)]) H = step11_vc Q v8 v43 v44 v45 H := by kernel_rfl
theorem step11 {Q : AVal → Heap → Prop} {v8 v43 v44 v45 : AVal} {H : Heap} (h : step11_vc Q v8 v43 v44 v45 H) : L11 Q v8 v43 v44 v45 H := at_lp_vs (lv := lv) (ks := K11.tail) mixed Try.func17 (step11_eq Q v8 v43 v44 v45 H ▸ h)
end spec_ToggleCells


section
variable {n : Nat} {H0 : Heap} {k g : Nat} {rows : List AVal} {ks : List Nat}
/-- Heights that are owned. -/
structure OH (n : Nat) (H0 : Heap) (k g : Nat) (rows : List AVal) (ks : List Nat) (m : List (List Int)) (H : Heap) : Prop where
  good : Good n m
  tab : OTab H0.length H k g rows ks (heightsF m)
  grow : Grow H0 H
theorem gyToggle_ok {m : List (List Int)} {H : Heap} (h : OH n H0 k g rows ks m H) {i j : Nat} (i1 : 1 ≤ i) (i2 : i < n) (j1 : 1 ≤ j) (j2 : j < n) :
    ACalls Try.prog 73 [.own k g 1 0 (n + 1), I i, I j] H fun r H' => r = .own k g 1 0 (n + 1) ∧ OH n H0 k g rows ks (tog m [(i : Int), (j : Int)]) H' := by
  obtain ⟨G, ho, hG⟩ := h
  have h6 := G.n6
  have hl : (heightsF m).length = n + 1 := by rw [heights_len, G.len]
  have hO : IsOTab H0.length H (.own k g 1 0 (n + 1)) (heightsF m) := by rw [← hl]; exact ho.is rfl
  obtain ⟨row, hrow⟩ := ex_get (l := heightsF m) (k := i) (by omega)
  have hrl : row.length = n + 1 := by rw [heights_sq (getElem_mem' hrow), G.len]
  obtain ⟨y, hy⟩ := ex_get (l := row) (k := j) (by omega)
  obtain ⟨kj, gj, g1, g2, g3, g4, g5⟩ := ho.get hrow
  rw [hrl] at g2
  have hy' : (row.map I)[j]? = some (I y) := by rw [List.getElem?_map, hy]; rfl
  have ht := ho.top
  have hb2 := ht_bound G (i := i) (j := j) (by omega) (by omega)
  rw [getM_at hrow hy] at hb2
  have hwc := way_cases (heightsF m) i j
  apply spec_gyToggle.start
  unfold spec_gyToggle.start_vc
  repeat' (with_reducible first
 | refine rTT ?_
 | refine rRFL ?_
 | refine rLEN (by assumption) ?_
 | refine rLENo ?_
 | refine rEXT0 ?_
 | refine rEXT1 ?_
 | refine rNEB ?_
 | refine rEQB ?_
 | refine rLDp (by assumption) ?_
 | refine rLDf (by assumption) (by assumption) ?_
 | refine rIXo (by omega) ?_
 | (refine rIXqi (by assumption) (by assumption) ?_; intro cs o hc)
 | (refine rIXq (by assumption) (by assumption) ?_; intro cs o c hc hr)
 | refine rLDq (by assumption) ?_
 | refine ⟨rTT (rTT (rLDq (by assumption) rfl)), ?_⟩
 | refine ⟨rTT (rTT (rLDp (by assumption) rfl)), ?_⟩
 | refine ⟨rTT (rTT (rLDf (by assumption) (by assumption) rfl)), ?_⟩
 | (refine rIXk (by assumption) (by assumption) ?_; intro p hp)
 | (refine rIX (by assumption) (by omega) (by omega) ?_; intro p a ha hp)
 | refine rLDi (by assumption) ?_
 | (refine rLD (by assumption) ?_; intro c hc)
 | refine rADD (by omega) ?_
 | refine rSUB (by omega) ?_
 | refine rLSS ?_
 | refine rLEQ ?_
 | refine rGTR ?_
 | refine rGEQ ?_
 | refine rEQL ?_
 | refine rNEQ ?_
 | refine rNOT ?_
 | (refine rBRK ?_ ?_ <;> intro hb)
 | (refine rBRKn ?_ ?_ <;> intro hb)
 | (refine rBRKnb ?_ ?_ <;> intro hb)
 | (refine rBRKb ?_ ?_ <;> intro hb)
 | (refine rSPL ?_ ?_ <;> intro hb)
 | (refine rSPLn ?_ ?_ <;> intro hb)
 | (refine rSPLnb ?_ ?_ <;> intro hb)
 | (refine rSPLb ?_ ?_ <;> intro hb)
 | (exfalso; omega))
  refine ACalls.mono (heWay_own hO hl (fun r hr => by rw [heights_sq hr, G.len]) i1 (by omega) j1 (by omega) (by omega)) ?_
  rintro r H1 ⟨rfl, rfl⟩
  repeat' (first
 | (refine rMUL (by omega) ?_)
 | with_reducible first
 | refine rTT ?_
 | refine rRFL ?_
 | refine rLEN (by assumption) ?_
 | refine rLENo ?_
 | refine rEXT0 ?_
 | refine rEXT1 ?_
 | refine rNEB ?_
 | refine rEQB ?_
 | refine rLDp (by assumption) ?_
 | refine rLDf (by assumption) (by assumption) ?_
 | refine rIXo (by omega) ?_
 | (refine rIXqi (by assumption) (by assumption) ?_; intro cs o hc)
 | (refine rIXq (by assumption) (by assumption) ?_; intro cs o c hc hr)
 | refine rLDq (by assumption) ?_
 | refine ⟨rTT (rTT (rLDq (by assumption) rfl)), ?_⟩
 | refine ⟨rTT (rTT (rLDp (by assumption) rfl)), ?_⟩
 | refine ⟨rTT (rTT (rLDf (by assumption) (by assumption) rfl)), ?_⟩
 | (refine rIXk (by assumption) (by assumption) ?_; intro p hp)
 | (refine rIX (by assumption) (by omega) (by omega) ?_; intro p a ha hp)
 | refine rLDi (by assumption) ?_
 | (refine rLD (by assumption) ?_; intro c hc)
 | refine rADD (by omega) ?_
 | refine rSUB (by omega) ?_
 | refine rLSS ?_
 | refine rLEQ ?_
 | refine rGTR ?_
 | refine rGEQ ?_
 | refine rEQL ?_
 | refine rNEQ ?_
 | refine rNOT ?_
 | (refine rBRK ?_ ?_ <;> intro hb)
 | (refine rBRKn ?_ ?_ <;> intro hb)
 | (refine rBRKnb ?_ ?_ <;> intro hb)
 | (refine rBRKb ?_ ?_ <;> intro hb)
 | (refine rSPL ?_ ?_ <;> intro hb)
 | (refine rSPLn ?_ ?_ <;> intro hb)
 | (refine rSPLnb ?_ ?_ <;> intro hb)
 | (refine rSPLb ?_ ?_ <;> intro hb)
 | (exfalso; omega))
  refine rSTp g3 (by simp; omega) rfl ?_
  have hset1 : ∀ w, (row.map I).set j (I w) = (row.set j w).map I := fun w => by rw [List.map_set]
  rw [hset1]
  have ho2 := ho.put hrow g1 g3 (r' := row.set j (y + 2 * heWayF (heightsF m) i j)) (by simp)
  rw [up_set G (by omega) (by omega) hrow hy, tog_ht G i1 i2 j1 j2] at ho2
  exact ⟨rfl, tog_good G i1 i2 j1 j2, ho2, hG.set g4 _ _⟩
section
variable {Q : AVal → Heap → Prop} {col : Int}
theorem gyColour_in {i : Nat} (i1 : 1 ≤ i) (i2 : i < n) (hn : n ≤ 6) {M : List (List Int)} (hq : ∀ H', OH n H0 k g rows ks M H' → spec_gyColour.L2 Q (.own k g 1 0 (n + 1)) (I col) (I (i + 1 : Nat)) H') : ∀ (cnt j : Nat) (m : List (List Int)) (H : Heap), 1 ≤ j → j + cnt = n → OH n H0 k g rows ks m H → togs m (cellsRow (colP col i) i j cnt) = M →
    spec_gyColour.L5 Q (.own k g 1 0 (n + 1)) (I col) (I i) (I j) H := by
  intro cnt
  induction cnt with
  | zero =>
    intro j m H hj hc h he
    rw [cellsRow] at he
    subst he
    apply spec_gyColour.step5
    unfold spec_gyColour.step5_vc
    repeat' (with_reducible first
 | refine rTT ?_
 | refine rRFL ?_
 | refine rLEN (by assumption) ?_
 | refine rLENo ?_
 | refine rEXT0 ?_
 | refine rEXT1 ?_
 | refine rNEB ?_
 | refine rEQB ?_
 | refine rLDp (by assumption) ?_
 | refine rLDf (by assumption) (by assumption) ?_
 | refine rIXo (by omega) ?_
 | (refine rIXqi (by assumption) (by assumption) ?_; intro cs o hc)
 | (refine rIXq (by assumption) (by assumption) ?_; intro cs o c hc hr)
 | refine rLDq (by assumption) ?_
 | refine ⟨rTT (rTT (rLDq (by assumption) rfl)), ?_⟩
 | refine ⟨rTT (rTT (rLDp (by assumption) rfl)), ?_⟩
 | refine ⟨rTT (rTT (rLDf (by assumption) (by assumption) rfl)), ?_⟩
 | (refine rIXk (by assumption) (by assumption) ?_; intro p hp)
 | (refine rIX (by assumption) (by omega) (by omega) ?_; intro p a ha hp)
 | refine rLDi (by assumption) ?_
 | (refine rLD (by assumption) ?_; intro c hc)
 | refine rADD (by omega) ?_
 | refine rSUB (by omega) ?_
 | refine rLSS ?_
 | refine rLEQ ?_
 | refine rGTR ?_
 | refine rGEQ ?_
 | refine rEQL ?_
 | refine rNEQ ?_
 | refine rNOT ?_
 | (refine rBRK ?_ ?_ <;> intro hb)
 | (refine rBRKn ?_ ?_ <;> intro hb)
 | (refine rBRKnb ?_ ?_ <;> intro hb)
 | (refine rBRKb ?_ ?_ <;> intro hb)
 | (refine rSPL ?_ ?_ <;> intro hb)
 | (refine rSPLn ?_ ?_ <;> intro hb)
 | (refine rSPLnb ?_ ?_ <;> intro hb)
 | (refine rSPLb ?_ ?_ <;> intro hb)
 | (exfalso; omega))
    exact hq H h
  | succ cnt ih =>
    intro j m H hj hc h he
    rw [cellsRow] at he
    apply spec_gyColour.step5
    unfold spec_gyColour.step5_vc
    repeat' (first
 | (refine rREM (by decide) ?_)
 | with_reducible first
 | refine rTT ?_
 | refine rRFL ?_
 | refine rLEN (by assumption) ?_
 | refine rLENo ?_
 | refine rEXT0 ?_
 | refine rEXT1 ?_
 | refine rNEB ?_
 | refine rEQB ?_
 | refine rLDp (by assumption) ?_
 | refine rLDf (by assumption) (by assumption) ?_
 | refine rIXo (by omega) ?_
 | (refine rIXqi (by assumption) (by assumption) ?_; intro cs o hc)
 | (refine rIXq (by assumption) (by assumption) ?_; intro cs o c hc hr)
 | refine rLDq (by assumption) ?_
 | refine ⟨rTT (rTT (rLDq (by assumption) rfl)), ?_⟩
 | refine ⟨rTT (rTT (rLDp (by assumption) rfl)), ?_⟩
 | refine ⟨rTT (rTT (rLDf (by assumption) (by assumption) rfl)), ?_⟩
 | (refine rIXk (by assumption) (by assumption) ?_; intro p hp)
 | (refine rIX (by assumption) (by omega) (by omega) ?_; intro p a ha hp)
 | refine rLDi (by assumption) ?_
 | (refine rLD (by assumption) ?_; intro c hc)
 | refine rADD (by omega) ?_
 | refine rSUB (by omega) ?_
 | refine rLSS ?_
 | refine rLEQ ?_
 | refine rGTR ?_
 | refine rGEQ ?_
 | refine rEQL ?_
 | refine rNEQ ?_
 | refine rNOT ?_
 | (refine rBRK ?_ ?_ <;> intro hb)
 | (refine rBRKn ?_ ?_ <;> intro hb)
 | (refine rBRKnb ?_ ?_ <;> intro hb)
 | (refine rBRKb ?_ ?_ <;> intro hb)
 | (refine rSPL ?_ ?_ <;> intro hb)
 | (refine rSPLn ?_ ?_ <;> intro hb)
 | (refine rSPLnb ?_ ?_ <;> intro hb)
 | (refine rSPLb ?_ ?_ <;> intro hb)
 | (exfalso; omega))
    · rw [if_pos (show colP col i j = true from decide_eq_true hb)] at he
      refine ACalls.mono (gyToggle_ok h i1 i2 hj (by omega)) ?_
      rintro r H1 ⟨rfl, h1⟩
      repeat' (with_reducible first
 | refine rTT ?_
 | refine rRFL ?_
 | refine rLEN (by assumption) ?_
 | refine rLENo ?_
 | refine rEXT0 ?_
 | refine rEXT1 ?_
 | refine rNEB ?_
 | refine rEQB ?_
 | refine rLDp (by assumption) ?_
 | refine rLDf (by assumption) (by assumption) ?_
 | refine rIXo (by omega) ?_
 | (refine rIXqi (by assumption) (by assumption) ?_; intro cs o hc)
 | (refine rIXq (by assumption) (by assumption) ?_; intro cs o c hc hr)
 | refine rLDq (by assumption) ?_
 | refine ⟨rTT (rTT (rLDq (by assumption) rfl)), ?_⟩
 | refine ⟨rTT (rTT (rLDp (by assumption) rfl)), ?_⟩
 | refine ⟨rTT (rTT (rLDf (by assumption) (by assumption) rfl)), ?_⟩
 | (refine rIXk (by assumption) (by assumption) ?_; intro p hp)
 | (refine rIX (by assumption) (by omega) (by omega) ?_; intro p a ha hp)
 | refine rLDi (by assumption) ?_
 | (refine rLD (by assumption) ?_; intro c hc)
 | refine rADD (by omega) ?_
 | refine rSUB (by omega) ?_
 | refine rLSS ?_
 | refine rLEQ ?_
 | refine rGTR ?_
 | refine rGEQ ?_
 | refine rEQL ?_
 | refine rNEQ ?_
 | refine rNOT ?_
 | (refine rBRK ?_ ?_ <;> intro hb)
 | (refine rBRKn ?_ ?_ <;> intro hb)
 | (refine rBRKnb ?_ ?_ <;> intro hb)
 | (refine rBRKb ?_ ?_ <;> intro hb)
 | (refine rSPL ?_ ?_ <;> intro hb)
 | (refine rSPLn ?_ ?_ <;> intro hb)
 | (refine rSPLnb ?_ ?_ <;> intro hb)
 | (refine rSPLb ?_ ?_ <;> intro hb)
 | (exfalso; omega))
      exact ih (j + 1) _ H1 (by omega) (by omega) h1 he
    · rw [if_neg (by unfold colP; rw [decide_eq_false hb]; simp)] at he
      exact ih (j + 1) m H (by omega) (by omega) h he
theorem gyColour_out (hn : n ≤ 6) {M : List (List Int)} (hq : ∀ H', OH n H0 k g rows ks M H' → Q (.own k g 1 0 (n + 1)) H') : ∀ (cnt i : Nat) (m : List (List Int)) (H : Heap), 1 ≤ i → i + cnt = n → OH n H0 k g rows ks m H → togs m (cellsFrom (colP col) (n - 1) i cnt) = M →
    spec_gyColour.L2 Q (.own k g 1 0 (n + 1)) (I col) (I i) H := by
  intro cnt
  induction cnt with
  | zero =>
    intro i m H hi hc h he
    rw [cellsFrom] at he
    subst he
    apply spec_gyColour.step2
    unfold spec_gyColour.step2_vc
    repeat' (with_reducible first
 | refine rTT ?_
 | refine rRFL ?_
 | refine rLEN (by assumption) ?_
 | refine rLENo ?_
 | refine rEXT0 ?_
 | refine rEXT1 ?_
 | refine rNEB ?_
 | refine rEQB ?_
 | refine rLDp (by assumption) ?_
 | refine rLDf (by assumption) (by assumption) ?_
 | refine rIXo (by omega) ?_
 | (refine rIXqi (by assumption) (by assumption) ?_; intro cs o hc)
 | (refine rIXq (by assumption) (by assumption) ?_; intro cs o c hc hr)
 | refine rLDq (by assumption) ?_
 | refine ⟨rTT (rTT (rLDq (by assumption) rfl)), ?_⟩
 | refine ⟨rTT (rTT (rLDp (by assumption) rfl)), ?_⟩
 | refine ⟨rTT (rTT (rLDf (by assumption) (by assumption) rfl)), ?_⟩
 | (refine rIXk (by assumption) (by assumption) ?_; intro p hp)
 | (refine rIX (by assumption) (by omega) (by omega) ?_; intro p a ha hp)
 | refine rLDi (by assumption) ?_
 | (refine rLD (by assumption) ?_; intro c hc)
 | refine rADD (by omega) ?_
 | refine rSUB (by omega) ?_
 | refine rLSS ?_
 | refine rLEQ ?_
 | refine rGTR ?_
 | refine rGEQ ?_
 | refine rEQL ?_
 | refine rNEQ ?_
 | refine rNOT ?_
 | (refine rBRK ?_ ?_ <;> intro hb)
 | (refine rBRKn ?_ ?_ <;> intro hb)
 | (refine rBRKnb ?_ ?_ <;> intro hb)
 | (refine rBRKb ?_ ?_ <;> intro hb)
 | (refine rSPL ?_ ?_ <;> intro hb)
 | (refine rSPLn ?_ ?_ <;> intro hb)
 | (refine rSPLnb ?_ ?_ <;> intro hb)
 | (refine rSPLb ?_ ?_ <;> intro hb)
 | (exfalso; omega))
    exact hq H h
  | succ cnt ih =>
    intro i m H hi hc h he
    rw [cellsFrom] at he
    unfold togs at he
    rw [List.foldl_append] at he
    apply spec_gyColour.step2
    unfold spec_gyColour.step2_vc
    repeat' (with_reducible first
 | refine rTT ?_
 | refine rRFL ?_
 | refine rLEN (by assumption) ?_
 | refine rLENo ?_
 | refine rEXT0 ?_
 | refine rEXT1 ?_
 | refine rNEB ?_
 | refine rEQB ?_
 | refine rLDp (by assumption) ?_
 | refine rLDf (by assumption) (by assumption) ?_
 | refine rIXo (by omega) ?_
 | (refine rIXqi (by assumption) (by assumption) ?_; intro cs o hc)
 | (refine rIXq (by assumption) (by assumption) ?_; intro cs o c hc hr)
 | refine rLDq (by assumption) ?_
 | refine ⟨rTT (rTT (rLDq (by assumption) rfl)), ?_⟩
 | refine ⟨rTT (rTT (rLDp (by assumption) rfl)), ?_⟩
 | refine ⟨rTT (rTT (rLDf (by assumption) (by assumption) rfl)), ?_⟩
 | (refine rIXk (by assumption) (by assumption) ?_; intro p hp)
 | (refine rIX (by assumption) (by omega) (by omega) ?_; intro p a ha hp)
 | refine rLDi (by assumption) ?_
 | (refine rLD (by assumption) ?_; intro c hc)
 | refine rADD (by omega) ?_
 | refine rSUB (by omega) ?_
 | refine rLSS ?_
 | refine rLEQ ?_
 | refine rGTR ?_
 | refine rGEQ ?_
 | refine rEQL ?_
 | refine rNEQ ?_
 | refine rNOT ?_
 | (refine rBRK ?_ ?_ <;> intro hb)
 | (refine rBRKn ?_ ?_ <;> intro hb)
 | (refine rBRKnb ?_ ?_ <;> intro hb)
 | (refine rBRKb ?_ ?_ <;> intro hb)
 | (refine rSPL ?_ ?_ <;> intro hb)
 | (refine rSPLn ?_ ?_ <;> intro hb)
 | (refine rSPLnb ?_ ?_ <;> intro hb)
 | (refine rSPLb ?_ ?_ <;> intro hb)
 | (exfalso; omega))
    show spec_gyColour.L5 Q _ _ (I i) (I (1 : Nat)) H
    exact gyColour_in hi (by omega) hn (fun H' h' => ih (i + 1) _ H' (by omega) (by omega) h' he) (n - 1) 1 m H (by omega) (by omega) h rfl
theorem rowWave_in {v : AVal} {m0 : List (List Int)} (hv : IsTab v m0) (hl : m0.length = n) {i : Nat} (i1 : 1 ≤ i) (i2 : i < n) (hn : n ≤ 6) {M : List (List Int)} (hq : ∀ H', OH n H0 k g rows ks M H' → spec_RowWave.L5 Q v (.own k g 1 0 (n + 1)) (I (i + 1 : Nat)) H') : ∀ (cnt j : Nat) (m : List (List Int)) (H : Heap), 1 ≤ j → j + cnt = n → OH n H0 k g rows ks m H → togs m (cellsRow (fun _ => true) i j cnt) = M →
    spec_RowWave.L8 Q v (.own k g 1 0 (n + 1)) (I i) (I j) H := by
  intro cnt
  induction cnt with
  | zero =>
    intro j m H hj hc h he
    rw [cellsRow] at he
    subst he
    apply spec_RowWave.step8
    unfold spec_RowWave.step8_vc
    repeat' (with_reducible first
 | refine rTT ?_
 | refine rRFL ?_
 | refine rLEN (by assumption) ?_
 | refine rLENo ?_
 | refine rEXT0 ?_
 | refine rEXT1 ?_
 | refine rNEB ?_
 | refine rEQB ?_
 | refine rLDp (by assumption) ?_
 | refine rLDf (by assumption) (by assumption) ?_
 | refine rIXo (by omega) ?_
 | (refine rIXqi (by assumption) (by assumption) ?_; intro cs o hc)
 | (refine rIXq (by assumption) (by assumption) ?_; intro cs o c hc hr)
 | refine rLDq (by assumption) ?_
 | refine ⟨rTT (rTT (rLDq (by assumption) rfl)), ?_⟩
 | refine ⟨rTT (rTT (rLDp (by assumption) rfl)), ?_⟩
 | refine ⟨rTT (rTT (rLDf (by assumption) (by assumption) rfl)), ?_⟩
 | (refine rIXk (by assumption) (by assumption) ?_; intro p hp)
 | (refine rIX (by assumption) (by omega) (by omega) ?_; intro p a ha hp)
 | refine rLDi (by assumption) ?_
 | (refine rLD (by assumption) ?_; intro c hc)
 | refine rADD (by omega) ?_
 | refine rSUB (by omega) ?_
 | refine rLSS ?_
 | refine rLEQ ?_
 | refine rGTR ?_
 | refine rGEQ ?_
 | refine rEQL ?_
 | refine rNEQ ?_
 | refine rNOT ?_
 | (refine rBRK ?_ ?_ <;> intro hb)
 | (refine rBRKn ?_ ?_ <;> intro hb)
 | (refine rBRKnb ?_ ?_ <;> intro hb)
 | (refine rBRKb ?_ ?_ <;> intro hb)
 | (refine rSPL ?_ ?_ <;> intro hb)
 | (refine rSPLn ?_ ?_ <;> intro hb)
 | (refine rSPLnb ?_ ?_ <;> intro hb)
 | (refine rSPLb ?_ ?_ <;> intro hb)
 | (exfalso; omega))
    exact hq H h
  | succ cnt ih =>
    intro j m H hj hc h he
    rw [cellsRow, if_pos rfl] at he
    apply spec_RowWave.step8
    unfold spec_RowWave.step8_vc
    repeat' (with_reducible first
 | refine rTT ?_
 | refine rRFL ?_
 | refine rLEN (by assumption) ?_
 | refine rLENo ?_
 | refine rEXT0 ?_
 | refine rEXT1 ?_
 | refine rNEB ?_
 | refine rEQB ?_
 | refine rLDp (by assumption) ?_
 | refine rLDf (by assumption) (by assumption) ?_
 | refine rIXo (by omega) ?_
 | (refine rIXqi (by assumption) (by assumption) ?_; intro cs o hc)
 | (refine rIXq (by assumption) (by assumption) ?_; intro cs o c hc hr)
 | refine rLDq (by assumption) ?_
 | refine ⟨rTT (rTT (rLDq (by assumption) rfl)), ?_⟩
 | refine ⟨rTT (rTT (rLDp (by assumption) rfl)), ?_⟩
 | refine ⟨rTT (rTT (rLDf (by assumption) (by assumption) rfl)), ?_⟩
 | (refine rIXk (by assumption) (by assumption) ?_; intro p hp)
 | (refine rIX (by assumption) (by omega) (by omega) ?_; intro p a ha hp)
 | refine rLDi (by assumption) ?_
 | (refine rLD (by assumption) ?_; intro c hc)
 | refine rADD (by omega) ?_
 | refine rSUB (by omega) ?_
 | refine rLSS ?_
 | refine rLEQ ?_
 | refine rGTR ?_
 | refine rGEQ ?_
 | refine rEQL ?_
 | refine rNEQ ?_
 | refine rNOT ?_
 | (refine rBRK ?_ ?_ <;> intro hb)
 | (refine rBRKn ?_ ?_ <;> intro hb)
 | (refine rBRKnb ?_ ?_ <;> intro hb)
 | (refine rBRKb ?_ ?_ <;> intro hb)
 | (refine rSPL ?_ ?_ <;> intro hb)
 | (refine rSPLn ?_ ?_ <;> intro hb)
 | (refine rSPLnb ?_ ?_ <;> intro hb)
 | (refine rSPLb ?_ ?_ <;> intro hb)
 | (exfalso; omega))
    refine ACalls.mono (gyToggle_ok h i1 i2 hj (by omega)) ?_
    rintro r H1 ⟨rfl, h1⟩
    repeat' (with_reducible first
 | refine rTT ?_
 | refine rRFL ?_
 | refine rLEN (by assumption) ?_
 | refine rLENo ?_
 | refine rEXT0 ?_
 | refine rEXT1 ?_
 | refine rNEB ?_
 | refine rEQB ?_
 | refine rLDp (by assumption) ?_
 | refine rLDf (by assumption) (by assumption) ?_
 | refine rIXo (by omega) ?_
 | (refine rIXqi (by assumption) (by assumption) ?_; intro cs o hc)
 | (refine rIXq (by assumption) (by assumption) ?_; intro cs o c hc hr)
 | refine rLDq (by assumption) ?_
 | refine ⟨rTT (rTT (rLDq (by assumption) rfl)), ?_⟩
 | refine ⟨rTT (rTT (rLDp (by assumption) rfl)), ?_⟩
 | refine ⟨rTT (rTT (rLDf (by assumption) (by assumption) rfl)), ?_⟩
 | (refine rIXk (by assumption) (by assumption) ?_; intro p hp)
 | (refine rIX (by assumption) (by omega) (by omega) ?_; intro p a ha hp)
 | refine rLDi (by assumption) ?_
 | (refine rLD (by assumption) ?_; intro c hc)
 | refine rADD (by omega) ?_
 | refine rSUB (by omega) ?_
 | refine rLSS ?_
 | refine rLEQ ?_
 | refine rGTR ?_
 | refine rGEQ ?_
 | refine rEQL ?_
 | refine rNEQ ?_
 | refine rNOT ?_
 | (refine rBRK ?_ ?_ <;> intro hb)
 | (refine rBRKn ?_ ?_ <;> intro hb)
 | (refine rBRKnb ?_ ?_ <;> intro hb)
 | (refine rBRKb ?_ ?_ <;> intro hb)
 | (refine rSPL ?_ ?_ <;> intro hb)
 | (refine rSPLn ?_ ?_ <;> intro hb)
 | (refine rSPLnb ?_ ?_ <;> intro hb)
 | (refine rSPLb ?_ ?_ <;> intro hb)
 | (exfalso; omega))
    exact ih (j + 1) _ H1 (by omega) (by omega) h1 he
theorem rowWave_out {v : AVal} {m0 : List (List Int)} (hv : IsTab v m0) (hl : m0.length = n) (hn : n ≤ 6) {M : List (List Int)} (hq : ∀ H', OH n H0 k g rows ks M H' → ACalls Try.prog 74 [.own k g 1 0 (n + 1)] H' fun x3 H4 => Q (.tup [x3, .bool true]) H4) : ∀ (cnt i : Nat) (m : List (List Int)) (H : Heap), 1 ≤ i → i + cnt = n → OH n H0 k g rows ks m H → togs m (cellsFrom (fun _ _ => true) (n - 1) i cnt) = M →
    spec_RowWave.L5 Q v (.own k g 1 0 (n + 1)) (I i) H := by
  intro cnt
  induction cnt with
  | zero =>
    intro i m H hi hc h he
    rw [cellsFrom] at he
    subst he
    apply spec_RowWave.step5
    unfold spec_RowWave.step5_vc
    repeat' (with_reducible first
 | refine rTT ?_
 | refine rRFL ?_
 | refine rLEN (by assumption) ?_
 | refine rLENo ?_
 | refine rEXT0 ?_
 | refine rEXT1 ?_
 | refine rNEB ?_
 | refine rEQB ?_
 | refine rLDp (by assumption) ?_
 | refine rLDf (by assumption) (by assumption) ?_
 | refine rIXo (by omega) ?_
 | (refine rIXqi (by assumption) (by assumption) ?_; intro cs o hc)
 | (refine rIXq (by assumption) (by assumption) ?_; intro cs o c hc hr)
 | refine rLDq (by assumption) ?_
 | refine ⟨rTT (rTT (rLDq (by assumption) rfl)), ?_⟩
 | refine ⟨rTT (rTT (rLDp (by assumption) rfl)), ?_⟩
 | refine ⟨rTT (rTT (rLDf (by assumption) (by assumption) rfl)), ?_⟩
 | (refine rIXk (by assumption) (by assumption) ?_; intro p hp)
 | (refine rIX (by assumption) (by omega) (by omega) ?_; intro p a ha hp)
 | refine rLDi (by assumption) ?_
 | (refine rLD (by assumption) ?_; intro c hc)
 | refine rADD (by omega) ?_
 | refine rSUB (by omega) ?_
 | refine rLSS ?_
 | refine rLEQ ?_
 | refine rGTR ?_
 | refine rGEQ ?_
 | refine rEQL ?_
 | refine rNEQ ?_
 | refine rNOT ?_
 | (refine rBRK ?_ ?_ <;> intro hb)
 | (refine rBRKn ?_ ?_ <;> intro hb)
 | (refine rBRKnb ?_ ?_ <;> intro hb)
 | (refine rBRKb ?_ ?_ <;> intro hb)
 | (refine rSPL ?_ ?_ <;> intro hb)
 | (refine rSPLn ?_ ?_ <;> intro hb)
 | (refine rSPLnb ?_ ?_ <;> intro hb)
 | (refine rSPLb ?_ ?_ <;> intro hb)
 | (exfalso; omega))
    exact hq H h
  | succ cnt ih =>
    intro i m H hi hc h he
    rw [cellsFrom] at he
    unfold togs at he
    rw [List.foldl_append] at he
    apply spec_RowWave.step5
    unfold spec_RowWave.step5_vc
    repeat' (with_reducible first
 | refine rTT ?_
 | refine rRFL ?_
 | refine rLEN (by assumption) ?_
 | refine rLENo ?_
 | refine rEXT0 ?_
 | refine rEXT1 ?_
 | refine rNEB ?_
 | refine rEQB ?_
 | refine rLDp (by assumption) ?_
 | refine rLDf (by assumption) (by assumption) ?_
 | refine rIXo (by omega) ?_
 | (refine rIXqi (by assumption) (by assumption) ?_; intro cs o hc)
 | (refine rIXq (by assumption) (by assumption) ?_; intro cs o c hc hr)
 | refine rLDq (by assumption) ?_
 | refine ⟨rTT (rTT (rLDq (by assumption) rfl)), ?_⟩
 | refine ⟨rTT (rTT (rLDp (by assumption) rfl)), ?_⟩
 | refine ⟨rTT (rTT (rLDf (by assumption) (by assumption) rfl)), ?_⟩
 | (refine rIXk (by assumption) (by assumption) ?_; intro p hp)
 | (refine rIX (by assumption) (by omega) (by omega) ?_; intro p a ha hp)
 | refine rLDi (by assumption) ?_
 | (refine rLD (by assumption) ?_; intro c hc)
 | refine rADD (by omega) ?_
 | refine rSUB (by omega) ?_
 | refine rLSS ?_
 | refine rLEQ ?_
 | refine rGTR ?_
 | refine rGEQ ?_
 | refine rEQL ?_
 | refine rNEQ ?_
 | refine rNOT ?_
 | (refine rBRK ?_ ?_ <;> intro hb)
 | (refine rBRKn ?_ ?_ <;> intro hb)
 | (refine rBRKnb ?_ ?_ <;> intro hb)
 | (refine rBRKb ?_ ?_ <;> intro hb)
 | (refine rSPL ?_ ?_ <;> intro hb)
 | (refine rSPLn ?_ ?_ <;> intro hb)
 | (refine rSPLnb ?_ ?_ <;> intro hb)
 | (refine rSPLb ?_ ?_ <;> intro hb)
 | (exfalso; omega))
    show spec_RowWave.L8 Q _ _ (I i) (I (1 : Nat)) H
    exact rowWave_in hv hl hi (by omega) hn (fun H' h' => ih (i + 1) _ H' (by omega) (by omega) h' he) (n - 1) 1 m H (by omega) (by omega) h rfl
theorem toggleS_loop {L : List (List Int)} {vp : AVal} (hp : IsTab vp L) (hL : L.length ≤ 1000000) (hcs : Cells n L) {M : List (List Int)} (hq : ∀ H', OH n H0 k g rows ks M H' → ACalls Try.prog 74 [.own k g 1 0 (n + 1)] H' fun x3 H4 => Q (.tup [x3, .bool true]) H4) : ∀ (cnt x : Nat) (m : List (List Int)) (H : Heap), x + cnt = L.length → OH n H0 k g rows ks m H → togs m (L.drop x) = M →
    spec_ToggleCells.L11 Q (.own k g 1 0 (n + 1)) vp (I L.length) (I x) H := by
  intro cnt
  induction cnt with
  | zero =>
    intro x m H hx h he
    rw [List.drop_eq_nil_of_le (by omega)] at he
    subst he
    apply spec_ToggleCells.step11
    unfold spec_ToggleCells.step11_vc
    repeat' (with_reducible first
 | refine rTT ?_
 | refine rRFL ?_
 | refine rLEN (by assumption) ?_
 | (refine rIXk (by assumption) (by assumption) ?_; intro p hp)
 | (refine rIX (by assumption) (by omega) (by omega) ?_; intro p a ha hp)
 | refine rLDi (by assumption) ?_
 | (refine rLD (by assumption) ?_; intro c hc)
 | refine rADD (by omega) ?_
 | refine rSUB (by omega) ?_
 | refine rLSS ?_
 | refine rLEQ ?_
 | refine rGTR ?_
 | refine rGEQ ?_
 | refine rEQL ?_
 | refine rNEQ ?_
 | refine rNOT ?_
 | (refine rBRK ?_ ?_ <;> intro hb)
 | (refine rBRKn ?_ ?_ <;> intro hb)
 | (refine rBRKnb ?_ ?_ <;> intro hb)
 | (refine rBRKb ?_ ?_ <;> intro hb)
 | (refine rSPL ?_ ?_ <;> intro hb)
 | (refine rSPLn ?_ ?_ <;> intro hb)
 | (refine rSPLnb ?_ ?_ <;> intro hb)
 | (refine rSPLb ?_ ?_ <;> intro hb)
 | (exfalso; omega))
    exact hq H h
  | succ cnt ih =>
    intro x m H hx h he
    obtain ⟨cl, hcx⟩ := ex_get (l := L) (k := x) (by omega)
    rw [drop_some hcx] at he
    obtain ⟨i, j, rfl, i1, i2, j1, j2⟩ := hcs cl (getElem_mem' hcx)
    have q0 : [(i : Int), (j : Int)][0]? = some (i : Int) := rfl
    have q1 : [(i : Int), (j : Int)][1]? = some (j : Int) := rfl
    apply spec_ToggleCells.step11
    unfold spec_ToggleCells.step11_vc
    repeat' (first
 | ((refine rIXqi (i := 0) (by assumption) q0 ?_; intro cs o hc))
 | ((refine rIXqi (i := 1) (by assumption) q1 ?_; intro cs o hc))
 | with_reducible first
 | refine rTT ?_
 | refine rRFL ?_
 | refine rLEN (by assumption) ?_
 | refine rLENo ?_
 | refine rEXT0 ?_
 | refine rEXT1 ?_
 | refine rNEB ?_
 | refine rEQB ?_
 | refine rLDp (by assumption) ?_
 | refine rLDf (by assumption) (by assumption) ?_
 | refine rIXo (by omega) ?_
 | (refine rIXqi (by assumption) (by assumption) ?_; intro cs o hc)
 | (refine rIXq (by assumption) (by assumption) ?_; intro cs o c hc hr)
 | refine rLDq (by assumption) ?_
 | refine ⟨rTT (rTT (rLDq (by assumption) rfl)), ?_⟩
 | refine ⟨rTT (rTT (rLDp (by assumption) rfl)), ?_⟩
 | refine ⟨rTT (rTT (rLDf (by assumption) (by assumption) rfl)), ?_⟩
 | (refine rIXk (by assumption) (by assumption) ?_; intro p hp)
 | (refine rIX (by assumption) (by omega) (by omega) ?_; intro p a ha hp)
 | refine rLDi (by assumption) ?_
 | (refine rLD (by assumption) ?_; intro c hc)
 | refine rADD (by omega) ?_
 | refine rSUB (by omega) ?_
 | refine rLSS ?_
 | refine rLEQ ?_
 | refine rGTR ?_
 | refine rGEQ ?_
 | refine rEQL ?_
 | refine rNEQ ?_
 | refine rNOT ?_
 | (refine rBRK ?_ ?_ <;> intro hb)
 | (refine rBRKn ?_ ?_ <;> intro hb)
 | (refine rBRKnb ?_ ?_ <;> intro hb)
 | (refine rBRKb ?_ ?_ <;> intro hb)
 | (refine rSPL ?_ ?_ <;> intro hb)
 | (refine rSPLn ?_ ?_ <;> intro hb)
 | (refine rSPLnb ?_ ?_ <;> intro hb)
 | (refine rSPLb ?_ ?_ <;> intro hb)
 | (exfalso; omega))
    refine ACalls.mono (gyToggle_ok h i1 i2 j1 j2) ?_
    rintro r H1 ⟨rfl, h1⟩
    repeat' (with_reducible first
 | refine rTT ?_
 | refine rRFL ?_
 | refine rLEN (by assumption) ?_
 | (refine rIXk (by assumption) (by assumption) ?_; intro p hp)
 | (refine rIX (by assumption) (by omega) (by omega) ?_; intro p a ha hp)
 | refine rLDi (by assumption) ?_
 | (refine rLD (by assumption) ?_; intro c hc)
 | refine rADD (by omega) ?_
 | refine rSUB (by omega) ?_
 | refine rLSS ?_
 | refine rLEQ ?_
 | refine rGTR ?_
 | refine rGEQ ?_
 | refine rEQL ?_
 | refine rNEQ ?_
 | refine rNOT ?_
 | (refine rBRK ?_ ?_ <;> intro hb)
 | (refine rBRKn ?_ ?_ <;> intro hb)
 | (refine rBRKnb ?_ ?_ <;> intro hb)
 | (refine rBRKb ?_ ?_ <;> intro hb)
 | (refine rSPL ?_ ?_ <;> intro hb)
 | (refine rSPLn ?_ ?_ <;> intro hb)
 | (refine rSPLnb ?_ ?_ <;> intro hb)
 | (refine rSPLb ?_ ?_ <;> intro hb)
 | (exfalso; omega))
    exact ih (x + 1) _ H1 (by omega) h1 he
end
theorem oh_end {m : List (List Int)} {H : Heap} (h : OH n H0 k g rows ks m H) : ACalls Try.prog 74 [.own k g 1 0 (n + 1)] H fun r H' => IsTab r m ∧ H' = H0 := by
  have hl : (heightsF m).length = n + 1 := by rw [heights_len, h.good.len]
  rw [← hl]
  exact fol_endS h.good h.tab h.grow
end

section
variable {m : List (List Int)} {v : AVal} {H : Heap}
theorem gyFlip_ok {n : Nat} {col : Int} (G : Good n m) (hv : IsTab v m) : ACalls Try.prog 55 [v, I col] H fun r H' => IsTab r (flipCol m col) ∧ H' = H := by
  have h6 := G.n6
  have h1 := G.n1
  have hl := G.len
  apply spec_gyFlip.start
  unfold spec_gyFlip.start_vc
  refine ACalls.mono (heOfo_ok hv (by omega) (goodB_sq (goodB_of G))) ?_
  rintro r2 H2 ⟨h2, hF⟩
  have hlen := heights_len m
  rcases h2 with ⟨rfl, ht⟩ | ⟨k, g, rows, ks, rfl, ho⟩
  · rw [ht] at hlen; simp at hlen
  · rw [hlen, hl]
    apply spec_gyColour.start
    unfold spec_gyColour.start_vc
    show spec_gyColour.L2 _ _ _ (I (1 : Nat)) H2
    refine gyColour_out (n := n) (H0 := H) (rows := rows) (ks := ks) (M := flipCol m col) h6 (fun H' h' => oh_end h') (n - 1) 1 m H2 (by omega) (by omega) ⟨G, ho, hF.grow⟩ ?_
    unfold flipCol; rw [hl]; rfl
theorem specFlipColour_ok {col : Int} (hv : IsTab v m) (hl : m.length ≤ 100000) (hr : ∀ r ∈ m, r.length ≤ 1000000) : ACalls Try.prog 9 [v, I col] H fun r H' => TabOk (colB m col) (flipCol m col) r ∧ H' = H := by
  apply spec_FlipColour.start
  unfold spec_FlipColour.start_vc
  refine ACalls.mono (sgGood_ok hv (by omega) hr) ?_
  rintro r H1 ⟨rfl, rfl⟩
  refine rNOT (rSPLnb (fun hb => ?_) (fun hb => ?_))
  · unfold colB; rw [hb]; exact ⟨tabOk_no, rfl⟩
  · refine ACalls.mono l1In_ok ?_
    rintro r H2 ⟨rfl, rfl⟩
    refine rNOT (rBRKn (fun hc => ?_) (fun hc => ?_))
    · unfold colB; rw [hb, decide_eq_false hc]; exact ⟨tabOk_no, rfl⟩
    · refine ACalls.mono (gyFlip_ok (goodB_iff.1 hb) hv) ?_
      rintro r3 H3 ⟨h3, rfl⟩
      unfold colB; rw [hb, decide_eq_true hc]
      exact ⟨⟨_, rfl, h3⟩, rfl⟩
theorem specRowWave_ok (hv : IsTab v m) (hl : m.length ≤ 100000) (hr : ∀ r ∈ m, r.length ≤ 1000000) : ACalls Try.prog 20 [v] H fun r H' => TabOk (goodB m) (togs m (allCells' m.length)) r ∧ H' = H := by
  apply spec_RowWave.start
  unfold spec_RowWave.start_vc
  refine ACalls.mono (sgGood_ok hv (by omega) hr) ?_
  rintro r H1 ⟨rfl, rfl⟩
  refine rNOT (rBRKnb (fun hb => ?_) (fun hb => ?_))
  · rw [hb]; exact ⟨tabOk_no, rfl⟩
  · have G := goodB_iff.1 hb
    have h6 := G.n6
    have h1 := G.n1
    refine ACalls.mono (heOfo_ok hv (by omega) (goodB_sq hb)) ?_
    rintro r2 H2 ⟨h2, hF⟩
    have hlen := heights_len m
    rcases h2 with ⟨rfl, ht⟩ | ⟨k, g, rows, ks, rfl, ho⟩
    · rw [ht] at hlen; simp at hlen
    · rw [hlen]
      show spec_RowWave.L5 _ _ _ (I (1 : Nat)) H2
      refine rowWave_out (n := m.length) (H0 := H1) (rows := rows) (ks := ks) (M := togs m (allCells' m.length)) hv rfl h6 (fun H' h' => (oh_end h').mono ?_) (m.length - 1) 1 m H2 (by omega) (by omega) ⟨G, ho, hF.grow⟩ rfl
      rintro r3 H3 ⟨h3, rfl⟩
      rw [hb]; exact ⟨⟨_, rfl, h3⟩, rfl⟩
theorem toggleS_check {L : List (List Int)} {vp : AVal} (hv : IsTab v m) (hp : IsTab vp L) (hL : L.length ≤ 1000000) (hLr : ∀ c ∈ L, c.length ≤ 1000000) (hn : m.length ≤ 6) {Q : AVal → Heap → Prop} (hno : L.all (isCellB m.length) = false → Q (.tup [.nilS, .bool false]) H)
    (hyes : L.all (isCellB m.length) = true → ACalls Try.prog 61 [v] H fun x15 H16 => LENK vp fun x17 => spec_ToggleCells.L11 Q x15 vp x17 (I 0) H16) : ∀ (cnt x : Nat), x + cnt = L.length → L.all (isCellB m.length) = (L.drop x).all (isCellB m.length) →
    spec_ToggleCells.L4 Q v vp vp (I L.length) (I x) H := by
  intro cnt
  induction cnt with
  | zero =>
    intro x hx he
    rw [List.drop_eq_nil_of_le (by omega), List.all_nil] at he
    apply spec_ToggleCells.step4
    unfold spec_ToggleCells.step4_vc
    refine rLSS (rBRf (by simp; omega) ?_)
    exact hyes he
  | succ cnt ih =>
    intro x hx he
    obtain ⟨cl, hcx⟩ := ex_get (l := L) (k := x) (by omega)
    have hcl := hLr cl (getElem_mem' hcx)
    rw [drop_some hcx, List.all_cons] at he
    by_cases h2 : cl.length = 2
    · obtain ⟨xi, xj, rfl⟩ : ∃ x y, cl = [x, y] := by
        match cl, h2 with
        | [x, y], _ => exact ⟨x, y, rfl⟩
      have q0 : [xi, xj][0]? = some xi := rfl
      have q1 : [xi, xj][1]? = some xj := rfl
      have hl2 : [xi, xj].length = 2 := rfl
      apply spec_ToggleCells.step4
      unfold spec_ToggleCells.step4_vc
      repeat' (first
 | ((refine rIXk (i := 0) (by assumption) q0 ?_; intro p hp))
 | ((refine rIXk (i := 1) (by assumption) q1 ?_; intro p hp))
 | with_reducible first
 | refine rTT ?_
 | refine rRFL ?_
 | refine rLEN (by assumption) ?_
 | (refine rIXk (by assumption) (by assumption) ?_; intro p hp)
 | (refine rIX (by assumption) (by omega) (by omega) ?_; intro p a ha hp)
 | refine rLDi (by assumption) ?_
 | (refine rLD (by assumption) ?_; intro c hc)
 | refine rADD (by omega) ?_
 | refine rSUB (by omega) ?_
 | refine rLSS ?_
 | refine rLEQ ?_
 | refine rGTR ?_
 | refine rGEQ ?_
 | refine rEQL ?_
 | refine rNEQ ?_
 | refine rNOT ?_
 | (refine rBRK ?_ ?_ <;> intro hb)
 | (refine rBRKn ?_ ?_ <;> intro hb)
 | (refine rBRKnb ?_ ?_ <;> intro hb)
 | (refine rBRKb ?_ ?_ <;> intro hb)
 | (refine rSPL ?_ ?_ <;> intro hb)
 | (refine rSPLn ?_ ?_ <;> intro hb)
 | (refine rSPLnb ?_ ?_ <;> intro hb)
 | (refine rSPLb ?_ ?_ <;> intro hb)
 | (exfalso; omega))
      refine ACalls.mono (heCell_ok (by constructor <;> omega)) ?_
      rintro r H1 ⟨rfl, rfl⟩
      have hce : isCellB m.length [xi, xj] = decide ((1 ≤ xi ∧ xi ≤ (m.length : Int) - 1) ∧ (1 ≤ xj ∧ xj ≤ (m.length : Int) - 1)) := by
        show (decide (2 = 2) && (decide (1 ≤ xi ∧ xi ≤ (m.length : Int) - 1) && decide (1 ≤ xj ∧ xj ≤ (m.length : Int) - 1))) = _
        rw [← Bool.decide_and]; rfl
      refine rNOT (rBRKn (fun hb => ?_) (fun hb => ?_))
      · exact hno (by rw [he, hce, decide_eq_false hb]; rfl)
      · repeat' (with_reducible first
 | refine rTT ?_
 | refine rRFL ?_
 | refine rLEN (by assumption) ?_
 | (refine rIXk (by assumption) (by assumption) ?_; intro p hp)
 | (refine rIX (by assumption) (by omega) (by omega) ?_; intro p a ha hp)
 | refine rLDi (by assumption) ?_
 | (refine rLD (by assumption) ?_; intro c hc)
 | refine rADD (by omega) ?_
 | refine rSUB (by omega) ?_
 | refine rLSS ?_
 | refine rLEQ ?_
 | refine rGTR ?_
 | refine rGEQ ?_
 | refine rEQL ?_
 | refine rNEQ ?_
 | refine rNOT ?_
 | (refine rBRK ?_ ?_ <;> intro hb)
 | (refine rBRKn ?_ ?_ <;> intro hb)
 | (refine rBRKnb ?_ ?_ <;> intro hb)
 | (refine rBRKb ?_ ?_ <;> intro hb)
 | (refine rSPL ?_ ?_ <;> intro hb)
 | (refine rSPLn ?_ ?_ <;> intro hb)
 | (refine rSPLnb ?_ ?_ <;> intro hb)
 | (refine rSPLb ?_ ?_ <;> intro hb)
 | (exfalso; omega))
        exact ih (x + 1) (by omega) (by rw [he, hce, decide_eq_true hb]; rfl)
    · apply spec_ToggleCells.step4
      unfold spec_ToggleCells.step4_vc
      repeat' (with_reducible first
 | refine rTT ?_
 | refine rRFL ?_
 | refine rLEN (by assumption) ?_
 | (refine rIXk (by assumption) (by assumption) ?_; intro p hp)
 | (refine rIX (by assumption) (by omega) (by omega) ?_; intro p a ha hp)
 | refine rLDi (by assumption) ?_
 | (refine rLD (by assumption) ?_; intro c hc)
 | refine rADD (by omega) ?_
 | refine rSUB (by omega) ?_
 | refine rLSS ?_
 | refine rLEQ ?_
 | refine rGTR ?_
 | refine rGEQ ?_
 | refine rEQL ?_
 | refine rNEQ ?_
 | refine rNOT ?_
 | (refine rBRK ?_ ?_ <;> intro hb)
 | (refine rBRKn ?_ ?_ <;> intro hb)
 | (refine rBRKnb ?_ ?_ <;> intro hb)
 | (refine rBRKb ?_ ?_ <;> intro hb)
 | (refine rSPL ?_ ?_ <;> intro hb)
 | (refine rSPLn ?_ ?_ <;> intro hb)
 | (refine rSPLnb ?_ ?_ <;> intro hb)
 | (refine rSPLb ?_ ?_ <;> intro hb)
 | (exfalso; omega))
      exact hno (by rw [he]; unfold isCellB; rw [decide_eq_false h2]; rfl)
theorem specToggleCells_ok {L : List (List Int)} {vp : AVal} (hv : IsTab v m) (hp : IsTab vp L) (hl : m.length ≤ 100000) (hr : ∀ r ∈ m, r.length ≤ 1000000) (hL : L.length ≤ 1000000) (hLr : ∀ c ∈ L, c.length ≤ 1000000) : ACalls Try.prog 17 [v, vp] H fun r H' => TabOk (toggleB m L) (togs m L) r ∧ H' = H := by
  apply spec_ToggleCells.start
  unfold spec_ToggleCells.start_vc
  refine ACalls.mono (sgGood_ok hv (by omega) hr) ?_
  rintro r H1 ⟨rfl, rfl⟩
  refine rNOT (rSPLnb (fun hb => ?_) (fun hb => ?_))
  · unfold toggleB; rw [hb]; exact ⟨tabOk_no, rfl⟩
  · refine rLEN hp (rGTR (rBRK (fun hc => ?_) (fun hc => ?_)))
    · unfold toggleB; rw [hb, decide_eq_false (by omega)]; exact ⟨tabOk_no, rfl⟩
    · have G := goodB_iff.1 hb
      have h6 := G.n6
      refine rLEN hp ?_
      refine toggleS_check hv hp hL hLr h6 (fun h => ?_) (fun h => ?_) L.length 0 (by omega) rfl
      · unfold toggleB; rw [hb, decide_eq_true (by omega), h]; exact ⟨tabOk_no, rfl⟩
      · refine ACalls.mono (heOfo_ok hv (by omega) (goodB_sq hb)) ?_
        rintro r2 H2 ⟨h2, hF⟩
        refine rLEN hp ?_
        have hlen := heights_len m
        rcases h2 with ⟨rfl, ht⟩ | ⟨k, g, rows, ks, rfl, ho⟩
        · rw [ht] at hlen; simp at hlen
        · rw [hlen]
          refine toggleS_loop (n := m.length) (H0 := H1) (rows := rows) (ks := ks) (M := togs m L) hp hL (all_Cells h) (fun H' h' => (oh_end h').mono ?_) L.length 0 m H2 (by omega) ⟨G, ho, hF.grow⟩ rfl
          rintro r3 H3 ⟨h3, rfl⟩
          unfold toggleB; rw [hb, decide_eq_true (by omega), h]
          exact ⟨⟨_, rfl, h3⟩, rfl⟩
end

/-! ### Cells that are flipped -/
section
variable {m : List (List Int)} {v vh : AVal} {n : Nat} {col : Int} {H0 : Heap} {Q : AVal → Heap → Prop}
def flipP (m : List (List Int)) (col : Int) (i j : Nat) : Bool := colP col i j && decide (heWayF (heightsF m) i j ≠ 0)
theorem flippedS_in (G : Good n m) (hv : IsTab v m) (hh : IsTab vh (heightsF m)) {i : Nat} (hi : 1 ≤ i) (hi2 : i < n) {L : List (List Int)}
    (hq : ∀ v5 H ls, Bld H0 v5 H ls → Rel2 IsInts ls (L ++ cellsRow (flipP m col i) i 1 (n - 1)) → spec_FlippedCells.L6 Q v (I col) vh v5 (I (i + 1 : Nat)) H) :
    ∀ (c j : Nat) (v5 : AVal) (H : Heap) (ls : List AVal) (L1 : List (List Int)), 1 ≤ j → j + c = n → Bld H0 v5 H ls → Rel2 IsInts ls L1 → ls.length ≤ 1000 * i + j → L1 ++ cellsRow (flipP m col i) i j c = L ++ cellsRow (flipP m col i) i 1 (n - 1) →
    spec_FlippedCells.L9 Q v (I col) vh v5 (I i) (I j) H := by
  have h6 := G.n6
  have hl := G.len
  intro c
  induction c with
  | zero =>
    intro j v5 H ls L1 hj hjm hb0 hr hls he
    rw [cellsRow, List.append_nil] at he
    apply spec_FlippedCells.step9
    unfold spec_FlippedCells.step9_vc
    repeat' (with_reducible first
 | refine rTT ?_
 | refine rRFL ?_
 | refine rLEN (by assumption) ?_
 | (refine rIXk (by assumption) (by assumption) ?_; intro p hp)
 | (refine rIX (by assumption) (by omega) (by omega) ?_; intro p a ha hp)
 | refine rLDi (by assumption) ?_
 | (refine rLD (by assumption) ?_; intro c hc)
 | refine rADD (by omega) ?_
 | refine rSUB (by omega) ?_
 | refine rLSS ?_
 | refine rLEQ ?_
 | refine rGTR ?_
 | refine rGEQ ?_
 | refine rEQL ?_
 | refine rNEQ ?_
 | refine rNOT ?_
 | (refine rBRK ?_ ?_ <;> intro hb)
 | (refine rBRKn ?_ ?_ <;> intro hb)
 | (refine rBRKnb ?_ ?_ <;> intro hb)
 | (refine rBRKb ?_ ?_ <;> intro hb)
 | (refine rSPL ?_ ?_ <;> intro hb)
 | (refine rSPLn ?_ ?_ <;> intro hb)
 | (refine rSPLnb ?_ ?_ <;> intro hb)
 | (refine rSPLb ?_ ?_ <;> intro hb)
 | (exfalso; omega))
    exact hq _ _ ls hb0 (he ▸ hr)
  | succ c ih =>
    intro j v5 H ls L1 hj hjm hb0 hr hls he
    rw [cellsRow] at he
    apply spec_FlippedCells.step9
    unfold spec_FlippedCells.step9_vc
    repeat' (first
 | (refine rREM (by decide) ?_)
 | with_reducible first
 | refine rTT ?_
 | refine rRFL ?_
 | refine rLEN (by assumption) ?_
 | (refine rIXk (by assumption) (by assumption) ?_; intro p hp)
 | (refine rIX (by assumption) (by omega) (by omega) ?_; intro p a ha hp)
 | refine rLDi (by assumption) ?_
 | (refine rLD (by assumption) ?_; intro c hc)
 | refine rADD (by omega) ?_
 | refine rSUB (by omega) ?_
 | refine rLSS ?_
 | refine rLEQ ?_
 | refine rGTR ?_
 | refine rGEQ ?_
 | refine rEQL ?_
 | refine rNEQ ?_
 | refine rNOT ?_
 | (refine rBRK ?_ ?_ <;> intro hb)
 | (refine rBRKn ?_ ?_ <;> intro hb)
 | (refine rBRKnb ?_ ?_ <;> intro hb)
 | (refine rBRKb ?_ ?_ <;> intro hb)
 | (refine rSPL ?_ ?_ <;> intro hb)
 | (refine rSPLn ?_ ?_ <;> intro hb)
 | (refine rSPLnb ?_ ?_ <;> intro hb)
 | (refine rSPLb ?_ ?_ <;> intro hb)
 | (exfalso; omega))
    · refine ACalls.mono (heWay_ok hh (by rw [heights_len, hl]) (fun r hr => by rw [heights_sq hr, hl]) hi (by omega) hj (by omega) (by omega)) ?_
      rintro r H1 ⟨rfl, rfl⟩
      have hcp : colP col i j = true := decide_eq_true hb
      refine rNEQ (rBRK (fun hw => ?_) (fun hw => ?_))
      · rw [if_pos (by unfold flipP; rw [hcp, decide_eq_true hw]; rfl), ← List.append_assoc] at he
        refine rTT (rTT (rTT (rLITn (rLITc rfl (rLITc rfl (rLITe ?_))))))
        refine rTT (rTT (rTT (rLIT1 rfl ?_)))
        refine rTT (rTT (rAPK1 hb0 (by omega) fun v' H' hb1 => ?_))
        repeat' (with_reducible first
 | refine rTT ?_
 | refine rRFL ?_
 | refine rLEN (by assumption) ?_
 | (refine rIXk (by assumption) (by assumption) ?_; intro p hp)
 | (refine rIX (by assumption) (by omega) (by omega) ?_; intro p a ha hp)
 | refine rLDi (by assumption) ?_
 | (refine rLD (by assumption) ?_; intro c hc)
 | refine rADD (by omega) ?_
 | refine rSUB (by omega) ?_
 | refine rLSS ?_
 | refine rLEQ ?_
 | refine rGTR ?_
 | refine rGEQ ?_
 | refine rEQL ?_
 | refine rNEQ ?_
 | refine rNOT ?_
 | (refine rBRK ?_ ?_ <;> intro hb)
 | (refine rBRKn ?_ ?_ <;> intro hb)
 | (refine rBRKnb ?_ ?_ <;> intro hb)
 | (refine rBRKb ?_ ?_ <;> intro hb)
 | (refine rSPL ?_ ?_ <;> intro hb)
 | (refine rSPLn ?_ ?_ <;> intro hb)
 | (refine rSPLnb ?_ ?_ <;> intro hb)
 | (refine rSPLb ?_ ?_ <;> intro hb)
 | (exfalso; omega))
        exact ih (j + 1) v' H' _ (L1 ++ [[(i : Int), (j : Int)]]) (by omega) (by omega) hb1 (hr.snoc (isInts_pair _ _)) (by simp; omega) he
      · rw [if_neg (by unfold flipP; rw [hcp, decide_eq_false hw]; decide), List.nil_append] at he
        repeat' (with_reducible first
 | refine rTT ?_
 | refine rRFL ?_
 | refine rLEN (by assumption) ?_
 | (refine rIXk (by assumption) (by assumption) ?_; intro p hp)
 | (refine rIX (by assumption) (by omega) (by omega) ?_; intro p a ha hp)
 | refine rLDi (by assumption) ?_
 | (refine rLD (by assumption) ?_; intro c hc)
 | refine rADD (by omega) ?_
 | refine rSUB (by omega) ?_
 | refine rLSS ?_
 | refine rLEQ ?_
 | refine rGTR ?_
 | refine rGEQ ?_
 | refine rEQL ?_
 | refine rNEQ ?_
 | refine rNOT ?_
 | (refine rBRK ?_ ?_ <;> intro hb)
 | (refine rBRKn ?_ ?_ <;> intro hb)
 | (refine rBRKnb ?_ ?_ <;> intro hb)
 | (refine rBRKb ?_ ?_ <;> intro hb)
 | (refine rSPL ?_ ?_ <;> intro hb)
 | (refine rSPLn ?_ ?_ <;> intro hb)
 | (refine rSPLnb ?_ ?_ <;> intro hb)
 | (refine rSPLb ?_ ?_ <;> intro hb)
 | (exfalso; omega))
        exact ih (j + 1) v5 _ ls L1 (by omega) (by omega) hb0 hr (by omega) he
    · rw [if_neg (by unfold flipP colP; rw [decide_eq_false hb]; simp), List.nil_append] at he
      exact ih (j + 1) v5 _ ls L1 (by omega) (by omega) hb0 hr (by omega) he
theorem flippedS_out (G : Good n m) (hv : IsTab v m) (hh : IsTab vh (heightsF m)) {L : List (List Int)} (hq : ∀ v5 H ls, Bld H0 v5 H ls → Rel2 IsInts ls L → Q (.tup [v5, .bool true]) H) :
    ∀ (c i : Nat) (v5 : AVal) (H : Heap) (ls : List AVal) (L1 : List (List Int)), 1 ≤ i → i + c = n → Bld H0 v5 H ls → Rel2 IsInts ls L1 → ls.length ≤ 1000 * i → L1 ++ cellsFrom (flipP m col) (n - 1) i c = L →
    spec_FlippedCells.L6 Q v (I col) vh v5 (I i) H := by
  have h6 := G.n6
  have hl := G.len
  intro c
  induction c with
  | zero =>
    intro i v5 H ls L1 hi him hb0 hr hls he
    rw [cellsFrom, List.append_nil] at he
    apply spec_FlippedCells.step6
    unfold spec_FlippedCells.step6_vc
    repeat' (with_reducible first
 | refine rTT ?_
 | refine rRFL ?_
 | refine rLEN (by assumption) ?_
 | (refine rIXk (by assumption) (by assumption) ?_; intro p hp)
 | (refine rIX (by assumption) (by omega) (by omega) ?_; intro p a ha hp)
 | refine rLDi (by assumption) ?_
 | (refine rLD (by assumption) ?_; intro c hc)
 | refine rADD (by omega) ?_
 | refine rSUB (by omega) ?_
 | refine rLSS ?_
 | refine rLEQ ?_
 | refine rGTR ?_
 | refine rGEQ ?_
 | refine rEQL ?_
 | refine rNEQ ?_
 | refine rNOT ?_
 | (refine rBRK ?_ ?_ <;> intro hb)
 | (refine rBRKn ?_ ?_ <;> intro hb)
 | (refine rBRKnb ?_ ?_ <;> intro hb)
 | (refine rBRKb ?_ ?_ <;> intro hb)
 | (refine rSPL ?_ ?_ <;> intro hb)
 | (refine rSPLn ?_ ?_ <;> intro hb)
 | (refine rSPLnb ?_ ?_ <;> intro hb)
 | (refine rSPLb ?_ ?_ <;> intro hb)
 | (exfalso; omega))
    exact hq _ _ ls hb0 (he ▸ hr)
  | succ c ih =>
    intro i v5 H ls L1 hi him hb0 hr hls he
    apply spec_FlippedCells.step6
    unfold spec_FlippedCells.step6_vc
    repeat' (with_reducible first
 | refine rTT ?_
 | refine rRFL ?_
 | refine rLEN (by assumption) ?_
 | (refine rIXk (by assumption) (by assumption) ?_; intro p hp)
 | (refine rIX (by assumption) (by omega) (by omega) ?_; intro p a ha hp)
 | refine rLDi (by assumption) ?_
 | (refine rLD (by assumption) ?_; intro c hc)
 | refine rADD (by omega) ?_
 | refine rSUB (by omega) ?_
 | refine rLSS ?_
 | refine rLEQ ?_
 | refine rGTR ?_
 | refine rGEQ ?_
 | refine rEQL ?_
 | refine rNEQ ?_
 | refine rNOT ?_
 | (refine rBRK ?_ ?_ <;> intro hb)
 | (refine rBRKn ?_ ?_ <;> intro hb)
 | (refine rBRKnb ?_ ?_ <;> intro hb)
 | (refine rBRKb ?_ ?_ <;> intro hb)
 | (refine rSPL ?_ ?_ <;> intro hb)
 | (refine rSPLn ?_ ?_ <;> intro hb)
 | (refine rSPLnb ?_ ?_ <;> intro hb)
 | (refine rSPLb ?_ ?_ <;> intro hb)
 | (exfalso; omega))
    show spec_FlippedCells.L9 Q v (I col) vh v5 (I i) (I (1 : Nat)) H
    refine flippedS_in G hv hh hi (by omega) (fun v5 H ls' hb1 hr1 => ?_) (n - 1) 1 v5 H ls L1 (by omega) (by omega) hb0 hr (by omega) rfl
    refine ih (i + 1) v5 H ls' _ (by omega) (by omega) hb1 hr1 ?_ ?_
    · rw [hr1.1, List.length_append, ← hr.1]
      have := cellsRow_len (flipP m col i) i (n - 1) 1
      omega
    · rw [cellsFrom] at he
      rw [List.append_assoc]; exact he
theorem specFlippedCells_ok {H : Heap} (hv : IsTab v m) (hl : m.length ≤ 100000) (hr : ∀ r ∈ m, r.length ≤ 1000000) : ACalls Try.prog 11 [v, I col] H fun r H' => TabOk (colB m col) (flippedF m col) r ∧ H' = H := by
  apply ACalls.pure
  apply spec_FlippedCells.start
  unfold spec_FlippedCells.start_vc
  refine ACalls.mono (sgGood_ok hv (by omega) hr) ?_
  rintro r H1 ⟨rfl, rfl⟩
  refine rNOT (rSPLnb (fun hb => ?_) (fun hb => ?_))
  · unfold colB; rw [hb]; exact ⟨HSub.refl _, 1, _, Pur.refl _ _ _, tabOk_no, rfl⟩
  · refine ACalls.mono l1In_ok ?_
    rintro r H2 ⟨rfl, rfl⟩
    refine rNOT (rBRKn (fun hc => ?_) (fun hc => ?_))
    · unfold colB; rw [hb, decide_eq_false hc]; exact ⟨HSub.refl _, 1, _, Pur.refl _ _ _, tabOk_no, rfl⟩
    · have G := goodB_iff.1 hb
      have h1 := G.n1
      refine ACalls.mono (heOf_okF hv hl (goodB_sq hb)) ?_
      rintro r3 H3 ⟨h3, rfl⟩
      show spec_FlippedCells.L6 _ _ _ _ _ (I (1 : Nat)) H3
      refine flippedS_out (n := m.length) (L := flippedF m col) G hv h3 (fun v5 H5 ls hb5 hr5 => ?_) (m.length - 1) 1 _ _ [] [] (by omega) (by omega) (bld_nil H3) Rel2.nil (by simp) rfl
      obtain ⟨hs, kk, v', p1, p2⟩ := hb5.rel (R := IsInts) (Q := fun r _ => IsTab r (flippedF m col)) hr5 (fun r h => h)
      refine ⟨hs, kk + 1, _, pur_pair p1 true, ?_, rfl⟩
      unfold colB; rw [hb, decide_eq_true hc]
      exact ⟨_, rfl, p2⟩
end

end Go.Proofs.Ytccioplhchmilaa.AL

set_option linter.unusedVariables false
set_option maxRecDepth 100000
namespace Go.Proofs.Ytccioplhchmilaa.AL
open Go Go.Proofs Go.RowKit

/-- What a law says. -/
def True1 (H0 : Heap) : AVal → Heap → Prop := fun r H => r = .bool true ∧ H = H0
theorem enter_bytes {w : World} {a : Option Addr} {len cap : Nat} {z : List Int} (h : (a = none ∧ len = 0 ∧ cap = 0 ∧ z = []) ∨
    ∃ x, a = some x ∧ len ≤ cap ∧ cap ≤ maxLen ∧ z.length = cap ∧ (∀ i, i < z.length → w.cell? (x.add i) = some (.int .u8 (z.getD i 0))) ∧ ∀ n ∈ z, (Lit.int .u8 n).wf = true) :
    ∃ (v : AVal) (code : List Int), VRel w (fun g => g < w.heap.size) v (.slice a len cap) ∧ IsSl IsB v code ∧ code.length ≤ 9223372036854775807 := by
  rcases h with ⟨rfl, rfl, rfl, rfl⟩ | ⟨x, rfl, hl, hm, hz, hcell, hwf⟩
  · exact ⟨.nilS, [], by simp only [VRel], .inl ⟨rfl, rfl⟩, by simp⟩
  · have hmax : maxLen ≤ 9223372036854775807 := by decide
    by_cases h0 : len = 0
    · subst h0
      refine ⟨.sl false 0 [], [], ?_, isSl_mk rfl rfl (by intro i c a h; simp at h), by simp⟩
      simp only [VRel]
      exact .inl ⟨trivial, trivial, _, _, rfl, by intro h; cases h⟩
    · obtain ⟨b, off, spot⟩ := x
      have hc := hcell 0 (by omega)
      have hspot : spot = none := by simpa [Addr.add] using World.cell?_spot hc
      subst hspot
      have hb : b < w.heap.size := by
        unfold World.cell? at hc
        rcases hn : w.heap[b]? with _ | o
        · simp [Addr.add, hn] at hc
        · exact (Array.getElem?_eq_some_iff.1 hn).1
      have hcells : ∀ i, i < z.length → w.cell? ⟨b, off + i, none⟩ = some (.int .u8 (z.getD i 0)) := fun i hi => by
        have := hcell i hi
        unfold Addr.add at this
        split at this
        · rename_i h; subst h; exact this
        · exact this
      refine ⟨.sl false len ((z.take len).map (.int .u8)), z.take len, ?_, isSl_mk (by simp; omega) (by simp) ?_, by simp; omega⟩
      · simp only [VRel]
        refine .inr ⟨b, off, cap, (z.take len).map (.int .u8), rfl, hl, (by intro h; cases h), hb, ?_, ?_, ?_⟩
        · intro j u hu
          rw [List.getElem?_map] at hu
          have hj : j < (z.take len).length := by
            rcases Nat.lt_or_ge j (z.take len).length with h | h
            · exact h
            · rw [List.getElem?_eq_none h] at hu; cases hu
          have hj2 : j < z.length := by simp at hj; omega
          rw [List.getElem?_eq_getElem hj] at hu
          cases hu
          rw [hcells j hj2]
          simp [List.getD, hj2]
        · intro u hu
          simp only [List.mem_map] at hu
          obtain ⟨n, _, rfl⟩ := hu
          rfl
        · rw [VRels_iff]
          refine ⟨by simp, fun j c u h1 h2 => ?_⟩
          rw [List.getElem?_map] at h1 h2
          cases hq : (z.take len)[j]? with
          | none => rw [hq] at h1; cases h1
          | some n => rw [hq] at h1 h2; cases h1; cases h2; simp only [VRel]
      · intro i c a hc ha
        rw [List.getElem?_map, ha] at hc
        cases hc
        have hw := hwf a (List.mem_of_mem_take (List.mem_of_getElem? ha))
        refine ⟨rfl, ?_⟩
        simp [Lit.wf, IntKind.min, IntKind.max, IntKind.bits, IntKind.signed] at hw
        omega
theorem law_calls {P : Program} {f : FuncId} (h : ∀ (u v : AVal) (code more : List Int), IsSl IsB u code → code.length ≤ 9223372036854775807 → IsSl IsB v more → more.length ≤ 9223372036854775807 → ACalls P f [u, v] [] (True1 []))
    {w : World} {a0 a1 : Option Addr} {len0 cap0 len1 cap1 : Nat} {z0 z1 : List Int}
    (h0 : (a0 = none ∧ len0 = 0 ∧ cap0 = 0 ∧ z0 = []) ∨
      ∃ x, a0 = some x ∧ len0 ≤ cap0 ∧ cap0 ≤ maxLen ∧ z0.length = cap0 ∧ (∀ i, i < z0.length → w.cell? (x.add i) = some (.int .u8 (z0.getD i 0))) ∧ ∀ n ∈ z0, (Lit.int .u8 n).wf = true)
    (h1 : (a1 = none ∧ len1 = 0 ∧ cap1 = 0 ∧ z1 = []) ∨
      ∃ x, a1 = some x ∧ len1 ≤ cap1 ∧ cap1 ≤ maxLen ∧ z1.length = cap1 ∧ (∀ i, i < z1.length → w.cell? (x.add i) = some (.int .u8 (z1.getD i 0))) ∧ ∀ n ∈ z1, (Lit.int .u8 n).wf = true) :
    Calls P f #[.slice a0 len0 cap0, .slice a1 len1 cap1] w fun e w' => e = .returned (.bool true) ∧ Below w.heap.size w w' := by
  obtain ⟨u, code, q1, q2, q3⟩ := enter_bytes h0
  obtain ⟨v, more, p1, p2, p3⟩ := enter_bytes h1
  have hH : HRel w (fun g => g < w.heap.size) w.heap.size [] := ⟨Nat.le_refl _, fun g h => h, fun i g cs h => by simp [hget] at h, fun i j g cs ds h => by simp [hget] at h⟩
  have hV : VRels w (fun g => g < w.heap.size) [u, v] [.slice a0 len0 cap0, .slice a1 len1 cap1] := by
    simp only [VRels]
    exact ⟨_, _, rfl, q1, _, _, rfl, p1, rfl⟩
  refine ((h u v code more q2 q3 p2 p3).2 w _ _ _ (fun v w' => v = .bool true ∧ Below w.heap.size w w') hH hV ?_).mono ?_
  · rintro r H' w' I' v' ⟨rfl, rfl⟩ _ hv he
    simp only [VRel] at hv
    exact ⟨hv, he.below⟩
  · rintro e w' ⟨v', rfl, rfl, h2⟩
    exact ⟨rfl, h2⟩

end Go.Proofs.Ytccioplhchmilaa.AL

set_option linter.unusedVariables false
set_option maxRecDepth 100000
namespace Go.Proofs.Ytccioplhchmilaa.AL
open Go Go.Proofs

/-! spec.DrawFlipColour (slots: 0 code, 1 code, 4 c) -/
namespace spec_DrawFlipColour
def lv : List (Nat × List Nat) := []
def start_vc (Q : AVal → Heap → Prop) (a0 : AVal) (H : Heap) : Prop :=
 TT ∧ BLDK [AVal.nilS, (AVal.int .i64 0), (AVal.int .u64 0)] [((0, 1), a0)] fun x1 =>
 BOXK x1 H fun x2 H3 =>
 ACalls Try.prog 49 [x2, (AVal.int .i64 5)] H3 fun x4 H5 =>
 TT ∧ TT ∧ TT ∧ BSK 1 [(AVal.int .i64 0), (AVal.int .i64 1), (AVal.int .i64 0), (AVal.int .i64 1), (AVal.int .i64 2), (AVal.int .i64 (-1))] H5 fun x6 H7 =>
 ACalls Try.prog 50 [x2, x6] H7 fun x8 H9 =>
 Q (AVal.tup [x4, x8]) H9
theorem start_eq (Q : AVal → Heap → Prop) (a0 : AVal) (H : Heap) : vs Try.prog lv 7 13 Try.f7.results.toList Q true 1000 [.sq (bodyOf Try.f7)] (entry [a0]) H = start_vc Q a0 H := by kernel_rfl
theorem start {Q : AVal → Heap → Prop} {a0 : AVal} {H : Heap} (h : start_vc Q a0 H) : ACalls Try.prog 7 [a0] H Q := acalls_vs (lv := lv) mixed Try.func7 rfl (by kernel_rfl) (by kernel_rfl) (start_eq Q a0 H ▸ h)
end spec_DrawFlipColour

/-! spec.DrawRowWave (slots: 0 code, 1 code) -/
namespace spec_DrawRowWave
def lv : List (Nat × List Nat) := []
def start_vc (Q : AVal → Heap → Prop) (a0 : AVal) (H : Heap) : Prop :=
 ACalls Try.prog 75 [a0] H fun x1 H2 =>
 Q x1 H2
theorem start_eq (Q : AVal → Heap → Prop) (a0 : AVal) (H : Heap) : vs Try.prog lv 18 5 Try.f18.results.toList Q true 1000 [.sq (bodyOf Try.f18)] (entry [a0]) H = start_vc Q a0 H := by kernel_rfl
theorem start {Q : AVal → Heap → Prop} {a0 : AVal} {H : Heap} (h : start_vc Q a0 H) : ACalls Try.prog 18 [a0] H Q := acalls_vs (lv := lv) mixed Try.func18 rfl (by kernel_rfl) (by kernel_rfl) (start_eq Q a0 H ▸ h)
end spec_DrawRowWave

/-! spec.DrawToggleCells (slots: 0 code, 1 code, 4 c, 5 m, 6 cells, 7 n) -/
namespace spec_DrawToggleCells
def lv : List (Nat × List Nat) := [(5, [4, 5, 6, 7])]
noncomputable def K5 : List KF := [.lp (cB (cB (cR (cL (cR (cR (cR (cR (bodyOf Try.f15))))))))), .bl 0, .sq (cR (cR (cR (cR (cR (bodyOf Try.f15))))))]
def L5 (Q : AVal → Heap → Prop) (v4 v5 v6 v7 : AVal) (H : Heap) : Prop := At Try.prog 15 55 K5 Q (slotsOf [(4, v4), (5, v5), (6, v6), (7, v7)]) H
theorem L5_frz {Q : AVal → Heap → Prop} {v4 v5 v6 v7 w4 w5 w6 w7 : AVal} {H Hf Hk : Heap} {k : Nat} (hs : Split H Hf Hk) (hp : PurL Hf k [(4, v4, w4), (5, v5, w5), (6, v6, w6), (7, v7, w7)]) (h : L5 Q w4 w5 w6 w7 Hk) : L5 Q v4 v5 v6 v7 H := at_frz (ks := K5) hs hp h
def start_vc (Q : AVal → Heap → Prop) (a0 : AVal) (H : Heap) : Prop :=
 TT ∧ BLDK [AVal.nilS, (AVal.int .i64 0), (AVal.int .u64 0)] [((0, 1), a0)] fun x1 =>
 BOXK x1 H fun x2 H3 =>
 ACalls Try.prog 49 [x2, (AVal.int .i64 5)] H3 fun x4 H5 =>
 TT ∧ TT ∧ TT ∧ BSK 1 [(AVal.int .i64 0), (AVal.int .i64 1), (AVal.int .i64 3), (AVal.int .i64 8)] H5 fun x6 H7 =>
 ACalls Try.prog 50 [x2, x6] H7 fun x8 H9 =>
 spec_DrawToggleCells.L5 Q x2 x4 AVal.nilS x8 H9
theorem start_eq (Q : AVal → Heap → Prop) (a0 : AVal) (H : Heap) : vs Try.prog lv 15 55 Try.f15.results.toList Q true 1000 [.sq (bodyOf Try.f15)] (entry [a0]) H = start_vc Q a0 H := by kernel_rfl
theorem start {Q : AVal → Heap → Prop} {a0 : AVal} {H : Heap} (h : start_vc Q a0 H) : ACalls Try.prog 15 [a0] H Q := acalls_vs (lv := lv) mixed Try.func15 rfl (by kernel_rfl) (by kernel_rfl) (start_eq Q a0 H ▸ h)
def step5_vc (Q : AVal → Heap → Prop) (v4 v5 v6 v7 : AVal) (H : Heap) : Prop :=
 BINK .gtr v7 (AVal.int .i64 0) fun x1 =>
 BRK x1 (LENK v5 fun x2 =>
 BINK .sub x2 (AVal.int .i64 1) fun x3 =>
 ACalls Try.prog 69 [(AVal.int .i64 1), x3] H fun x4 H5 =>
 ACalls Try.prog 68 [v4, x4] H5 fun x6 H7 =>
 BINK .add (AVal.int .i64 1) x6 fun x8 =>
 LENK v5 fun x9 =>
 BINK .sub x9 (AVal.int .i64 1) fun x10 =>
 ACalls Try.prog 69 [(AVal.int .i64 1), x10] H7 fun x11 H12 =>
 ACalls Try.prog 68 [v4, x11] H12 fun x13 H14 =>
 BINK .add (AVal.int .i64 1) x13 fun x15 =>
 TT ∧ TT ∧ TT ∧ BSK 1 [x8, x15] H14 fun x16 H17 =>
 TT ∧ TT ∧ TT ∧ BSK 1 [x16] H17 fun x18 H19 =>
 TT ∧ TT ∧ APK 1 H19 v6 x18 fun x20 H21 =>
 BINK .sub v7 (AVal.int .i64 1) fun x22 =>
 spec_DrawToggleCells.L5 Q v4 v5 x20 x22 H21) (ACalls Try.prog 70 [v4, (AVal.int .i64 15)] H fun x23 H24 =>
 BRK x23 (TT ∧ TT ∧ TT ∧ BSK 1 [(AVal.int .i64 0), (AVal.int .i64 (-1)), (AVal.int .i64 6)] H24 fun x25 H26 =>
 ACalls Try.prog 50 [v4, x25] H26 fun x27 H28 =>
 TT ∧ TT ∧ TT ∧ BSK 1 [x27, (AVal.int .i64 1)] H28 fun x29 H30 =>
 TT ∧ TT ∧ TT ∧ BSK 1 [x29] H30 fun x31 H32 =>
 TT ∧ TT ∧ APK 1 H32 v6 x31 fun x33 H34 =>
 ACalls Try.prog 70 [v4, (AVal.int .i64 20)] H34 fun x35 H36 =>
 BRK x35 (TT ∧ TT ∧ TT ∧ BSK 1 [(AVal.int .i64 1)] H36 fun x37 H38 =>
 TT ∧ TT ∧ TT ∧ BSK 1 [x37] H38 fun x39 H40 =>
 TT ∧ TT ∧ APK 1 H40 x33 x39 fun x41 H42 =>
 Q (AVal.tup [v5, x41]) H42) (Q (AVal.tup [v5, x33]) H36)) (ACalls Try.prog 70 [v4, (AVal.int .i64 20)] H24 fun x43 H44 =>
 BRK x43 (TT ∧ TT ∧ TT ∧ BSK 1 [(AVal.int .i64 1)] H44 fun x45 H46 =>
 TT ∧ TT ∧ TT ∧ BSK 1 [x45] H46 fun x47 H48 =>
 TT ∧ TT ∧ APK 1 H48 v6 x47 fun x49 H50 =>
 Q (AVal.tup [v5, x49]) H50) (Q (AVal.tup [v5, v6]) H44)))
theorem step5_eq (Q : AVal → Heap → Prop) (v4 v5 v6 v7 : AVal) (H : Heap) : vs Try.prog lv 15 55 Try.f15.results.toList Q true 1000 (.sq (cB (cB (cR (cL (cR (cR (cR (cR (bodyOf Try.f15))))))))) :: K5) (slotsOf [(4, v4), (5, v5), (6, v6), (7, v7)]) H = step5_vc Q v4 v5 v6 v7 H := by kernel_rfl
theorem step5 {Q : AVal → Heap → Prop} {v4 v5 v6 v7 : AVal} {H : Heap} (h : step5_vc Q v4 v5 v6 v7 H) : L5 Q v4 v5 v6 v7 H := at_lp_vs (lv := lv) (ks := K5.tail) mixed Try.func15 (step5_eq Q v4 v5 v6 v7 H ▸ h)
end spec_DrawToggleCells

/-! laws.FnColoursFlip (slots: 0 code, 1 more, 2 code, 3 more, 5 m, 6 colour, 7 k, 8 ok, 9 right, 10 fine, 11 cells, 12 one, 13 want, 14 two, 15 back, 16 three, 17 n, 18 four, 19 turned, 20 i, 21 same, 22 five, 23 again, 24 six, 25 x, 26 list, 27 y, 28 three, 29 model, 30 four, 31 back, 32 i, 33 again, 34 five, 35 w, 36 wave, 37 five, 38 value, 39 six, 40 all, 41 i, 42 j, 43 same, 44 seven) -/
namespace laws_FnColoursFlip
def lv : List (Nat × List Nat) := [(15, [1, 5, 6, 7, 11, 15, 16, 17, 18, 19, 20]), (22, [1]), (30, [1, 25, 26, 27, 31, 32]), (36, [1]), (44, [35, 36, 40, 41]), (47, [35, 36, 40, 41, 42])]
noncomputable def K15 : List KF := [.lp (cB (cB (cR (cL (cR (cR (cR (cX (cR (cL (cR (cR (cR (cR (cR (cR (cR (cR (bodyOf Try.f3))))))))))))))))))), .bl 0, .sq (cR (cR (cR (cR (cX (cR (cL (cR (cR (cR (cR (cR (cR (cR (cR (bodyOf Try.f3)))))))))))))))), .sq (cR (cR (cR (cR (cR (cR (cR (cR (cR (bodyOf Try.f3))))))))))]
def L15 (Q : AVal → Heap → Prop) (v1 v5 v6 v7 v11 v15 v16 v17 v18 v19 v20 : AVal) (H : Heap) : Prop := At Try.prog 3 286 K15 Q (slotsOf [(1, v1), (5, v5), (6, v6), (7, v7), (11, v11), (15, v15), (16, v16), (17, v17), (18, v18), (19, v19), (20, v20)]) H
theorem L15_frz {Q : AVal → Heap → Prop} {v1 v5 v6 v7 v11 v15 v16 v17 v18 v19 v20 w1 w5 w6 w7 w11 w15 w16 w17 w18 w19 w20 : AVal} {H Hf Hk : Heap} {k : Nat} (hs : Split H Hf Hk) (hp : PurL Hf k [(1, v1, w1), (5, v5, w5), (6, v6, w6), (7, v7, w7), (11, v11, w11), (15, v15, w15), (16, v16, w16), (17, v17, w17), (18, v18, w18), (19, v19, w19), (20, v20, w20)]) (h : L15 Q w1 w5 w6 w7 w11 w15 w16 w17 w18 w19 w20 Hk) : L15 Q v1 v5 v6 v7 v11 v15 v16 v17 v18 v19 v20 H := at_frz (ks := K15) hs hp h
noncomputable def M22 : List KF := [.sq (cL (cR (cR (cR (cR (cR (cR (cR (cR (cR (bodyOf Try.f3))))))))))), .sq (cR (cR (cR (cR (cR (cR (cR (cR (cR (cR (bodyOf Try.f3)))))))))))]
def J22 (Q : AVal → Heap → Prop) (v1 : AVal) (H : Heap) : Prop := At Try.prog 3 286 M22 Q (slotsOf [(1, v1)]) H
theorem J22_frz {Q : AVal → Heap → Prop} {v1 w1 : AVal} {H Hf Hk : Heap} {k : Nat} (hs : Split H Hf Hk) (hp : PurL Hf k [(1, v1, w1)]) (h : J22 Q w1 Hk) : J22 Q v1 H := at_frz (ks := M22) hs hp h
noncomputable def K30 : List KF := [.lp (cB (cB (cR (cL (cR (cX (cR (cL (cR (cR (cR (cR (cR (cR (cR (cR (cR (cR (cR (cR (cR (bodyOf Try.f3)))))))))))))))))))))), .bl 2, .sq (cR (cR (cX (cR (cL (cR (cR (cR (cR (cR (cR (cR (cR (cR (cR (cR (cR (cR (bodyOf Try.f3))))))))))))))))))), .sq (cR (cR (cR (cR (cR (cR (cR (cR (cR (cR (cR (cR (cR (cR (bodyOf Try.f3)))))))))))))))]
def L30 (Q : AVal → Heap → Prop) (v1 v25 v26 v27 v31 v32 : AVal) (H : Heap) : Prop := At Try.prog 3 286 K30 Q (slotsOf [(1, v1), (25, v25), (26, v26), (27, v27), (31, v31), (32, v32)]) H
theorem L30_frz {Q : AVal → Heap → Prop} {v1 v25 v26 v27 v31 v32 w1 w25 w26 w27 w31 w32 : AVal} {H Hf Hk : Heap} {k : Nat} (hs : Split H Hf Hk) (hp : PurL Hf k [(1, v1, w1), (25, v25, w25), (26, v26, w26), (27, v27, w27), (31, v31, w31), (32, v32, w32)]) (h : L30 Q w1 w25 w26 w27 w31 w32 Hk) : L30 Q v1 v25 v26 v27 v31 v32 H := at_frz (ks := K30) hs hp h
noncomputable def M36 : List KF := [.sq (cL (cR (cR (cR (cR (cR (cR (cR (cR (cR (cR (cR (cR (cR (cR (bodyOf Try.f3)))))))))))))))), .sq (cR (cR (cR (cR (cR (cR (cR (cR (cR (cR (cR (cR (cR (cR (cR (bodyOf Try.f3))))))))))))))))]
def J36 (Q : AVal → Heap → Prop) (v1 : AVal) (H : Heap) : Prop := At Try.prog 3 286 M36 Q (slotsOf [(1, v1)]) H
theorem J36_frz {Q : AVal → Heap → Prop} {v1 w1 : AVal} {H Hf Hk : Heap} {k : Nat} (hs : Split H Hf Hk) (hp : PurL Hf k [(1, v1, w1)]) (h : J36 Q w1 Hk) : J36 Q v1 H := at_frz (ks := M36) hs hp h
noncomputable def K44 : List KF := [.lp (cB (cB (cR (cL (cR (cX (cR (cL (cR (cR (cR (cR (cR (cR (cR (cR (cR (cR (cR (cR (cR (cR (cR (cR (cR (cR (bodyOf Try.f3))))))))))))))))))))))))))), .bl 4, .sq (cR (cR (cX (cR (cL (cR (cR (cR (cR (cR (cR (cR (cR (cR (cR (cR (cR (cR (cR (cR (cR (cR (cR (bodyOf Try.f3)))))))))))))))))))))))), .sq (cR (cR (cR (cR (cR (cR (cR (cR (cR (cR (cR (cR (cR (cR (cR (cR (cR (cR (cR (bodyOf Try.f3))))))))))))))))))))]
def L44 (Q : AVal → Heap → Prop) (v35 v36 v40 v41 : AVal) (H : Heap) : Prop := At Try.prog 3 286 K44 Q (slotsOf [(35, v35), (36, v36), (40, v40), (41, v41)]) H
theorem L44_frz {Q : AVal → Heap → Prop} {v35 v36 v40 v41 w35 w36 w40 w41 : AVal} {H Hf Hk : Heap} {k : Nat} (hs : Split H Hf Hk) (hp : PurL Hf k [(35, v35, w35), (36, v36, w36), (40, v40, w40), (41, v41, w41)]) (h : L44 Q w35 w36 w40 w41 Hk) : L44 Q v35 v36 v40 v41 H := at_frz (ks := K44) hs hp h
noncomputable def K47 : List KF := [.lp (cB (cB (cR (cB (cL (cR (cB (cB (cR (cL (cR (cX (cR (cL (cR (cR (cR (cR (cR (cR (cR (cR (cR (cR (cR (cR (cR (cR (cR (cR (cR (cR (bodyOf Try.f3))))))))))))))))))))))))))))))))), .bl 6, .bl 5, .sq (cR (cR (cB (cB (cR (cL (cR (cX (cR (cL (cR (cR (cR (cR (cR (cR (cR (cR (cR (cR (cR (cR (cR (cR (cR (cR (cR (cR (bodyOf Try.f3))))))))))))))))))))))))))))), .lp (cB (cB (cR (cL (cR (cX (cR (cL (cR (cR (cR (cR (cR (cR (cR (cR (cR (cR (cR (cR (cR (cR (cR (cR (cR (cR (bodyOf Try.f3))))))))))))))))))))))))))), .bl 4, .sq (cR (cR (cX (cR (cL (cR (cR (cR (cR (cR (cR (cR (cR (cR (cR (cR (cR (cR (cR (cR (cR (cR (cR (bodyOf Try.f3)))))))))))))))))))))))), .sq (cR (cR (cR (cR (cR (cR (cR (cR (cR (cR (cR (cR (cR (cR (cR (cR (cR (cR (cR (bodyOf Try.f3))))))))))))))))))))]
def L47 (Q : AVal → Heap → Prop) (v35 v36 v40 v41 v42 : AVal) (H : Heap) : Prop := At Try.prog 3 286 K47 Q (slotsOf [(35, v35), (36, v36), (40, v40), (41, v41), (42, v42)]) H
theorem L47_frz {Q : AVal → Heap → Prop} {v35 v36 v40 v41 v42 w35 w36 w40 w41 w42 : AVal} {H Hf Hk : Heap} {k : Nat} (hs : Split H Hf Hk) (hp : PurL Hf k [(35, v35, w35), (36, v36, w36), (40, v40, w40), (41, v41, w41), (42, v42, w42)]) (h : L47 Q w35 w36 w40 w41 w42 Hk) : L47 Q v35 v36 v40 v41 v42 H := at_frz (ks := K47) hs hp h
def start_vc (Q : AVal → Heap → Prop) (a0 a1 : AVal) (H : Heap) : Prop :=
 ACalls Try.prog 6 [a0, a1] H fun x1 H2 =>
 BRK x1 (Q (AVal.bool true) H2) (ACalls Try.prog 7 [a0] H2 fun x3 H4 =>
 EXTK x3 0 fun x5 =>
 EXTK x3 1 fun x6 =>
 ACalls Try.prog 8 [x5, x6] H4 fun x7 H8 =>
 EXTK x7 0 fun x9 =>
 EXTK x7 1 fun x10 =>
 ACalls Try.prog 9 [x5, x6] H8 fun x11 H12 =>
 EXTK x11 0 fun x13 =>
 EXTK x11 1 fun x14 =>
 ACalls Try.prog 10 [x5, x6] H12 fun x15 H16 =>
 EXTK x15 0 fun x17 =>
 EXTK x15 1 fun x18 =>
 ACalls Try.prog 11 [x5, x6] H16 fun x19 H20 =>
 EXTK x19 0 fun x21 =>
 EXTK x19 1 fun x22 =>
 EQB .neq x10 x14 fun x23 =>
 SPL x23 (Q (AVal.bool false) H20) (ACalls Try.prog 12 [x9, x13] H20 fun x24 H25 =>
 NOTK x24 fun x26 =>
 SPL x26 (Q (AVal.bool false) H25) (EQB .neq x18 x22 fun x27 =>
 SPL x27 (Q (AVal.bool false) H25) (ACalls Try.prog 12 [x17, x21] H25 fun x28 H29 =>
 NOTK x28 fun x30 =>
 SPL x30 (Q (AVal.bool false) H29) (EQB .neq x18 x10 fun x31 =>
 BRK x31 (Q (AVal.bool false) H29) (BRK x10 (ACalls Try.prog 8 [x9, x6] H29 fun x32 H33 =>
 EXTK x32 0 fun x34 =>
 EXTK x32 1 fun x35 =>
 ACalls Try.prog 13 [x5, x9] H33 fun x36 H37 =>
 EXTK x36 0 fun x38 =>
 EXTK x36 1 fun x39 =>
 LENK x17 fun x40 =>
 BINK .sub x40 (AVal.int .i64 1) fun x41 =>
 laws_FnColoursFlip.L15 Q a1 x5 x6 x9 x17 x34 x35 x38 x39 AVal.nilS x41 H37) (laws_FnColoursFlip.J22 Q a1 H29)))))))
theorem start_eq (Q : AVal → Heap → Prop) (a0 a1 : AVal) (H : Heap) : vs Try.prog lv 3 286 Try.f3.results.toList Q true 1000 [.sq (bodyOf Try.f3)] (entry [a0, a1]) H = start_vc Q a0 a1 H := by kernel_rfl
theorem start {Q : AVal → Heap → Prop} {a0 a1 : AVal} {H : Heap} (h : start_vc Q a0 a1 H) : ACalls Try.prog 3 [a0, a1] H Q := acalls_vs (lv := lv) mixed Try.func3 rfl (by kernel_rfl) (by kernel_rfl) (start_eq Q a0 a1 H ▸ h)
def step15_vc (Q : AVal → Heap → Prop) (v1 v5 v6 v7 v11 v15 v16 v17 v18 v19 v20 : AVal) (H : Heap) : Prop :=
 BINK .geq v20 (AVal.int .i64 0) fun x1 =>
 BRK x1 (TT ∧ IXK 1 v11 v20 fun x2 =>
 TT ∧ TT ∧ LDK false 1 H x2 fun x3 =>
 TT ∧ TT ∧ TT ∧ BSK 1 [x3] H fun x4 H5 =>
 TT ∧ TT ∧ APK 1 H5 v19 x4 fun x6 H7 =>
 BINK .sub v20 (AVal.int .i64 1) fun x8 =>
 laws_FnColoursFlip.L15 Q v1 v5 v6 v7 v11 v15 v16 v17 v18 x6 x8 H7) (ACalls Try.prog 14 [v5, v19] H fun x9 H10 =>
 EXTK x9 0 fun x11 =>
 EXTK x9 1 fun x12 =>
 ACalls Try.prog 10 [v7, v6] H10 fun x13 H14 =>
 EXTK x13 0 fun x15 =>
 EXTK x13 1 fun x16 =>
 NOTK v16 fun x17 =>
 SPL x17 (Q (AVal.bool false) H14) (ACalls Try.prog 12 [v15, v5] H14 fun x18 H19 =>
 NOTK x18 fun x20 =>
 SPL x20 (Q (AVal.bool false) H19) (NOTK v18 fun x21 =>
 SPL x21 (Q (AVal.bool false) H19) (LENK v11 fun x22 =>
 BINK .neq v17 x22 fun x23 =>
 SPL x23 (Q (AVal.bool false) H19) (NOTK x12 fun x24 =>
 SPL x24 (Q (AVal.bool false) H19) (ACalls Try.prog 12 [x11, v7] H19 fun x25 H26 =>
 NOTK x25 fun x27 =>
 SPL x27 (Q (AVal.bool false) H26) (NOTK x16 fun x28 =>
 SPL x28 (Q (AVal.bool false) H26) (ACalls Try.prog 12 [x15, v11] H26 fun x29 H30 =>
 NOTK x29 fun x31 =>
 BRK x31 (Q (AVal.bool false) H30) (laws_FnColoursFlip.J22 Q v1 H30)))))))))
theorem step15_eq (Q : AVal → Heap → Prop) (v1 v5 v6 v7 v11 v15 v16 v17 v18 v19 v20 : AVal) (H : Heap) : vs Try.prog lv 3 286 Try.f3.results.toList Q true 1000 (.sq (cB (cB (cR (cL (cR (cR (cR (cX (cR (cL (cR (cR (cR (cR (cR (cR (cR (cR (bodyOf Try.f3))))))))))))))))))) :: K15) (slotsOf [(1, v1), (5, v5), (6, v6), (7, v7), (11, v11), (15, v15), (16, v16), (17, v17), (18, v18), (19, v19), (20, v20)]) H = step15_vc Q v1 v5 v6 v7 v11 v15 v16 v17 v18 v19 v20 H := by kernel_rfl
theorem step15 {Q : AVal → Heap → Prop} {v1 v5 v6 v7 v11 v15 v16 v17 v18 v19 v20 : AVal} {H : Heap} (h : step15_vc Q v1 v5 v6 v7 v11 v15 v16 v17 v18 v19 v20 H) : L15 Q v1 v5 v6 v7 v11 v15 v16 v17 v18 v19 v20 H := at_lp_vs (lv := lv) (ks := K15.tail) mixed Try.func3 (step15_eq Q v1 v5 v6 v7 v11 v15 v16 v17 v18 v19 v20 H ▸ h)
def join22_vc (Q : AVal → Heap → Prop) (v1 : AVal) (H : Heap) : Prop :=
 ACalls Try.prog 15 [v1] H fun x1 H2 =>
 EXTK x1 0 fun x3 =>
 EXTK x1 1 fun x4 =>
 ACalls Try.prog 16 [x3, x4] H2 fun x5 H6 =>
 EXTK x5 0 fun x7 =>
 EXTK x5 1 fun x8 =>
 ACalls Try.prog 17 [x3, x4] H6 fun x9 H10 =>
 EXTK x9 0 fun x11 =>
 EXTK x9 1 fun x12 =>
 EQB .neq x8 x12 fun x13 =>
 SPL x13 (Q (AVal.bool false) H10) (ACalls Try.prog 12 [x7, x11] H10 fun x14 H15 =>
 NOTK x14 fun x16 =>
 BRK x16 (Q (AVal.bool false) H15) (BRK x8 (LENK x4 fun x17 =>
 BINK .sub x17 (AVal.int .i64 1) fun x18 =>
 laws_FnColoursFlip.L30 Q v1 x3 x4 x7 AVal.nilS x18 H15) (laws_FnColoursFlip.J36 Q v1 H15)))
theorem join22_eq (Q : AVal → Heap → Prop) (v1 : AVal) (H : Heap) : vs Try.prog lv 3 286 Try.f3.results.toList Q true 1000 M22 (slotsOf [(1, v1)]) H = join22_vc Q v1 H := by kernel_rfl
theorem join22 {Q : AVal → Heap → Prop} {v1 : AVal} {H : Heap} (h : join22_vc Q v1 H) : J22 Q v1 H := at_join_vs (lv := lv) (ks := M22) mixed Try.func3 (join22_eq Q v1 H ▸ h)
def step30_vc (Q : AVal → Heap → Prop) (v1 v25 v26 v27 v31 v32 : AVal) (H : Heap) : Prop :=
 BINK .geq v32 (AVal.int .i64 0) fun x1 =>
 BRK x1 (TT ∧ IXK 1 v26 v32 fun x2 =>
 TT ∧ TT ∧ LDK false 1 H x2 fun x3 =>
 TT ∧ TT ∧ TT ∧ BSK 1 [x3] H fun x4 H5 =>
 TT ∧ TT ∧ APK 1 H5 v31 x4 fun x6 H7 =>
 BINK .sub v32 (AVal.int .i64 1) fun x8 =>
 laws_FnColoursFlip.L30 Q v1 v25 v26 v27 x6 x8 H7) (ACalls Try.prog 16 [v27, v31] H fun x9 H10 =>
 EXTK x9 0 fun x11 =>
 EXTK x9 1 fun x12 =>
 NOTK x12 fun x13 =>
 SPL x13 (Q (AVal.bool false) H10) (ACalls Try.prog 12 [x11, v25] H10 fun x14 H15 =>
 NOTK x14 fun x16 =>
 BRK x16 (Q (AVal.bool false) H15) (laws_FnColoursFlip.J36 Q v1 H15)))
theorem step30_eq (Q : AVal → Heap → Prop) (v1 v25 v26 v27 v31 v32 : AVal) (H : Heap) : vs Try.prog lv 3 286 Try.f3.results.toList Q true 1000 (.sq (cB (cB (cR (cL (cR (cX (cR (cL (cR (cR (cR (cR (cR (cR (cR (cR (cR (cR (cR (cR (cR (bodyOf Try.f3)))))))))))))))))))))) :: K30) (slotsOf [(1, v1), (25, v25), (26, v26), (27, v27), (31, v31), (32, v32)]) H = step30_vc Q v1 v25 v26 v27 v31 v32 H := by kernel_rfl
theorem step30 {Q : AVal → Heap → Prop} {v1 v25 v26 v27 v31 v32 : AVal} {H : Heap} (h : step30_vc Q v1 v25 v26 v27 v31 v32 H) : L30 Q v1 v25 v26 v27 v31 v32 H := at_lp_vs (lv := lv) (ks := K30.tail) mixed Try.func3 (step30_eq Q v1 v25 v26 v27 v31 v32 H ▸ h)
def join36_vc (Q : AVal → Heap → Prop) (v1 : AVal) (H : Heap) : Prop :=
 ACalls Try.prog 18 [v1] H fun x1 H2 =>
 ACalls Try.prog 19 [x1] H2 fun x3 H4 =>
 EXTK x3 0 fun x5 =>
 EXTK x3 1 fun x6 =>
 ACalls Try.prog 20 [x1] H4 fun x7 H8 =>
 EXTK x7 0 fun x9 =>
 EXTK x7 1 fun x10 =>
 EQB .neq x6 x10 fun x11 =>
 SPL x11 (Q (AVal.bool false) H8) (ACalls Try.prog 12 [x5, x9] H8 fun x12 H13 =>
 NOTK x12 fun x14 =>
 BRK x14 (Q (AVal.bool false) H13) (BRK x6 (laws_FnColoursFlip.L44 Q x1 x5 AVal.nilS (AVal.int .i64 1) H13) (Q (AVal.bool true) H13)))
theorem join36_eq (Q : AVal → Heap → Prop) (v1 : AVal) (H : Heap) : vs Try.prog lv 3 286 Try.f3.results.toList Q true 1000 M36 (slotsOf [(1, v1)]) H = join36_vc Q v1 H := by kernel_rfl
theorem join36 {Q : AVal → Heap → Prop} {v1 : AVal} {H : Heap} (h : join36_vc Q v1 H) : J36 Q v1 H := at_join_vs (lv := lv) (ks := M36) mixed Try.func3 (join36_eq Q v1 H ▸ h)
def step44_vc (Q : AVal → Heap → Prop) (v35 v36 v40 v41 : AVal) (H : Heap) : Prop :=
 LENK v35 fun x1 =>
 BINK .lss v41 x1 fun x2 =>
 BRK x2 (laws_FnColoursFlip.L47 Q v35 v36 v40 v41 (AVal.int .i64 1) H) (ACalls Try.prog 16 [v35, v40] H fun x3 H4 =>
 EXTK x3 0 fun x5 =>
 EXTK x3 1 fun x6 =>
 SPL x6 (ACalls Try.prog 12 [x5, v36] H4 fun x7 H8 =>
 Q x7 H8) (Q (AVal.bool false) H4))
theorem step44_eq (Q : AVal → Heap → Prop) (v35 v36 v40 v41 : AVal) (H : Heap) : vs Try.prog lv 3 286 Try.f3.results.toList Q true 1000 (.sq (cB (cB (cR (cL (cR (cX (cR (cL (cR (cR (cR (cR (cR (cR (cR (cR (cR (cR (cR (cR (cR (cR (cR (cR (cR (cR (bodyOf Try.f3))))))))))))))))))))))))))) :: K44) (slotsOf [(35, v35), (36, v36), (40, v40), (41, v41)]) H = step44_vc Q v35 v36 v40 v41 H := by kernel_rfl
theorem step44 {Q : AVal → Heap → Prop} {v35 v36 v40 v41 : AVal} {H : Heap} (h : step44_vc Q v35 v36 v40 v41 H) : L44 Q v35 v36 v40 v41 H := at_lp_vs (lv := lv) (ks := K44.tail) mixed Try.func3 (step44_eq Q v35 v36 v40 v41 H ▸ h)
def step47_vc (Q : AVal → Heap → Prop) (v35 v36 v40 v41 v42 : AVal) (H : Heap) : Prop :=
 LENK v35 fun x1 =>
 BINK .lss v42 x1 fun x2 =>
 BRK x2 (TT ∧ TT ∧ TT ∧ BSK 1 [v41, v42] H fun x3 H4 =>
 TT ∧ TT ∧ TT ∧ BSK 1 [x3] H4 fun x5 H6 =>
 TT ∧ TT ∧ APK 1 H6 v40 x5 fun x7 H8 =>
 BINK .add v42 (AVal.int .i64 1) fun x9 =>
 laws_FnColoursFlip.L47 Q v35 v36 x7 v41 x9 H8) (BINK .add v41 (AVal.int .i64 1) fun x10 =>
 laws_FnColoursFlip.L44 Q v35 v36 v40 x10 H)
theorem step47_eq (Q : AVal → Heap → Prop) (v35 v36 v40 v41 v42 : AVal) (H : Heap) : vs Try.prog lv 3 286 Try.f3.results.toList Q true 1000 (.sq (cB (cB (cR (cB (cL (cR (cB (cB (cR (cL (cR (cX (cR (cL (cR (cR (cR (cR (cR (cR (cR (cR (cR (cR (cR (cR (cR (cR (cR (cR (cR (cR (bodyOf Try.f3))))))))))))))))))))))))))))))))) :: K47) (slotsOf [(35, v35), (36, v36), (40, v40), (41, v41), (42, v42)]) H = step47_vc Q v35 v36 v40 v41 v42 H := by kernel_rfl
theorem step47 {Q : AVal → Heap → Prop} {v35 v36 v40 v41 v42 : AVal} {H : Heap} (h : step47_vc Q v35 v36 v40 v41 v42 H) : L47 Q v35 v36 v40 v41 v42 H := at_lp_vs (lv := lv) (ks := K47.tail) mixed Try.func3 (step47_eq Q v35 v36 v40 v41 v42 H ▸ h)
end laws_FnColoursFlip


theorem hset_drop' {H : Heap} {g : Nat} {cs ds : List AVal} : HSub H (hset (hnew H g cs) H.length g ds) := by rw [hset_new]; exact hsub_new _ _ _
section
variable {code : List Int} {v : AVal} {H : Heap}
theorem cur_start' (hv : IsSl IsB v code) (hl : code.length ≤ 1099511627776) (g : Nat) : Cur 0 (hnew H g [v, I 0, .int .u64 0]) H.length g := ⟨v, code, 0, 0, hget_new _ _ _, hv, hl, by omega, by omega⟩
theorem drawFlipColour_ok (hv : IsSl IsB v code) (hl : code.length ≤ 1099511627776) : ACalls Try.prog 7 [v] H fun r H' => (∃ m vm x, r = .tup [vm, I x] ∧ IsTab vm m ∧ Small m) ∧ H' = H := by
  apply ACalls.sub
  apply spec_DrawFlipColour.start
  unfold spec_DrawFlipColour.start_vc
  refine rTT ?_
  refine cells_one hv.one ⟨rfl, by decide, ?_⟩
  refine rBOXc fun g => ?_
  refine ACalls.mono (signsV_ok (cur_start' hv hl g) (by omega) (by omega) (by omega)) ?_
  rintro r1 H1 ⟨m, cs1, hm, hml, hmr, hH1, hc1⟩
  refine rTT (rTT (rTT (rLITn (rLITc rfl (rLITc rfl (rLITc rfl (rLITc rfl (rLITc rfl (rLITc rfl (rLITe ?_))))))))))
  refine ACalls.mono (among_ok (l := [0, 1, 0, 1, 2, -1]) hc1 (by omega) (isI_list [0, 1, 0, 1, 2, -1] true) (by simp) (by simp)) ?_
  rintro r3 H3 ⟨x, cs3, rfl, _, hH3, hc3⟩
  refine ⟨H, ?_, ⟨m, r1, _, rfl, hm, hml, hmr⟩, rfl⟩
  rw [hH3, hH1, hset_set]; exact hset_drop'
theorem drawRowWave_ok (hv : IsSl IsB v code) (hl : code.length ≤ 1099511627776) : ACalls Try.prog 18 [v] H fun r H' => TabR r ∧ H' = H := by
  apply spec_DrawRowWave.start
  unfold spec_DrawRowWave.start_vc
  exact drawSign_ok hv hl
end

/-- A drawn table and drawn cells. -/
def TabCells' (r : AVal) : Prop := ∃ a b va vb, r = .tup [va, vb] ∧ IsTab va a ∧ IsTab vb b ∧ Small a ∧ b.length ≤ 1000 ∧ ∀ c ∈ b, c.length ≤ 1000
def QTC (H0 : Heap) : AVal → Heap → Prop := fun r H' => HSub H0 H' ∧ ∃ k r', Pur (nw H0 H') k r r' ∧ (TabCells' r' ∧ H0 = H0)
section
variable {H0 : Heap} {ic gc : Nat} {m : List (List Int)} {vm : AVal}
theorem qtc_mk (hvm : IsTab vm m) (hm : Small m) {H : Heap} {v7 : AVal} {ls : List AVal} {T : List (List Int)} (hG : Grow H0 H) (ho : OutL H0.length [ic] H v7 ls) (hR : Rel2 IsInts ls T) (hl : ls.length ≤ 1000) (hT : ∀ c ∈ T, c.length ≤ 1000) : QTC H0 (.tup [vm, v7]) H := by
  obtain ⟨v', p1, p2⟩ := ho.pur (fun i hi => nw_above H0 H hi) hR
  exact ⟨hG.sub, 2, .tup [vm, v'], .inr ⟨_, rfl, vm, _, rfl, Pur.refl _ _ _, v', _, rfl, p1, rfl⟩, ⟨m, T, vm, v', rfl, hvm, p2, hm, by rw [← hR.1]; exact hl, hT⟩, rfl⟩
theorem grow_cur {H : Heap} (hG : Grow H0 H) (hic : H0.length ≤ ic) (g : Nat) (cs : List AVal) : Grow H0 (hset H ic g cs) := hG.set hic g cs
theorem outl_cur {H : Heap} {v7 : AVal} {ls : List AVal} (ho : OutL H0.length [ic] H v7 ls) (g : Nat) (cs : List AVal) : OutL H0.length [ic] (hset H ic g cs) v7 ls :=
  ho.frame fun i g' cs' hi hg => by rw [hget_set_ne _ _ (fun e => hi (by simp [e]))]; exact hg
theorem small_app {T : List (List Int)} (hT : ∀ c ∈ T, c.length ≤ 1000) {d : List Int} (hd : d.length ≤ 1000) : ∀ c ∈ T ++ [d], c.length ≤ 1000 := by
  intro c hc
  rcases List.mem_append.1 hc with hc | hc
  · exact hT c hc
  · simp at hc; subst hc; exact hd
theorem isInts_one (a : Int) : IsInts (.sl true 1 [I a]) [a] := isI_list [a] true
theorem tc_tail {A : Int} (hA : A ≤ 1000000) (hvm : IsTab vm m) (hm : Small m) (hic : H0.length ≤ ic) {H : Heap} (hc : Cur A H ic gc) {v7 : AVal} {ls : List AVal} {T : List (List Int)} (hl : ls.length ≤ 300) (hG : Grow H0 H) (ho : OutL H0.length [ic] H v7 ls) (hR : Rel2 IsInts ls T) (hT : ∀ c ∈ T, c.length ≤ 1000) :
    ACalls Try.prog 70 [.ptr ic gc 0, I 20] H fun x35 H36 => BRK x35 (TT ∧ TT ∧ TT ∧ BSK 1 [I 1] H36 fun x37 H38 => TT ∧ TT ∧ TT ∧ BSK 1 [x37] H38 fun x39 H40 => TT ∧ TT ∧ APK 1 H40 v7 x39 fun x41 H42 => QTC H0 (.tup [vm, x41]) H42) (QTC H0 (.tup [vm, v7]) H36) := by
  refine ACalls.mono (one_ok hc (by omega) (by omega)) ?_
  rintro r H2 ⟨b, cs, rfl, rfl, hc2⟩
  have hlt := hc2.lt
  have hG2 := grow_cur hG hic gc cs
  have ho2 := outl_cur ho gc cs
  refine rBRKb (fun _ => ?_) (fun _ => ?_)
  · refine rTT (rTT (rTT (rLITn (rLITc rfl (rLITe ?_)))))
    refine rTT (rTT (rTT (rLITn (rLITc rfl (rLITe ?_)))))
    refine rTT (rTT ?_)
    refine ho2.snoc (by omega) hG2.len (fun i' hi' => by simp at hi'; subst hi'; exact hlt) (fun v' H' o1 o2 o3 => ?_)
    exact qtc_mk hvm hm ⟨Nat.le_trans hG2.len o2, fun i hi => (o3 i (.inr hi)).trans (hG2.old i hi)⟩ o1 (hR.snoc (isInts_one 1)) (by simp; omega) (small_app hT (by simp))
  · exact qtc_mk hvm hm hG2 ho2 hR (by omega) hT
theorem tc_loop (hvm : IsTab vm m) (hm : Small m) (hic : H0.length ≤ ic) : ∀ (d : Nat) (A : Int) (H : Heap) (v6 : AVal) (ls : List AVal) (T : List (List Int)), A + 20 * d ≤ 100000 → ls.length + d ≤ 100 → Cur A H ic gc → Grow H0 H → OutL H0.length [ic] H v6 ls → Rel2 IsInts ls T → (∀ c ∈ T, c.length ≤ 1000) →
    spec_DrawToggleCells.L5 (QTC H0) (.ptr ic gc 0) vm v6 (I d) H := by
  have hml := hm.1
  intro d
  induction d with
  | zero =>
    intro A H v6 ls T hA hl hc hG ho hR hT
    apply spec_DrawToggleCells.step5
    unfold spec_DrawToggleCells.step5_vc
    repeat' (with_reducible first
 | refine rTT ?_
 | refine rRFL ?_
 | refine rLEN (by assumption) ?_
 | (refine rIXk (by assumption) (by assumption) ?_; intro p hp)
 | (refine rIX (by assumption) (by omega) (by omega) ?_; intro p a ha hp)
 | refine rLDi (by assumption) ?_
 | (refine rLD (by assumption) ?_; intro c hc)
 | refine rADD (by omega) ?_
 | refine rSUB (by omega) ?_
 | refine rLSS ?_
 | refine rLEQ ?_
 | refine rGTR ?_
 | refine rGEQ ?_
 | refine rEQL ?_
 | refine rNEQ ?_
 | refine rNOT ?_
 | (refine rBRK ?_ ?_ <;> intro hb)
 | (refine rBRKn ?_ ?_ <;> intro hb)
 | (refine rBRKnb ?_ ?_ <;> intro hb)
 | (refine rBRKb ?_ ?_ <;> intro hb)
 | (refine rSPL ?_ ?_ <;> intro hb)
 | (refine rSPLn ?_ ?_ <;> intro hb)
 | (refine rSPLnb ?_ ?_ <;> intro hb)
 | (refine rSPLb ?_ ?_ <;> intro hb)
 | (exfalso; omega))
    refine ACalls.mono (one_ok hc (by omega) (by omega)) ?_
    rintro r H2 ⟨b, cs, rfl, rfl, hc2⟩
    have hG2 := grow_cur hG hic gc cs
    have ho2 := outl_cur ho gc cs
    refine rBRKb (fun _ => ?_) (fun _ => ?_)
    · refine rTT (rTT (rTT (rLITn (rLITc rfl (rLITc rfl (rLITc rfl (rLITe ?_)))))))
      refine ACalls.mono (among_ok (l := [0, -1, 6]) hc2 (by omega) (isI_list [0, -1, 6] true) (by simp) (by simp)) ?_
      rintro r3 H3 ⟨x, cs3, rfl, _, rfl, hc3⟩
      have hG3 := grow_cur hG2 hic gc cs3
      have ho3 := outl_cur ho2 gc cs3
      refine rTT (rTT (rTT (rLITn (rLITc rfl (rLITc rfl (rLITe ?_))))))
      refine rTT (rTT (rTT (rLITn (rLITc rfl (rLITe ?_)))))
      refine rTT (rTT ?_)
      refine ho3.snoc (by omega) hG3.len (fun i' hi' => by simp at hi'; subst hi'; exact hc3.lt) (fun v' H' o1 o2 o3 => ?_)
      exact tc_tail (A := A + 10) (by omega) hvm hm hic ((hc3.old (o3 ic (.inl (by simp)))).le (by omega)) (by simp; omega) ⟨Nat.le_trans hG3.len o2, fun i hi => (o3 i (.inr hi)).trans (hG3.old i hi)⟩ o1 (hR.snoc (isInts_pair x 1)) (small_app hT (by simp))
    · exact tc_tail (A := A + 10) (by omega) hvm hm hic (hc2.le (by omega)) (by omega) hG2 ho2 hR hT
  | succ d ih =>
    intro A H v6 ls T hA hl hc hG ho hR hT
    apply spec_DrawToggleCells.step5
    unfold spec_DrawToggleCells.step5_vc
    repeat' (with_reducible first
 | refine rTT ?_
 | refine rRFL ?_
 | refine rLEN (by assumption) ?_
 | (refine rIXk (by assumption) (by assumption) ?_; intro p hp)
 | (refine rIX (by assumption) (by omega) (by omega) ?_; intro p a ha hp)
 | refine rLDi (by assumption) ?_
 | (refine rLD (by assumption) ?_; intro c hc)
 | refine rADD (by omega) ?_
 | refine rSUB (by omega) ?_
 | refine rLSS ?_
 | refine rLEQ ?_
 | refine rGTR ?_
 | refine rGEQ ?_
 | refine rEQL ?_
 | refine rNEQ ?_
 | refine rNOT ?_
 | (refine rBRK ?_ ?_ <;> intro hb)
 | (refine rBRKn ?_ ?_ <;> intro hb)
 | (refine rBRKnb ?_ ?_ <;> intro hb)
 | (refine rBRKb ?_ ?_ <;> intro hb)
 | (refine rSPL ?_ ?_ <;> intro hb)
 | (refine rSPLn ?_ ?_ <;> intro hb)
 | (refine rSPLnb ?_ ?_ <;> intro hb)
 | (refine rSPLb ?_ ?_ <;> intro hb)
 | (exfalso; omega))
    refine ACalls.mono l1Most_ok ?_
    rintro r1 H1 ⟨rfl, rfl⟩
    refine ACalls.mono (pick_ok hc (by omega) (by omega)) ?_
    rintro r2 H2 ⟨x, cs2, rfl, hx0, hx1, rfl, hc2⟩
    have hG2 := grow_cur hG hic gc cs2
    have ho2 := outl_cur ho gc cs2
    repeat' (with_reducible first
 | refine rTT ?_
 | refine rRFL ?_
 | refine rLEN (by assumption) ?_
 | (refine rIXk (by assumption) (by assumption) ?_; intro p hp)
 | (refine rIX (by assumption) (by omega) (by omega) ?_; intro p a ha hp)
 | refine rLDi (by assumption) ?_
 | (refine rLD (by assumption) ?_; intro c hc)
 | refine rADD (by omega) ?_
 | refine rSUB (by omega) ?_
 | refine rLSS ?_
 | refine rLEQ ?_
 | refine rGTR ?_
 | refine rGEQ ?_
 | refine rEQL ?_
 | refine rNEQ ?_
 | refine rNOT ?_
 | (refine rBRK ?_ ?_ <;> intro hb)
 | (refine rBRKn ?_ ?_ <;> intro hb)
 | (refine rBRKnb ?_ ?_ <;> intro hb)
 | (refine rBRKb ?_ ?_ <;> intro hb)
 | (refine rSPL ?_ ?_ <;> intro hb)
 | (refine rSPLn ?_ ?_ <;> intro hb)
 | (refine rSPLnb ?_ ?_ <;> intro hb)
 | (refine rSPLb ?_ ?_ <;> intro hb)
 | (exfalso; omega))
    refine ACalls.mono l1Most_ok ?_
    rintro r3 H3 ⟨rfl, rfl⟩
    refine ACalls.mono (pick_ok hc2 (by omega) (by omega)) ?_
    rintro r4 H4 ⟨y, cs4, rfl, hy0, hy1, rfl, hc4⟩
    have hG4 := grow_cur hG2 hic gc cs4
    have ho4 := outl_cur ho2 gc cs4
    repeat' (with_reducible first
 | refine rTT ?_
 | refine rRFL ?_
 | refine rLEN (by assumption) ?_
 | (refine rIXk (by assumption) (by assumption) ?_; intro p hp)
 | (refine rIX (by assumption) (by omega) (by omega) ?_; intro p a ha hp)
 | refine rLDi (by assumption) ?_
 | (refine rLD (by assumption) ?_; intro c hc)
 | refine rADD (by omega) ?_
 | refine rSUB (by omega) ?_
 | refine rLSS ?_
 | refine rLEQ ?_
 | refine rGTR ?_
 | refine rGEQ ?_
 | refine rEQL ?_
 | refine rNEQ ?_
 | refine rNOT ?_
 | (refine rBRK ?_ ?_ <;> intro hb)
 | (refine rBRKn ?_ ?_ <;> intro hb)
 | (refine rBRKnb ?_ ?_ <;> intro hb)
 | (refine rBRKb ?_ ?_ <;> intro hb)
 | (refine rSPL ?_ ?_ <;> intro hb)
 | (refine rSPLn ?_ ?_ <;> intro hb)
 | (refine rSPLnb ?_ ?_ <;> intro hb)
 | (refine rSPLb ?_ ?_ <;> intro hb)
 | (exfalso; omega))
    refine rLITn (rLITc rfl (rLITc rfl (rLITe ?_)))
    refine rTT (rTT (rTT (rLITn (rLITc rfl (rLITe ?_)))))
    refine rTT (rTT ?_)
    refine ho4.snoc (by omega) hG4.len (fun i' hi' => by simp at hi'; subst hi'; exact hc4.lt) (fun v' H' o1 o2 o3 => ?_)
    repeat' (with_reducible first
 | refine rTT ?_
 | refine rRFL ?_
 | refine rLEN (by assumption) ?_
 | (refine rIXk (by assumption) (by assumption) ?_; intro p hp)
 | (refine rIX (by assumption) (by omega) (by omega) ?_; intro p a ha hp)
 | refine rLDi (by assumption) ?_
 | (refine rLD (by assumption) ?_; intro c hc)
 | refine rADD (by omega) ?_
 | refine rSUB (by omega) ?_
 | refine rLSS ?_
 | refine rLEQ ?_
 | refine rGTR ?_
 | refine rGEQ ?_
 | refine rEQL ?_
 | refine rNEQ ?_
 | refine rNOT ?_
 | (refine rBRK ?_ ?_ <;> intro hb)
 | (refine rBRKn ?_ ?_ <;> intro hb)
 | (refine rBRKnb ?_ ?_ <;> intro hb)
 | (refine rBRKb ?_ ?_ <;> intro hb)
 | (refine rSPL ?_ ?_ <;> intro hb)
 | (refine rSPLn ?_ ?_ <;> intro hb)
 | (refine rSPLnb ?_ ?_ <;> intro hb)
 | (refine rSPLb ?_ ?_ <;> intro hb)
 | (exfalso; omega))
    have e : (((d + 1 : Nat) : Int) - 1) = (d : Int) := by omega
    rw [e]
    exact ih (A + 10) H' v' _ _ (by omega) (by simp; omega) ((hc4.old (o3 ic (.inl (by simp)))).le (by omega)) ⟨Nat.le_trans hG4.len o2, fun i hi => (o3 i (.inr hi)).trans (hG4.old i hi)⟩ o1 (hR.snoc (isInts_pair (1 + x) (1 + y))) (small_app hT (by simp))
end
theorem drawToggleCells_ok {code : List Int} {v : AVal} {H : Heap} (hv : IsSl IsB v code) (hl : code.length ≤ 1099511627776) : ACalls Try.prog 15 [v] H fun r H' => TabCells' r ∧ H' = H := by
  apply ACalls.pure
  apply spec_DrawToggleCells.start
  unfold spec_DrawToggleCells.start_vc
  refine rTT ?_
  refine cells_one hv.one ⟨rfl, by decide, ?_⟩
  refine rBOXc fun g => ?_
  refine ACalls.mono (signsV_ok (cur_start' hv hl g) (by omega) (by omega) (by omega)) ?_
  rintro r1 H1 ⟨m, cs1, hm, hml, hmr, hH1, hc1⟩
  refine rTT (rTT (rTT (rLITn (rLITc rfl (rLITc rfl (rLITc rfl (rLITc rfl (rLITe ?_))))))))
  refine ACalls.mono (among_ok (l := [0, 1, 3, 8]) hc1 (by omega) (isI_list [0, 1, 3, 8] true) (by simp) (by simp)) ?_
  rintro r3 H3 ⟨x, cs3, rfl, hx, hH3, hc3⟩
  have hH3' : H3 = hnew H g cs3 := by rw [hH3, hH1, hset_set, hset_new]
  have hxx : 0 ≤ x ∧ x ≤ 8 := by
    simp only [List.mem_cons, List.not_mem_nil, or_false] at hx
    omega
  obtain ⟨d, rfl⟩ : ∃ d : Nat, x = d := ⟨x.toNat, by omega⟩
  exact tc_loop hm ⟨hml, hmr⟩ (Nat.le_refl _) d 10000 H3 _ [] [] (by omega) (by simp; omega) (hc3.le (by omega)) (by rw [hH3']; exact Grow.new _ _ _) (.inl ⟨rfl, .inr rfl⟩) Rel2.nil (by simp)

end Go.Proofs.Ytccioplhchmilaa.AL

set_option linter.unusedVariables false
set_option maxRecDepth 100000
namespace Go.Proofs.Ytccioplhchmilaa.AL
open Go Go.Proofs

/-- A list that was built is handed on as a value. -/
theorem bld_arg {f : FuncId} {v0 v v' : AVal} {H0 H : Heap} {ls : List AVal} {L : List (List Int)} {Q : AVal → Heap → Prop} (hb : Bld H0 v H ls) (hR : Rel2 IsInts ls L) (h : ∀ v', IsTab v' L → ACalls Try.prog f [v0, v'] H0 Q) : ACalls Try.prog f [v0, v] H Q := by
  obtain ⟨v', p1, p2⟩ := hb.pur hR.1 hR.2
  exact ACalls.frz (nw_split hb.sub) (k := 1) (args' := [v0, v']) ⟨v0, _, rfl, Pur.refl _ _ _, v', _, rfl, p1, rfl⟩ (h v' p2)
theorem flipped_len {m : List (List Int)} {col : Int} (h : m.length ≤ 7) : (flippedF m col).length ≤ 49 := cells_len7 h
theorem cells_small {p : Nat → Nat → Bool} {n : Nat} : ∀ c ∈ cellsF p n, c.length ≤ 1000 := fun c hc => by
  obtain ⟨i, j, _, _, _, _, _, rfl⟩ := mem_cells hc
  simp
section
variable {code more : List Int} {u v : AVal} {H : Heap}
/-! The row wave. -/
theorem wave_in {w : List (List Int)} {vw vk : AVal} (hw : IsTab vw w) (hl : w.length ≤ 7) {i : Nat} (i1 : 1 ≤ i) (i2 : i < w.length) {L : List (List Int)} {Q : AVal → Heap → Prop} (hq : ∀ v5 H' ls, Bld H v5 H' ls → Rel2 IsInts ls (L ++ cellsRow (fun _ => true) i 1 (w.length - 1)) → laws_FnColoursFlip.L44 Q vw vk v5 (I (i + 1 : Nat)) H') :
    ∀ (c j : Nat) (v5 : AVal) (H' : Heap) (ls : List AVal) (L1 : List (List Int)), 1 ≤ j → j + c = w.length → Bld H v5 H' ls → Rel2 IsInts ls L1 → ls.length ≤ 1000 * i + j → L1 ++ cellsRow (fun _ => true) i j c = L ++ cellsRow (fun _ => true) i 1 (w.length - 1) →
    laws_FnColoursFlip.L47 Q vw vk v5 (I i) (I j) H' := by
  intro c
  induction c with
  | zero =>
    intro j v5 H' ls L1 hj hjm hb0 hr hls he
    rw [cellsRow, List.append_nil] at he
    apply laws_FnColoursFlip.step47
    unfold laws_FnColoursFlip.step47_vc
    repeat' (with_reducible first
 | refine rTT ?_
 | refine rRFL ?_
 | refine rLEN (by assumption) ?_
 | (refine rIXk (by assumption) (by assumption) ?_; intro p hp)
 | (refine rIX (by assumption) (by omega) (by omega) ?_; intro p a ha hp)
 | refine rLDi (by assumption) ?_
 | (refine rLD (by assumption) ?_; intro c hc)
 | refine rADD (by omega) ?_
 | refine rSUB (by omega) ?_
 | refine rLSS ?_
 | refine rLEQ ?_
 | refine rGTR ?_
 | refine rGEQ ?_
 | refine rEQL ?_
 | refine rNEQ ?_
 | refine rNOT ?_
 | (refine rBRK ?_ ?_ <;> intro hb)
 | (refine rBRKn ?_ ?_ <;> intro hb)
 | (refine rBRKnb ?_ ?_ <;> intro hb)
 | (refine rBRKb ?_ ?_ <;> intro hb)
 | (refine rSPL ?_ ?_ <;> intro hb)
 | (refine rSPLn ?_ ?_ <;> intro hb)
 | (refine rSPLnb ?_ ?_ <;> intro hb)
 | (refine rSPLb ?_ ?_ <;> intro hb)
 | (exfalso; omega))
    exact hq _ _ ls hb0 (he ▸ hr)
  | succ c ih =>
    intro j v5 H' ls L1 hj hjm hb0 hr hls he
    rw [cellsRow, if_pos rfl, ← List.append_assoc] at he
    apply laws_FnColoursFlip.step47
    unfold laws_FnColoursFlip.step47_vc
    repeat' (with_reducible first
 | refine rTT ?_
 | refine rRFL ?_
 | refine rLEN (by assumption) ?_
 | (refine rIXk (by assumption) (by assumption) ?_; intro p hp)
 | (refine rIX (by assumption) (by omega) (by omega) ?_; intro p a ha hp)
 | refine rLDi (by assumption) ?_
 | (refine rLD (by assumption) ?_; intro c hc)
 | refine rADD (by omega) ?_
 | refine rSUB (by omega) ?_
 | refine rLSS ?_
 | refine rLEQ ?_
 | refine rGTR ?_
 | refine rGEQ ?_
 | refine rEQL ?_
 | refine rNEQ ?_
 | refine rNOT ?_
 | (refine rBRK ?_ ?_ <;> intro hb)
 | (refine rBRKn ?_ ?_ <;> intro hb)
 | (refine rBRKnb ?_ ?_ <;> intro hb)
 | (refine rBRKb ?_ ?_ <;> intro hb)
 | (refine rSPL ?_ ?_ <;> intro hb)
 | (refine rSPLn ?_ ?_ <;> intro hb)
 | (refine rSPLnb ?_ ?_ <;> intro hb)
 | (refine rSPLb ?_ ?_ <;> intro hb)
 | (exfalso; omega))
    refine rLITn (rLITc rfl (rLITc rfl (rLITe ?_)))
    refine rTT (rTT (rTT (rLIT1 rfl ?_)))
    refine rTT (rTT (rAPK1 hb0 (by omega) fun v' H2 hb1 => ?_))
    repeat' (with_reducible first
 | refine rTT ?_
 | refine rRFL ?_
 | refine rLEN (by assumption) ?_
 | (refine rIXk (by assumption) (by assumption) ?_; intro p hp)
 | (refine rIX (by assumption) (by omega) (by omega) ?_; intro p a ha hp)
 | refine rLDi (by assumption) ?_
 | (refine rLD (by assumption) ?_; intro c hc)
 | refine rADD (by omega) ?_
 | refine rSUB (by omega) ?_
 | refine rLSS ?_
 | refine rLEQ ?_
 | refine rGTR ?_
 | refine rGEQ ?_
 | refine rEQL ?_
 | refine rNEQ ?_
 | refine rNOT ?_
 | (refine rBRK ?_ ?_ <;> intro hb)
 | (refine rBRKn ?_ ?_ <;> intro hb)
 | (refine rBRKnb ?_ ?_ <;> intro hb)
 | (refine rBRKb ?_ ?_ <;> intro hb)
 | (refine rSPL ?_ ?_ <;> intro hb)
 | (refine rSPLn ?_ ?_ <;> intro hb)
 | (refine rSPLnb ?_ ?_ <;> intro hb)
 | (refine rSPLb ?_ ?_ <;> intro hb)
 | (exfalso; omega))
    exact ih (j + 1) v' H2 _ (L1 ++ [[(i : Int), (j : Int)]]) (by omega) (by omega) hb1 (hr.snoc (isInts_pair _ _)) (by simp; omega) he
theorem wave_out {w : List (List Int)} {vw vk : AVal} (hw : IsTab vw w) (hgw : goodB w = true) (hk : IsTab vk (togs w (allCells' w.length))) :
    ∀ (c i : Nat) (v5 : AVal) (H' : Heap) (ls : List AVal) (L1 : List (List Int)), 1 ≤ i → i + c = w.length → Bld H v5 H' ls → Rel2 IsInts ls L1 → ls.length ≤ 1000 * i → L1 ++ cellsFrom (fun _ _ => true) (w.length - 1) i c = allCells' w.length →
    laws_FnColoursFlip.L44 (True1 H) vw vk v5 (I i) H' := by
  have G := goodB_iff.1 hgw
  have h6 := G.n6
  intro c
  induction c with
  | zero =>
    intro i v5 H' ls L1 hi him hb0 hr hls he
    rw [cellsFrom, List.append_nil] at he
    subst he
    apply laws_FnColoursFlip.step44
    unfold laws_FnColoursFlip.step44_vc
    refine rLEN hw (rLSS (rBRf (by simp; omega) ?_))
    refine bld_arg hb0 hr (v' := v5) fun v' hv' => ?_
    have hcl : (allCells' w.length).length ≤ 49 := cells_len7 (by omega)
    refine ACalls.mono (toggleCells_ok hw hv' (by omega) (by omega) (fun c hc => by have := cells_small c hc; omega)) ?_
    rintro r1 H1 ⟨⟨x, rfl, hx⟩, rfl⟩
    have htB : toggleB w (allCells' w.length) = true := by
      unfold toggleB
      rw [hgw, decide_eq_true (by omega)]
      simp only [Bool.true_and, List.all_eq_true]
      intro c hc
      obtain ⟨i, j, rfl, i1, i2, j1, j2⟩ := cells_Cells G.n1 _ c hc
      exact isCell_mk i1 i2 j1 j2
    rw [htB] at hx ⊢
    refine rEXT0 (rEXT1 (rSPt rfl ?_))
    have GT := togs_good G (cells_Cells G.n1 (fun _ _ => true))
    refine ACalls.mono (hRows_ok hx hk (by have := GT.len; unfold allCells'; simp only [cond_true]; omega) (fun r hr => by have := GT.sq r hr; omega)) ?_
    rintro r2 H2 ⟨rfl, rfl⟩
    exact ⟨by simp, rfl⟩
  | succ c ih =>
    intro i v5 H' ls L1 hi him hb0 hr hls he
    apply laws_FnColoursFlip.step44
    unfold laws_FnColoursFlip.step44_vc
    repeat' (with_reducible first
 | refine rTT ?_
 | refine rRFL ?_
 | refine rLEN (by assumption) ?_
 | (refine rIXk (by assumption) (by assumption) ?_; intro p hp)
 | (refine rIX (by assumption) (by omega) (by omega) ?_; intro p a ha hp)
 | refine rLDi (by assumption) ?_
 | (refine rLD (by assumption) ?_; intro c hc)
 | refine rADD (by omega) ?_
 | refine rSUB (by omega) ?_
 | refine rLSS ?_
 | refine rLEQ ?_
 | refine rGTR ?_
 | refine rGEQ ?_
 | refine rEQL ?_
 | refine rNEQ ?_
 | refine rNOT ?_
 | (refine rBRK ?_ ?_ <;> intro hb)
 | (refine rBRKn ?_ ?_ <;> intro hb)
 | (refine rBRKnb ?_ ?_ <;> intro hb)
 | (refine rBRKb ?_ ?_ <;> intro hb)
 | (refine rSPL ?_ ?_ <;> intro hb)
 | (refine rSPLn ?_ ?_ <;> intro hb)
 | (refine rSPLnb ?_ ?_ <;> intro hb)
 | (refine rSPLb ?_ ?_ <;> intro hb)
 | (exfalso; omega))
    show laws_FnColoursFlip.L47 _ _ _ _ (I i) (I (1 : Nat)) H'
    refine wave_in hw (by omega) hi (by omega) (fun v5 H' ls' hb1 hr1 => ?_) (w.length - 1) 1 v5 H' ls L1 (by omega) (by omega) hb0 hr (by omega) rfl
    refine ih (i + 1) v5 H' ls' _ (by omega) (by omega) hb1 hr1 ?_ ?_
    · rw [hr1.1, List.length_append, ← hr.1]
      have := cellsRow_len (fun _ => true) i (w.length - 1) 1
      omega
    · rw [cellsFrom] at he
      rw [List.append_assoc]; exact he
theorem colours_tail2 (hv : IsSl IsB v more) (hl : more.length ≤ 1099511627776) : laws_FnColoursFlip.J36 (True1 H) v H := by
  apply laws_FnColoursFlip.join36
  unfold laws_FnColoursFlip.join36_vc
  refine ACalls.mono (drawRowWave_ok hv hl) ?_
  rintro r H1 ⟨⟨w, hw, wl, wr⟩, rfl⟩
  refine ACalls.mono (rowWave_ok hw (by omega)) ?_
  rintro r2 H2 ⟨⟨x, rfl, hx⟩, rfl⟩
  refine rEXT0 (rEXT1 ?_)
  refine ACalls.mono (specRowWave_ok hw (by omega) (fun r h => by have := wr r h; omega)) ?_
  rintro r3 H3 ⟨⟨y, rfl, hy⟩, rfl⟩
  refine rEXT0 (rEXT1 (rNEB (rSPf (by simp) ?_)))
  have hs : (bif goodB w then togs w (allCells' w.length) else []).length ≤ 1000000 ∧ ∀ r ∈ (bif goodB w then togs w (allCells' w.length) else []), r.length ≤ 1000000 := by
    cases hg : goodB w with
    | false => exact ⟨by simp, by simp⟩
    | true =>
      have G := goodB_iff.1 hg
      have GT := togs_good G (cells_Cells G.n1 (fun _ _ => true))
      have h6 := GT.n6
      simp only [cond_true]
      unfold allCells'
      exact ⟨by rw [GT.len]; omega, fun r hr => by rw [GT.sq r hr]; omega⟩
  refine ACalls.mono (hRows_ok hx hy hs.1 hs.2) ?_
  rintro r4 H4 ⟨rfl, rfl⟩
  refine rNOT (rBRf (by simp) ?_)
  refine rBRKb (fun hg => ?_) (fun _ => ⟨rfl, rfl⟩)
  rw [hg, cond_true] at hx
  have hn := (goodB_iff.1 hg).n1
  show laws_FnColoursFlip.L44 _ _ _ _ (I (1 : Nat)) H4
  exact wave_out hw hg hx (w.length - 1) 1 _ H4 [] [] (by omega) (by omega) (bld_nil H4) Rel2.nil (by simp) rfl
/-! Toggles. -/
theorem drop_pred {L : List (List Int)} {k : Nat} {c : List Int} (h : L[k]? = some c) : (L.drop k).reverse = (L.drop (k + 1)).reverse ++ [c] := by
  rw [drop_some h, List.reverse_cons]
theorem toggles_loop (hv : IsSl IsB v more) (hl : more.length ≤ 1099511627776) {a L : List (List Int)} {va vL vy : AVal} (ha : IsTab va a) (hL : IsTab vL L) (hy : IsTab vy (togs a L)) (hB : toggleB a L = true) (sa : Small a) : ∀ (k : Nat) (v5 : AVal) (H' : Heap) (ls : List AVal), k ≤ L.length → Bld H v5 H' ls → Rel2 IsInts ls (L.drop k).reverse →
    laws_FnColoursFlip.L30 (True1 H) v va vL vy v5 (I ((k : Int) - 1)) H' := by
  have hB' := hB
  simp only [toggleB, Bool.and_eq_true, decide_eq_true_eq] at hB'
  obtain ⟨hg, hlen, hall⟩ := hB'
  have G := goodB_iff.1 hg
  have h6 := G.n6
  have hC := all_Cells hall
  intro k
  induction k with
  | zero =>
    intro v5 H' ls hk hb0 hr
    rw [List.drop_zero] at hr
    apply laws_FnColoursFlip.step30
    unfold laws_FnColoursFlip.step30_vc
    refine rGEQ (rBRf (by simp) ?_)
    refine bld_arg hb0 hr (v' := v5) fun v' hv' => ?_
    have GT := togs_good G hC
    have lT := GT.len
    have hcr : ∀ c ∈ L.reverse, c.length ≤ 1000000 := fun c hc => by
      obtain ⟨i, j, rfl, _⟩ := hC c (List.mem_reverse.1 hc); simp
    refine ACalls.mono (toggleCells_ok hy hv' (by omega) (by simp; omega) hcr) ?_
    rintro r1 H1 ⟨⟨x, rfl, hx⟩, rfl⟩
    have htB : toggleB (togs a L) L.reverse = true := by
      unfold toggleB
      rw [goodB_of GT, lT, decide_eq_true (by simp; omega)]
      simp only [Bool.true_and, List.all_reverse]; exact hall
    rw [htB, cond_true, togs_rev G hC] at hx
    rw [htB]
    refine rEXT0 (rEXT1 (rNOT (rSPf rfl ?_)))
    refine ACalls.mono (hRows_ok hx ha (by omega) (fun r h => by have := sa.2 r h; omega)) ?_
    rintro r2 H2 ⟨rfl, rfl⟩
    exact rNOT (rBRf (by simp) (colours_tail2 hv hl))
  | succ k ih =>
    intro v5 H' ls hk hb0 hr
    obtain ⟨c, hc⟩ := ex_get (l := L) (k := k) (by omega)
    have hls : ls.length ≤ 1000 := by have := hr.1; simp at this; omega
    have e : (((k + 1 : Nat) : Int) - 1) = (k : Int) := by omega
    rw [e]
    apply laws_FnColoursFlip.step30
    unfold laws_FnColoursFlip.step30_vc
    refine rGEQ (rBRt (by simp) ?_)
    refine rTT (rIXk hL hc fun p hp => rTT (rTT (rLD hp fun cv hcv => ?_)))
    refine rTT (rTT (rTT (rLIT1 hcv.one ?_)))
    refine rTT (rTT (rAPK1 hb0 (by omega) fun v' H2 hb1 => ?_))
    refine rSUB (by constructor <;> omega) ?_
    exact ih v' H2 _ (by omega) hb1 (by rw [drop_pred hc]; exact hr.snoc hcv)
theorem colours_tail1 (hv : IsSl IsB v more) (hl : more.length ≤ 1099511627776) : laws_FnColoursFlip.J22 (True1 H) v H := by
  apply laws_FnColoursFlip.join22
  unfold laws_FnColoursFlip.join22_vc
  refine ACalls.mono (drawToggleCells_ok hv hl) ?_
  rintro r H1 ⟨⟨a, L, va, vL, rfl, ha, hL, sa, lL, rL⟩, rfl⟩
  have la := sa.1
  have rL' : ∀ c ∈ L, c.length ≤ 1000000 := fun c hc => by have := rL c hc; omega
  refine rEXT0 (rEXT1 ?_)
  refine ACalls.mono (toggleCells_ok ha hL (by omega) (by omega) rL') ?_
  rintro r2 H2 ⟨⟨x, rfl, hx⟩, rfl⟩
  refine rEXT0 (rEXT1 ?_)
  refine ACalls.mono (specToggleCells_ok ha hL (by omega) (fun r h => by have := sa.2 r h; omega) (by omega) rL') ?_
  rintro r3 H3 ⟨⟨y, rfl, hy⟩, rfl⟩
  refine rEXT0 (rEXT1 (rNEB (rSPf (by simp) ?_)))
  have hs : (bif toggleB a L then togs a L else []).length ≤ 1000000 ∧ ∀ r ∈ (bif toggleB a L then togs a L else []), r.length ≤ 1000000 := by
    cases hg : toggleB a L with
    | false => exact ⟨by simp, by simp⟩
    | true =>
      simp only [toggleB, Bool.and_eq_true] at hg
      have GT := togs_good (goodB_iff.1 hg.1) (all_Cells hg.2.2)
      have h6 := GT.n6
      simp only [cond_true]
      exact ⟨by rw [GT.len]; omega, fun r hr => by rw [GT.sq r hr]; omega⟩
  refine ACalls.mono (hRows_ok hx hy hs.1 hs.2) ?_
  rintro r4 H4 ⟨rfl, rfl⟩
  refine rNOT (rBRf (by simp) ?_)
  refine rBRKb (fun hB => ?_) (fun _ => colours_tail2 hv hl)
  rw [hB, cond_true] at hx
  refine rLEN hL (rSUB (by constructor <;> omega) ?_)
  exact toggles_loop hv hl ha hL hx hB sa L.length _ H4 [] (Nat.le_refl _) (bld_nil H4) (by rw [List.drop_length]; exact Rel2.nil)
/-! A colour. -/
theorem colour_loop (hv : IsSl IsB v more) (hl : more.length ≤ 1099511627776) {m : List (List Int)} {vm vk vc vb : AVal} {col : Int} (hm : IsTab vm m) (hk : IsTab vk (flipCol m col)) (hc : IsTab vc (flippedF m col)) (hb' : IsTab vb m) (hB : colB m col = true) (sm : Small m) : ∀ (k : Nat) (v5 : AVal) (H' : Heap) (ls : List AVal), k ≤ (flippedF m col).length → Bld H v5 H' ls → Rel2 IsInts ls ((flippedF m col).drop k).reverse →
    laws_FnColoursFlip.L15 (True1 H) v vm (I col) vk vc vb (.bool true) (I (flippedF m col).length) (.bool true) v5 (I ((k : Int) - 1)) H' := by
  have hB' := hB
  simp only [colB, Bool.and_eq_true, decide_eq_true_eq] at hB'
  obtain ⟨hg, hcol⟩ := hB'
  have G := goodB_iff.1 hg
  have h6 := G.n6
  have GK := flipCol_good G col
  have lK := GK.len
  have hfl := flipped_len (m := m) (col := col) sm.1
  intro k
  induction k with
  | zero =>
    intro v5 H' ls hk' hb0 hr
    rw [List.drop_zero] at hr
    apply laws_FnColoursFlip.step15
    unfold laws_FnColoursFlip.step15_vc
    refine rGEQ (rBRf (by simp) ?_)
    refine bld_arg hb0 hr (v' := v5) fun v' hv' => ?_
    have hcr : ∀ c ∈ (flippedF m col).reverse, c.length ≤ 1000000 := fun c hc => by
      have := cells_small c (List.mem_reverse.1 hc); omega
    refine ACalls.mono (followFlips_ok hm hv' (by have := sm.1; omega) (by simp; omega) hcr) ?_
    have hfo : folM m (flippedF m col).reverse = some (flipCol m col) := by
      unfold folM; rw [if_pos ⟨hg, by simp; omega⟩]; exact follow_flipped G col
    rw [hfo]
    rintro r1 H1 ⟨⟨x, rfl, hx⟩, rfl⟩
    have hx : IsTab x (flipCol m col) := hx
    refine rEXT0 (rEXT1 ?_)
    refine ACalls.mono (flippedCells_ok hk (by omega)) ?_
    have hBK : colB (flipCol m col) col = true := by unfold colB; rw [goodB_of GK, decide_eq_true hcol]; rfl
    rw [hBK, flipped_flip G]
    rintro r2 H2 ⟨⟨y, rfl, hy⟩, rfl⟩
    have hy : IsTab y (flippedF m col) := hy
    refine rEXT0 (rEXT1 (rNOT (rSPf rfl ?_)))
    refine ACalls.mono (hRows_ok hb' hm (by have := sm.1; omega) (fun r h => by have := sm.2 r h; omega)) ?_
    rintro r3 H3 ⟨rfl, rfl⟩
    refine rNOT (rSPf (by simp) (rNOT (rSPf rfl (rLEN hc (rNEQ (rSPf (by simp) (rNOT (rSPf rfl ?_))))))))
    refine ACalls.mono (hRows_ok hx hk (by omega) (fun r hr => by rw [GK.sq r hr]; omega)) ?_
    rintro r4 H4 ⟨rfl, rfl⟩
    refine rNOT (rSPf (by simp) (rNOT (rSPf rfl ?_)))
    refine ACalls.mono (hRows_ok hy hc (by omega) (fun c hc => by have := cells_small c hc; omega)) ?_
    rintro r5 H5 ⟨rfl, rfl⟩
    exact rNOT (rBRf (by simp) (colours_tail1 hv hl))
  | succ k ih =>
    intro v5 H' ls hk' hb0 hr
    obtain ⟨c, hcx⟩ := ex_get (l := flippedF m col) (k := k) (by omega)
    have hls : ls.length ≤ 1000 := by have := hr.1; simp at this; omega
    have e : (((k + 1 : Nat) : Int) - 1) = (k : Int) := by omega
    rw [e]
    apply laws_FnColoursFlip.step15
    unfold laws_FnColoursFlip.step15_vc
    refine rGEQ (rBRt (by simp) ?_)
    refine rTT (rIXk hc hcx fun p hp => rTT (rTT (rLD hp fun cv hcv => ?_)))
    refine rTT (rTT (rTT (rLIT1 hcv.one ?_)))
    refine rTT (rTT (rAPK1 hb0 (by omega) fun v' H2 hb1 => ?_))
    refine rSUB (by constructor <;> omega) ?_
    exact ih v' H2 _ (by omega) hb1 (by rw [drop_pred hcx]; exact hr.snoc hcv)
theorem colours_law (hu : IsSl IsB u code) (hul : code.length ≤ 9223372036854775807) (hv : IsSl IsB v more) (hl : more.length ≤ 9223372036854775807) :
    ACalls Try.prog 3 [u, v] H (True1 H) := by
  apply laws_FnColoursFlip.start
  unfold laws_FnColoursFlip.start_vc
  refine ACalls.mono (big_ok hu hv hul hl) ?_
  rintro r H1 ⟨rfl, rfl⟩
  refine rBRK (fun _ => ⟨rfl, rfl⟩) (fun hbig => ?_)
  have hul : code.length ≤ 1099511627776 := by omega
  have hl : more.length ≤ 1099511627776 := by omega
  refine ACalls.mono (drawFlipColour_ok hu hul) ?_
  rintro r H1 ⟨⟨m, vm, col, rfl, hm, sm⟩, rfl⟩
  have lm : m.length ≤ 100000 := by have := sm.1; omega
  have rm : ∀ r ∈ m, r.length ≤ 1000000 := fun r h => by have := sm.2 r h; omega
  refine rEXT0 (rEXT1 ?_)
  refine ACalls.mono (flipColour_ok hm lm) ?_
  rintro r2 H2 ⟨⟨x, rfl, hx⟩, rfl⟩
  refine rEXT0 (rEXT1 ?_)
  refine ACalls.mono (specFlipColour_ok hm lm rm) ?_
  rintro r3 H3 ⟨⟨y, rfl, hy⟩, rfl⟩
  refine rEXT0 (rEXT1 ?_)
  refine ACalls.mono (flippedCells_ok hm lm) ?_
  rintro r4 H4 ⟨⟨z, rfl, hz⟩, rfl⟩
  refine rEXT0 (rEXT1 ?_)
  refine ACalls.mono (specFlippedCells_ok hm lm rm) ?_
  rintro r5 H5 ⟨⟨w, rfl, hw⟩, rfl⟩
  refine rEXT0 (rEXT1 (rNEB (rSPf (by simp) ?_)))
  have hs : (bif colB m col then flipCol m col else []).length ≤ 1000000 ∧ ∀ r ∈ (bif colB m col then flipCol m col else []), r.length ≤ 1000000 := by
    cases hg : colB m col with
    | false => exact ⟨by simp, by simp⟩
    | true =>
      simp only [colB, Bool.and_eq_true] at hg
      have GT := flipCol_good (goodB_iff.1 hg.1) col
      have h6 := GT.n6
      simp only [cond_true]
      exact ⟨by rw [GT.len]; omega, fun r hr => by rw [GT.sq r hr]; omega⟩
  have hs2 : (bif colB m col then flippedF m col else []).length ≤ 1000000 ∧ ∀ r ∈ (bif colB m col then flippedF m col else []), r.length ≤ 1000000 := by
    cases hg : colB m col with
    | false => exact ⟨by simp, by simp⟩
    | true =>
      have hfl := flipped_len (m := m) (col := col) sm.1
      simp only [cond_true]
      exact ⟨by omega, fun c hc => by have := cells_small c hc; omega⟩
  refine ACalls.mono (hRows_ok hx hy hs.1 hs.2) ?_
  rintro r6 H6 ⟨rfl, rfl⟩
  refine rNOT (rSPf (by simp) (rNEB (rSPf (by simp) ?_)))
  refine ACalls.mono (hRows_ok hz hw hs2.1 hs2.2) ?_
  rintro r7 H7 ⟨rfl, rfl⟩
  refine rNOT (rSPf (by simp) (rNEB (rBRf (by simp) ?_)))
  refine rBRKb (fun hB => ?_) (fun _ => colours_tail1 hv hl)
  rw [hB, cond_true] at hx hz
  have hB' := hB
  simp only [colB, Bool.and_eq_true, decide_eq_true_eq] at hB'
  have G := goodB_iff.1 hB'.1
  have GK := flipCol_good G col
  have lK := GK.len
  have hBK : colB (flipCol m col) col = true := by unfold colB; rw [goodB_of GK, decide_eq_true hB'.2]; rfl
  refine ACalls.mono (flipColour_ok hx (by omega)) ?_
  rw [hBK, flipCol_flip G]
  rintro r8 H8 ⟨⟨q, rfl, hq⟩, rfl⟩
  refine rEXT0 (rEXT1 ?_)
  refine ACalls.mono (flipDistance_ok hm hx lm (by omega)) ?_
  rintro r9 H9 ⟨rfl, rfl⟩
  have hp : pairB m (flipCol m col) = true := by unfold pairB; rw [hB'.1, goodB_of GK, lK]; simp
  rw [hp, cond_true, dist_flipCol G]
  have hfl := flipped_len (m := m) (col := col) sm.1
  refine rEXT0 (rEXT1 (rLEN hz (rSUB (by constructor <;> omega) ?_)))
  exact colour_loop hv hl hm hx hz hq hB sm (flippedF m col).length _ H9 [] (Nat.le_refl _) (bld_nil H9) (by rw [List.drop_length]; exact Rel2.nil)
end

end Go.Proofs.Ytccioplhchmilaa.AL
