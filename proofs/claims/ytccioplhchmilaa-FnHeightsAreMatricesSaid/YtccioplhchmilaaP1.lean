/-
  Plain facts: sign matrices by places, their corner sums and heights, being below.
-/
import Derived.Test.YtccioplhchmilaaE3
set_option linter.unusedVariables false
set_option maxRecDepth 100000
namespace Go.Proofs.Ytccioplhchmilaa.AL
open Go Go.Proofs

def getM (t : List (List Int)) (i j : Nat) : Int := (t.getD i []).getD j 0
def psum (f : Nat → Int) : Nat → Int
  | 0 => 0
  | n + 1 => psum f n + f n
/-- the sum of the numbers in the first i rows and j columns -/
def Cn (t : List (List Int)) (i j : Nat) : Int := psum (fun i' => psum (fun j' => getM t i' j') j) i

theorem psum_succ (f : Nat → Int) (n : Nat) : psum f (n + 1) = psum f n + f n := rfl
theorem psum_congr {f g : Nat → Int} : ∀ {n : Nat}, (∀ i, i < n → f i = g i) → psum f n = psum g n
  | 0, _ => rfl
  | n + 1, h => by rw [psum, psum, psum_congr (fun i hi => h i (by omega)), h n (by omega)]
theorem psum_add (f g : Nat → Int) : ∀ n, psum (fun i => f i + g i) n = psum f n + psum g n
  | 0 => rfl
  | n + 1 => by rw [psum, psum, psum, psum_add f g n]; omega
theorem psum_zero : ∀ n, psum (fun _ => 0) n = 0
  | 0 => rfl
  | n + 1 => by rw [psum, psum_zero n]; rfl
theorem psum_le {f g : Nat → Int} : ∀ {n : Nat}, (∀ i, i < n → f i ≤ g i) → psum f n ≤ psum g n
  | 0, _ => Int.le_refl _
  | n + 1, h => by rw [psum, psum]; have := psum_le (n := n) (f := f) (g := g) (fun i hi => h i (by omega)); have := h n (by omega); omega
theorem psum_one : ∀ n, psum (fun _ => 1) n = n
  | 0 => rfl
  | n + 1 => by rw [psum, psum_one n]; omega

theorem Cn_row (t : List (List Int)) (i j : Nat) : Cn t (i + 1) j = Cn t i j + psum (getM t i) j := rfl
theorem Cn_col (t : List (List Int)) (i j : Nat) : Cn t i (j + 1) = Cn t i j + psum (fun i' => getM t i' j) i := by
  unfold Cn
  have : (fun i' => psum (fun j' => getM t i' j') (j + 1)) = fun i' => psum (fun j' => getM t i' j') j + getM t i' j := rfl
  rw [this, psum_add]
theorem Cn_0l (t : List (List Int)) (j : Nat) : Cn t 0 j = 0 := rfl
theorem Cn_0r (t : List (List Int)) (i : Nat) : Cn t i 0 = 0 := psum_zero i

/-- the sums of the first numbers of a list -/
def lsum (l : List Int) (k : Nat) : Int := psum (fun j => l.getD j 0) k

theorem getM_eq {a b : List (List Int)} {n : Nat} (ha : a.length = n) (hb : b.length = n) (hsa : ∀ r ∈ a, r.length = n) (hsb : ∀ r ∈ b, r.length = n) (h : ∀ i j, i < n → j < n → getM a i j = getM b i j) : a = b := by
  refine List.ext_getElem (by omega) fun i hi hi' => ?_
  refine List.ext_getElem (by rw [hsa _ (List.getElem_mem hi), hsb _ (List.getElem_mem hi')]) fun j hj hj' => ?_
  have hj2 := hj
  rw [hsa _ (List.getElem_mem hi)] at hj2
  have := h i j (by omega) hj2
  simpa [getM, List.getD, hi, hi', hj, hj'] using this

/-! ### Sign matrices -/
theorem lsum_cons (x : Int) (l : List Int) (k : Nat) : lsum (x :: l) (k + 1) = x + lsum l k := by
  unfold lsum
  induction k with
  | zero => simp [psum]
  | succ k ih =>
    rw [psum_succ, ih, psum_succ]
    simp
    omega
theorem lsum_0 (l : List Int) : lsum l 0 = 0 := rfl
theorem altG_iff : ∀ {l : List Int} {s : Int}, 0 ≤ s → s ≤ 1 → (alternateG l s = true ↔ (∀ k, k ≤ l.length → 0 ≤ s + lsum l k ∧ s + lsum l k ≤ 1) ∧ s + lsum l l.length = 1)
  | [], s, h0, h1 => by
    simp only [alternateG, decide_eq_true_eq, List.length_nil, lsum_0]
    constructor
    · intro h
      refine ⟨fun k hk => ?_, by omega⟩
      have : k = 0 := by omega
      subst this
      rw [lsum_0]; omega
    · intro h; omega
  | x :: l, s, h0, h1 => by
    simp only [alternateG, Bool.and_eq_true, decide_eq_true_eq, List.length_cons, lsum_cons]
    constructor
    · rintro ⟨⟨hx, hs⟩, hr⟩
      rw [w64_in (by omega)] at hs hr
      obtain ⟨g1, g2⟩ := (altG_iff hs.1 hs.2).1 hr
      refine ⟨fun k hk => ?_, by omega⟩
      cases k with
      | zero => rw [lsum_0]; omega
      | succ k => rw [lsum_cons]; have := g1 k (by omega); omega
    · rintro ⟨g1, g2⟩
      have e1 := g1 1 (by omega)
      rw [lsum_cons, lsum_0] at e1
      have hw : w64 (s + x) = s + x := w64_in (by omega)
      rw [hw]
      refine ⟨⟨by omega, by omega⟩, (altG_iff (by omega) (by omega)).2 ⟨fun k hk => ?_, by omega⟩⟩
      have := g1 (k + 1) (by omega)
      rw [lsum_cons] at this
      omega
theorem alt_iff {l : List Int} : alternateB l = true ↔ (∀ k, k ≤ l.length → 0 ≤ lsum l k ∧ lsum l k ≤ 1) ∧ lsum l l.length = 1 := by
  unfold alternateB
  rw [altG_iff (Int.le_refl 0) (by omega)]
  simp only [Int.zero_add]

/-- Sign matrices, by places. -/
structure Good (n : Nat) (t : List (List Int)) : Prop where
  len : t.length = n
  n1 : 1 ≤ n
  n6 : n ≤ 6
  sq : ∀ r ∈ t, r.length = n
  row : ∀ i j, i < n → j ≤ n → 0 ≤ psum (getM t i) j ∧ psum (getM t i) j ≤ 1
  rowt : ∀ i, i < n → psum (getM t i) n = 1
  col : ∀ i j, i ≤ n → j < n → 0 ≤ psum (fun i => getM t i j) i ∧ psum (fun i => getM t i j) i ≤ 1
  colt : ∀ j, j < n → psum (fun i => getM t i j) n = 1
theorem lsum_col (t : List (List Int)) (j k : Nat) : lsum (col t j) k = psum (fun i => getM t i j) k := by
  unfold lsum
  refine psum_congr fun i _ => ?_
  unfold getM col
  cases h : t[i]? with
  | none => simp [List.getD, h]
  | some r => simp [List.getD, h]
theorem getD_mem {α : Type} {t : List α} {i : Nat} (h : i < t.length) (d : α) : t.getD i d ∈ t := by
  rw [List.getD_eq_getElem?_getD, List.getElem?_eq_getElem h]; exact List.getElem_mem h
theorem goodB_iff {t : List (List Int)} : goodB t = true ↔ Good t.length t := by
  unfold goodB isSquareB
  simp only [Bool.and_eq_true, decide_eq_true_eq, List.all_eq_true, List.mem_range, chk, alt_iff]
  constructor
  · rintro ⟨⟨h1, h6⟩, hs, hc⟩
    refine ⟨rfl, h1, h6, hs, ?_, ?_, ?_, ?_⟩
    · intro i j hi hj
      have hl : (t.getD i []).length = t.length := hs _ (getD_mem hi _)
      exact (hc i hi).1.1 j (by rw [hl]; exact hj)
    · intro i hi
      have hl : (t.getD i []).length = t.length := hs _ (getD_mem hi _)
      have := (hc i hi).1.2
      rw [hl] at this; exact this
    · intro i j hi hj
      have := (hc j hj).2.1 i (by simp [col]; exact hi)
      rw [lsum_col] at this; exact this
    · intro j hj
      have := (hc j hj).2.2
      rw [lsum_col] at this
      simpa [col] using this
  · intro h
    refine ⟨⟨h.n1, h.n6⟩, h.sq, fun i hi => ?_⟩
    have hl : (t.getD i []).length = t.length := h.sq _ (getD_mem hi _)
    refine ⟨⟨fun k hk => h.row i k hi (by rw [hl] at hk; exact hk), by rw [hl]; exact h.rowt i hi⟩, fun k hk => ?_, ?_⟩
    · rw [lsum_col]; exact h.col k i (by simpa [col] using hk) hi
    · rw [lsum_col]; simpa [col] using h.colt i hi

/-- Corner sums, by places. -/
structure CT (n : Nat) (C : Nat → Nat → Int) : Prop where
  l0 : ∀ j, j ≤ n → C 0 j = 0
  r0 : ∀ i, i ≤ n → C i 0 = 0
  ln : ∀ j, j ≤ n → C n j = j
  rn : ∀ i, i ≤ n → C i n = i
  dn : ∀ i j, i < n → j ≤ n → C i j ≤ C (i + 1) j ∧ C (i + 1) j ≤ C i j + 1
  rt : ∀ i j, i ≤ n → j < n → C i j ≤ C i (j + 1) ∧ C i (j + 1) ≤ C i j + 1
theorem Good.ct {n : Nat} {t : List (List Int)} (h : Good n t) : CT n (Cn t) := by
  refine ⟨fun j _ => rfl, fun i _ => Cn_0r t i, ?_, ?_, ?_, ?_⟩
  · intro j
    induction j with
    | zero => intro _; exact Cn_0r t n
    | succ j ih => intro hj; rw [Cn_col, ih (by omega), h.colt j (by omega)]; omega
  · intro i
    induction i with
    | zero => intro _; rfl
    | succ i ih => intro hi; rw [Cn_row, ih (by omega), h.rowt i (by omega)]; omega
  · intro i j hi hj; rw [Cn_row]; have := h.row i j hi hj; constructor <;> omega
  · intro i j hi hj; rw [Cn_col]; have := h.col i j hi hj; constructor <;> omega
theorem getM_Cn (t : List (List Int)) (i j : Nat) : getM t i j = Cn t (i + 1) (j + 1) - Cn t i (j + 1) - Cn t (i + 1) j + Cn t i j := by
  rw [Cn_row t i (j + 1), Cn_row t i j, psum_succ]; omega
theorem CT.le_min {n : Nat} {C : Nat → Nat → Int} (h : CT n C) : ∀ {i j : Nat}, i ≤ n → j ≤ n → 0 ≤ C i j ∧ C i j ≤ i ∧ C i j ≤ j := by
  intro i
  induction i with
  | zero => intro j _ hj; rw [h.l0 j hj]; omega
  | succ i ih =>
    intro j hi hj
    have h1 := ih (j := j) (by omega) hj
    have h2 := h.dn i j (by omega) hj
    refine ⟨by omega, by omega, ?_⟩
    clear ih h1 h2
    induction j with
    | zero => rw [h.r0 _ (by omega)]; omega
    | succ j ihj => have h3 := ihj (by omega); have := h.rt (i + 1) j (by omega) (by omega); omega
theorem CT.ge {n : Nat} {C : Nat → Nat → Int} (h : CT n C) {i : Nat} (hi : i ≤ n) : ∀ {d j : Nat}, j + d = n → (i : Int) + j - n ≤ C i j := by
  intro d
  induction d with
  | zero => intro j hj; have : j = n := by omega
            subst this; rw [h.rn i hi]; omega
  | succ d ih => intro j hj; have := ih (j := j + 1) (by omega); have := h.rt i j hi (by omega); omega

/-- A table of places. -/
theorem tabT_len (r c : Nat) (F : Nat → Nat → Int) : (tabT r c F).length = r := by simp [tabT]
theorem tabT_get {r c : Nat} {F : Nat → Nat → Int} {i j : Nat} (hi : i < r) (hj : j < c) : getM (tabT r c F) i j = F i j := by
  simp [getM, tabT, tabRow, List.getD, List.getElem?_range hi, List.getElem?_range hj]
theorem tabT_sq {r c : Nat} {F : Nat → Nat → Int} : ∀ x ∈ tabT r c F, x.length = c := by
  intro x hx
  simp only [tabT, List.mem_map] at hx
  obtain ⟨i, _, rfl⟩ := hx
  simp [tabRow]
theorem tabT_congr {r c : Nat} {F G : Nat → Nat → Int} (h : ∀ i j, i < r → j < c → F i j = G i j) : tabT r c F = tabT r c G := by
  unfold tabT
  refine List.map_congr_left fun i hi => ?_
  unfold tabRow
  refine List.map_congr_left fun j hj => ?_
  rw [List.mem_range] at hi hj
  exact h i j hi hj
theorem tab_eq {n c : Nat} {t : List (List Int)} (hl : t.length = n) (hs : ∀ r ∈ t, r.length = c) : t = tabT n c (getM t) := by
  refine List.ext_getElem (by rw [tabT_len]; exact hl) fun i hi hi' => ?_
  have hil : i < n := by omega
  have hrow : (tabT n c (getM t))[i] = tabRow c (getM t) i := by simp [tabT]
  rw [hrow]
  refine List.ext_getElem (by simp [tabRow, hs _ (List.getElem_mem hi)]) fun j hj hj' => ?_
  simp [tabRow, getM, List.getD, hi, hj]
/-- The matrix with corner sums. -/
def diff (C : Nat → Nat → Int) (i j : Nat) : Int := C (i + 1) (j + 1) - C i (j + 1) - C (i + 1) j + C i j
def ofC (n : Nat) (C : Nat → Nat → Int) : List (List Int) := tabT n n (diff C)
theorem ofC_row {n : Nat} {C : Nat → Nat → Int} (h0 : ∀ i, i ≤ n → C i 0 = 0) {i : Nat} (hi : i < n) : ∀ {j : Nat}, j ≤ n → psum (getM (ofC n C) i) j = C (i + 1) j - C i j
  | 0, _ => by rw [h0 (i + 1) (by omega), h0 i (by omega)]; rfl
  | j + 1, hj => by
    rw [psum_succ, ofC_row h0 hi (by omega)]
    unfold ofC
    rw [tabT_get hi (by omega)]
    unfold diff; omega
theorem ofC_col {n : Nat} {C : Nat → Nat → Int} (h0 : ∀ j, j ≤ n → C 0 j = 0) {j : Nat} (hj : j < n) : ∀ {i : Nat}, i ≤ n → psum (fun i => getM (ofC n C) i j) i = C i (j + 1) - C i j
  | 0, _ => by rw [h0 (j + 1) (by omega), h0 j (by omega)]; rfl
  | i + 1, hi => by
    rw [psum_succ, ofC_col h0 hj (by omega)]
    unfold ofC
    rw [tabT_get (by omega) hj]
    unfold diff; omega
theorem ofC_Cn {n : Nat} {C : Nat → Nat → Int} (h : CT n C) : ∀ {i j : Nat}, i ≤ n → j ≤ n → Cn (ofC n C) i j = C i j
  | 0, j, _, hj => by rw [h.l0 j hj]; rfl
  | i + 1, j, hi, hj => by
    rw [Cn_row, ofC_Cn h (by omega) hj]
    have := ofC_row h.r0 (i := i) (by omega) hj
    show C i j + psum (getM (ofC n C) i) j = _
    rw [this]; omega
theorem CT.good {n : Nat} {C : Nat → Nat → Int} (h : CT n C) (h1 : 1 ≤ n) (h6 : n ≤ 6) : Good n (ofC n C) := by
  refine ⟨tabT_len _ _ _, h1, h6, tabT_sq, ?_, ?_, ?_, ?_⟩
  · intro i j hi hj; rw [ofC_row h.r0 hi hj]; have := h.dn i j hi hj; constructor <;> omega
  · intro i hi; rw [ofC_row h.r0 hi (Nat.le_refl n), h.rn _ (by omega), h.rn _ (by omega)]; omega
  · intro i j hi hj; rw [ofC_col h.l0 hj hi]; have := h.rt i j hi hj; constructor <;> omega
  · intro j hj; rw [ofC_col h.l0 hj (Nat.le_refl n), h.ln _ (by omega), h.ln _ (by omega)]; omega
theorem Good.of {n : Nat} {t : List (List Int)} (h : Good n t) : t = ofC n (Cn t) := by
  refine (tab_eq h.len h.sq).trans (tabT_congr fun i j _ _ => ?_)
  rw [getM_Cn]; rfl
theorem ofC_congr {n : Nat} {C D : Nat → Nat → Int} (h : ∀ i j, i ≤ n → j ≤ n → C i j = D i j) : ofC n C = ofC n D :=
  tabT_congr fun i j hi hj => by unfold diff; rw [h _ _ (by omega) (by omega), h _ _ (by omega) (by omega), h _ _ (by omega) (by omega), h _ _ (by omega) (by omega)]

/-! ### Heights -/
theorem psum_bound {f : Nat → Int} {B : Int} : ∀ {n : Nat}, (∀ i, i < n → -B ≤ f i ∧ f i ≤ B) → -(B * n) ≤ psum f n ∧ psum f n ≤ B * n
  | 0, _ => by simp [psum]
  | n + 1, h => by
    have h1 := psum_bound (n := n) (f := f) (fun i hi => h i (by omega))
    have h2 := h n (by omega)
    rw [psum_succ]
    have : B * ((n + 1 : Nat) : Int) = B * n + B := by rw [Int.natCast_add, Int.mul_add]; simp
    omega
theorem sumW_small {r : List Int} : ∀ {k : Nat}, k ≤ r.length → (∀ j, j ≤ k → R64 (lsum r j)) → sumW (r.take k) = lsum r k
  | 0, _, _ => rfl
  | k + 1, hk, h => by
    have hg : r[k]? = some (r[k]'(by omega)) := List.getElem?_eq_getElem _
    have e : r.take (k + 1) = r.take k ++ [r[k]'(by omega)] := by rw [List.take_add_one, hg]; rfl
    have e2 : sumW (r.take k ++ [r[k]'(by omega)]) = w64 (sumW (r.take k) + r[k]'(by omega)) := by simp only [sumW, List.foldl_append, List.foldl_cons, List.foldl_nil]
    rw [e, e2, sumW_small (by omega) (fun j hj => h j (by omega))]
    have e3 : lsum r (k + 1) = lsum r k + r[k]'(by omega) := by
      unfold lsum; rw [psum_succ]; simp [List.getD, hg]
    rw [← e3, w64_in (h _ (Nat.le_refl _))]
theorem cornerF_good {n : Nat} {t : List (List Int)} (h : Good n t) : ∀ {i j : Nat}, i ≤ n → j ≤ n → cornerF t i j = Cn t i j
  | 0, j, _, _ => rfl
  | i + 1, j, hi, hj => by
    have hl := h.len
    have hg : t[i]? = some (t[i]'(by omega)) := List.getElem?_eq_getElem _
    have e : t.take (i + 1) = t.take i ++ [t[i]'(by omega)] := by rw [List.take_add_one, hg]; rfl
    have e1 : cornerF t (i + 1) j = w64 (cornerF t i j + sumW ((t[i]'(by omega)).take j)) := by
      unfold cornerF cornerG; rw [e, List.foldl_append]; rfl
    have e2 : ∀ j, lsum (t[i]'(by omega)) j = psum (getM t i) j := fun j => by
      unfold lsum; refine psum_congr fun k _ => ?_
      simp [getM, List.getD, hg]
    have hr := h.sq _ (List.getElem_mem (show i < t.length by omega))
    have e3 : sumW ((t[i]'(by omega)).take j) = psum (getM t i) j := by
      rw [sumW_small (by omega) (fun k hk => by rw [e2]; have := h.row i k (by omega) (by omega); constructor <;> omega), e2]
    rw [e1, cornerF_good h (by omega) hj, e3, ← Cn_row]
    have h6 := h.n6
    have := h.ct.le_min hi hj
    exact w64_in (by constructor <;> omega)
def htC (C : Nat → Nat → Int) (i j : Nat) : Int := (i : Int) + j - 2 * C i j
theorem heightsF_good {n : Nat} {t : List (List Int)} (h : Good n t) : heightsF t = tabT (n + 1) (n + 1) (htC (Cn t)) := by
  unfold heightsF
  rw [h.len]
  refine tabT_congr fun i j hi hj => ?_
  unfold heightAt htC
  have h6 := h.n6
  have := h.ct.le_min (i := i) (j := j) (by omega) (by omega)
  rw [cornerF_good h (by omega) (by omega), w64_in (n := (i : Int) + j) (by constructor <;> omega), w64_in (n := 2 * Cn t i j) (by constructor <;> omega), w64_in (by constructor <;> omega)]
theorem tdiv2 {x : Int} (h : 0 ≤ x) : (2 * x).tdiv 2 = x := by
  rw [Int.tdiv_eq_ediv_of_nonneg (by omega)]; omega
theorem hcAt_tab {n : Nat} {C : Nat → Nat → Int} (hc : ∀ i j, i ≤ n → j ≤ n → 0 ≤ C i j ∧ C i j ≤ 1000) {i j : Nat} (hi : i ≤ n) (hj : j ≤ n) : hcAt (tabT (n + 1) (n + 1) (htC C)) i j = C i j := by
  unfold hcAt
  have e := tabT_get (r := n + 1) (c := n + 1) (F := htC C) (i := i) (j := j) (by omega) (by omega)
  unfold getM at e
  have h1 := hc i j hi hj
  rw [e]
  unfold htC
  have e2 : ((i + j : Nat) : Int) - ((i : Int) + j - 2 * C i j) = 2 * C i j := by omega
  rw [e2, w64_in (by constructor <;> omega), tdiv2 h1.1]
theorem fromHeights_tab {n : Nat} {C : Nat → Nat → Int} (hc : ∀ i j, i ≤ n → j ≤ n → 0 ≤ C i j ∧ C i j ≤ 1000) : fromHeightsF (tabT (n + 1) (n + 1) (htC C)) = ofC n C := by
  unfold fromHeightsF ofC
  rw [tabT_len, Nat.add_sub_cancel]
  refine tabT_congr fun i j hi hj => ?_
  unfold fromH diff
  rw [hcAt_tab hc (by omega) (by omega), hcAt_tab hc (by omega) (by omega), hcAt_tab hc (by omega) (by omega), hcAt_tab hc (by omega) (by omega)]
  have h1 := hc i j (by omega) (by omega)
  have h2 := hc (i + 1) j (by omega) (by omega)
  have h3 := hc i (j + 1) (by omega) (by omega)
  have h4 := hc (i + 1) (j + 1) (by omega) (by omega)
  rw [w64_in (n := C (i + 1) (j + 1) - C i (j + 1)) (by constructor <;> omega), w64_in (n := C (i + 1) (j + 1) - C i (j + 1) - C (i + 1) j) (by constructor <;> omega), w64_in (by constructor <;> omega)]
theorem CT.small {n : Nat} {C : Nat → Nat → Int} (h : CT n C) (h6 : n ≤ 6) : ∀ i j, i ≤ n → j ≤ n → 0 ≤ C i j ∧ C i j ≤ 1000 := fun i j hi hj => by
  have := h.le_min hi hj; constructor <;> omega
theorem fromHeights_good {n : Nat} {t : List (List Int)} (h : Good n t) : fromHeightsF (heightsF t) = t := by
  rw [heightsF_good h, fromHeights_tab (h.ct.small h.n6)]; exact h.of.symm
theorem atT_tab {n : Nat} {F : Nat → Nat → Int} {i j : Nat} (hi : i < n) (hj : j < n) : atT (tabT n n F) i j = F i j := by
  unfold atT
  rw [if_neg (by omega)]
  exact tabT_get hi hj
theorem fromAt_tab {n : Nat} {F C : Nat → Nat → Int} (hF : ∀ i j, i < n → j < n → F i j = C (i + 1) (j + 1)) (hc : ∀ i j, i ≤ n → j ≤ n → 0 ≤ C i j ∧ C i j ≤ 1000) (hl : ∀ j, j ≤ n → C 0 j = 0) (hr : ∀ i, i ≤ n → C i 0 = 0) {i j : Nat} (hi : i < n) (hj : j < n) : fromAt (tabT n n F) i j = diff C i j := by
  have key : ∀ a b : Nat, a ≤ n → b ≤ n → atT (tabT n n F) ((a : Int) - 1) ((b : Int) - 1) = C a b := by
    intro a b ha hb
    cases a with
    | zero => rw [hl b hb]; unfold atT; rw [if_pos (by omega)]
    | succ a =>
      cases b with
      | zero => rw [hr _ ha]; unfold atT; rw [if_pos (by omega)]
      | succ b =>
        have e1 : (((a + 1 : Nat) : Int) - 1) = (a : Nat) := by omega
        have e2 : (((b + 1 : Nat) : Int) - 1) = (b : Nat) := by omega
        rw [e1, e2, atT_tab (by omega) (by omega), hF a b (by omega) (by omega)]
  unfold fromAt diff
  have k1 := key (i + 1) (j + 1) (by omega) (by omega)
  have k2 := key i (j + 1) (by omega) (by omega)
  have k3 := key (i + 1) j (by omega) (by omega)
  have k4 := key i j (by omega) (by omega)
  have e1 : (((i + 1 : Nat) : Int) - 1) = (i : Nat) := by omega
  have e2 : (((j + 1 : Nat) : Int) - 1) = (j : Nat) := by omega
  rw [e1, e2] at k1
  rw [e2] at k2
  rw [e1] at k3
  rw [k1, k2, k3, k4]
  have h1 := hc i j (by omega) (by omega)
  have h2 := hc (i + 1) j (by omega) (by omega)
  have h3 := hc i (j + 1) (by omega) (by omega)
  have h4 := hc (i + 1) (j + 1) (by omega) (by omega)
  rw [w64_in (n := C (i + 1) (j + 1) - C i (j + 1)) (by constructor <;> omega), w64_in (n := C (i + 1) (j + 1) - C i (j + 1) - C (i + 1) j) (by constructor <;> omega), w64_in (by constructor <;> omega)]
theorem fromT_tab {n : Nat} {F C : Nat → Nat → Int} (hF : ∀ i j, i < n → j < n → F i j = C (i + 1) (j + 1)) (hc : ∀ i j, i ≤ n → j ≤ n → 0 ≤ C i j ∧ C i j ≤ 1000) (hl : ∀ j, j ≤ n → C 0 j = 0) (hr : ∀ i, i ≤ n → C i 0 = 0) : fromT (tabT n n F) = ofC n C := by
  have e : fromT (tabT n n F) = tabT n n (fromAt (tabT n n F)) := by
    unfold fromT
    rw [tabT_len]
    refine List.map_congr_left fun i _ => ?_
    unfold fromRow tabRow
    rw [tabT_len]
  rw [e]
  exact tabT_congr fun i j hi hj => fromAt_tab hF hc hl hr hi hj
theorem heFrom_tab {n : Nat} {C : Nat → Nat → Int} (hc : ∀ i j, i ≤ n → j ≤ n → 0 ≤ C i j ∧ C i j ≤ 1000) (hl : ∀ j, j ≤ n → C 0 j = 0) (hr : ∀ i, i ≤ n → C i 0 = 0) : heFromF (tabT (n + 1) (n + 1) (htC C)) = ofC n C := by
  unfold heFromF
  rw [tabT_len, Nat.add_sub_cancel]
  exact fromT_tab (fun i j hi hj => hcAt_tab hc (by omega) (by omega)) hc hl hr
theorem heFrom_good {n : Nat} {t : List (List Int)} (h : Good n t) : heFromF (heightsF t) = t := by
  rw [heightsF_good h, heFrom_tab (h.ct.small h.n6) h.ct.l0 h.ct.r0]; exact h.of.symm
theorem ht_in {n : Nat} {C : Nat → Nat → Int} (h : CT n C) {i j : Nat} (hi : i ≤ n) (hj : j ≤ n) : 0 ≤ htC C i j ∧ htC C i j ≤ n := by
  unfold htC
  have h1 := h.le_min hi hj
  have h2 := h.ge hi (d := n - j) (j := j) (by omega)
  constructor <;> omega
theorem goodB_of {n : Nat} {t : List (List Int)} (h : Good n t) : goodB t = true := goodB_iff.2 (by have := h.len; rw [this]; exact h)
/-- Both tests of heights. -/
theorem heightsB_iff {g : List (List Int)} : heightsB g = true ↔ ∃ n t, Good n t ∧ g = heightsF t := by
  constructor
  · intro h
    simp only [heightsB, Bool.and_eq_true, decide_eq_true_eq] at h
    exact ⟨_, _, goodB_iff.1 h.2.2.1, h.2.2.2.symm⟩
  · rintro ⟨n, t, ht, rfl⟩
    have hl : (heightsF t).length = n + 1 := by rw [heightsF_good ht, tabT_len]
    have h1 := ht.n1
    have h6 := ht.n6
    simp only [heightsB, Bool.and_eq_true, decide_eq_true_eq, fromHeights_good ht, hl]
    refine ⟨by omega, ?_, goodB_of ht, trivial⟩
    simp only [isSquareB, List.all_eq_true, decide_eq_true_eq, hl]
    rw [heightsF_good ht]
    exact tabT_sq
theorem heGoodB_iff {g : List (List Int)} : heGoodB g = true ↔ ∃ n t, Good n t ∧ g = heightsF t := by
  constructor
  · intro h
    simp only [heGoodB, heRest, Bool.and_eq_true, decide_eq_true_eq] at h
    exact ⟨_, _, goodB_iff.1 h.2.2.1, h.2.2.2.symm⟩
  · rintro ⟨n, t, ht, rfl⟩
    have hl : (heightsF t).length = n + 1 := by rw [heightsF_good ht, tabT_len]
    have h1 := ht.n1
    have h6 := ht.n6
    simp only [heGoodB, heRest, Bool.and_eq_true, decide_eq_true_eq, heFrom_good ht, hl]
    refine ⟨by omega, ?_, goodB_of ht, trivial⟩
    rw [heightsF_good ht]
    simp only [List.all_eq_true, heRowB, Bool.and_eq_true, decide_eq_true_eq]
    intro r hr
    refine ⟨tabT_sq r hr, ?_⟩
    simp only [tabT, List.mem_map, List.mem_range] at hr
    obtain ⟨i, hi, rfl⟩ := hr
    simp only [tabRow, List.mem_map, List.mem_range]
    rintro x ⟨j, hj, rfl⟩
    have := ht_in ht.ct (i := i) (j := j) (by omega) (by omega)
    constructor <;> omega
theorem heGood_eq (g : List (List Int)) : heGoodB g = heightsB g := by
  rw [Bool.eq_iff_iff, heightsB_iff, heGoodB_iff]
theorem from_eq {g : List (List Int)} (h : heightsB g = true) : heFromF g = fromHeightsF g := by
  obtain ⟨n, t, ht, rfl⟩ := heightsB_iff.1 h
  rw [heFrom_good ht, fromHeights_good ht]

/-! ### Being below -/
theorem rowBelow_iff : ∀ {r s : List Int}, r.length = s.length → (rowBelow r s = true ↔ ∀ j, j < r.length → r.getD j 0 ≤ s.getD j 0)
  | [], [], _ => by simp [rowBelow]
  | x :: r, y :: s, h => by
    simp only [rowBelow, Bool.and_eq_true, decide_eq_true_eq, rowBelow_iff (r := r) (s := s) (by simpa using h)]
    constructor
    · rintro ⟨h1, h2⟩ j hj
      cases j with
      | zero => simpa using h1
      | succ j => have := h2 j (by simpa using hj); simpa using this
    · intro h'
      refine ⟨by simpa using h' 0 (by simp), fun j hj => ?_⟩
      have := h' (j + 1) (by simpa using hj)
      simpa using this
theorem belowB_iff {c : Nat} : ∀ {a b : List (List Int)}, a.length = b.length → (∀ r ∈ a, r.length = c) → (∀ r ∈ b, r.length = c) → (belowB a b = true ↔ ∀ i j, i < a.length → j < c → getM a i j ≤ getM b i j)
  | [], [], _, _, _ => by simp [belowB]
  | r :: a, s :: b, h, ha, hb => by
    have hr := ha r (by simp)
    have hs := hb s (by simp)
    simp only [belowB, Bool.and_eq_true, rowBelow_iff (hr.trans hs.symm), belowB_iff (a := a) (b := b) (by simpa using h) (fun x hx => ha x (by simp [hx])) (fun x hx => hb x (by simp [hx])), hr]
    constructor
    · rintro ⟨h1, h2⟩ i j hi hj
      cases i with
      | zero => simpa [getM] using h1 j hj
      | succ i => have := h2 i j (by simpa using hi) hj; simpa [getM] using this
    · intro h'
      refine ⟨fun j hj => by simpa [getM] using h' 0 j (by simp) hj, fun i j hi hj => ?_⟩
      have := h' (i + 1) j (by simpa using hi) hj
      simpa [getM] using this
theorem isBelow_iff {n : Nat} {a b : List (List Int)} (ha : Good n a) (hb : Good n b) : isBelowB a b = true ↔ ∀ i j, i ≤ n → j ≤ n → Cn b i j ≤ Cn a i j := by
  unfold isBelowB
  rw [heightsF_good ha, heightsF_good hb, belowB_iff (c := n + 1) (by rw [tabT_len, tabT_len]) tabT_sq tabT_sq, tabT_len]
  constructor
  · intro h i j hi hj
    have := h i j (by omega) (by omega)
    rw [tabT_get (by omega) (by omega), tabT_get (by omega) (by omega)] at this
    unfold htC at this; omega
  · intro h i j hi hj
    have := h i j (by omega) (by omega)
    rw [tabT_get (by omega) (by omega), tabT_get (by omega) (by omega)]
    unfold htC; omega
theorem below_anti {n : Nat} {a b : List (List Int)} (ha : Good n a) (hb : Good n b) : (isBelowB a b = true ∧ isBelowB b a = true) ↔ a = b := by
  constructor
  · rintro ⟨h1, h2⟩
    rw [isBelow_iff ha hb] at h1
    rw [isBelow_iff hb ha] at h2
    rw [ha.of, hb.of]
    exact ofC_congr fun i j hi hj => by have := h1 i j hi hj; have := h2 i j hi hj; omega
  · rintro rfl
    have : isBelowB a a = true := (isBelow_iff ha ha).2 fun _ _ _ _ => Int.le_refl _
    exact ⟨this, this⟩
/-- Mirrors. -/
def mirF (t : List (List Int)) : List (List Int) := tabT t.length t.length fun i j => getM t i (t.length - 1 - j)
theorem psum_rev (f : Nat → Int) (n : Nat) : ∀ {k : Nat}, k ≤ n → psum (fun j => f (n - 1 - j)) k = psum f n - psum f (n - k)
  | 0, _ => by simp [psum]
  | k + 1, hk => by
    rw [psum_succ, psum_rev f n (by omega)]
    have e : n - k = (n - (k + 1)) + 1 := by omega
    have e2 : n - 1 - k = n - (k + 1) := by omega
    rw [e, psum_succ, e2]; omega
theorem mir_row {n : Nat} {t : List (List Int)} (hl : t.length = n) {i j : Nat} (hi : i < n) (hj : j ≤ n) : psum (getM (mirF t) i) j = psum (getM t i) n - psum (getM t i) (n - j) := by
  rw [← psum_rev _ _ hj]
  refine psum_congr fun k hk => ?_
  unfold mirF
  rw [hl, tabT_get hi (by omega)]
theorem mir_Cn {n : Nat} {t : List (List Int)} (h : Good n t) : ∀ {i j : Nat}, i ≤ n → j ≤ n → Cn (mirF t) i j = i - Cn t i (n - j)
  | 0, j, _, _ => rfl
  | i + 1, j, hi, hj => by
    rw [Cn_row, mir_Cn h (by omega) hj, mir_row h.len (by omega) hj, h.rowt i (by omega), Cn_row]; omega
theorem mir_good {n : Nat} {t : List (List Int)} (h : Good n t) : Good n (mirF t) := by
  refine ⟨by rw [mirF, tabT_len]; exact h.len, h.n1, h.n6, by unfold mirF; rw [h.len]; exact tabT_sq, ?_, ?_, ?_, ?_⟩
  · intro i j hi hj
    rw [mir_row h.len hi hj, h.rowt i hi]
    have := h.row i (n - j) hi (by omega)
    constructor <;> omega
  · intro i hi
    rw [mir_row h.len hi (Nat.le_refl _), h.rowt i hi, Nat.sub_self]; rfl
  · intro i j hi hj
    have e : psum (fun i => getM (mirF t) i j) i = psum (fun i => getM t i (n - 1 - j)) i := psum_congr fun k hk => by
      unfold mirF; rw [h.len, tabT_get (by omega) hj]
    rw [e]; exact h.col i _ hi (by omega)
  · intro j hj
    have e : psum (fun i => getM (mirF t) i j) n = psum (fun i => getM t i (n - 1 - j)) n := psum_congr fun k hk => by
      unfold mirF; rw [h.len, tabT_get (by omega) hj]
    rw [e]; exact h.colt _ (by omega)
theorem below_mir {n : Nat} {a b : List (List Int)} (ha : Good n a) (hb : Good n b) : isBelowB (mirF b) (mirF a) = isBelowB a b := by
  rw [Bool.eq_iff_iff, isBelow_iff (mir_good hb) (mir_good ha), isBelow_iff ha hb]
  constructor
  · intro h i j hi hj
    have := h i (n - j) hi (by omega)
    rw [mir_Cn ha hi (by omega), mir_Cn hb hi (by omega)] at this
    have e : n - (n - j) = j := by omega
    rw [e] at this; omega
  · intro h i j hi hj
    rw [mir_Cn ha hi hj, mir_Cn hb hi hj]
    have := h i (n - j) hi (by omega); omega
/-- The least one. -/
def leastF (n : Nat) : List (List Int) := tabT n n fun i j => if i = j then 1 else 0
theorem min_ct (n : Nat) : CT n fun i j => ((min i j : Nat) : Int) := by
  refine ⟨?_, ?_, ?_, ?_, ?_, ?_⟩ <;> intros <;> omega
theorem least_of (n : Nat) : leastF n = ofC n fun i j => ((min i j : Nat) : Int) := by
  refine tabT_congr fun i j hi hj => ?_
  unfold diff
  dsimp only
  split <;> omega
theorem least_good {n : Nat} (h1 : 1 ≤ n) (h6 : n ≤ 6) : Good n (leastF n) := by rw [least_of]; exact (min_ct n).good h1 h6
theorem least_Cn {n i j : Nat} (hi : i ≤ n) (hj : j ≤ n) : Cn (leastF n) i j = (min i j : Nat) := by rw [least_of]; exact ofC_Cn (min_ct n) hi hj
theorem least_below {n : Nat} {a : List (List Int)} (ha : Good n a) : isBelowB (leastF n) a = true := by
  rw [isBelow_iff (least_good ha.n1 ha.n6) ha]
  intro i j hi hj
  rw [least_Cn hi hj]
  have := ha.ct.le_min hi hj
  omega
theorem below_most {n : Nat} {a : List (List Int)} (ha : Good n a) : isBelowB a (mirF (leastF n)) = true := by
  rw [isBelow_iff ha (mir_good (least_good ha.n1 ha.n6))]
  intro i j hi hj
  rw [mir_Cn (least_good ha.n1 ha.n6) hi hj, least_Cn hi (by omega)]
  have h1 := ha.ct.ge hi (d := n - j) (j := j) (by omega)
  have h2 := ha.ct.le_min hi hj
  omega

end Go.Proofs.Ytccioplhchmilaa.AL
