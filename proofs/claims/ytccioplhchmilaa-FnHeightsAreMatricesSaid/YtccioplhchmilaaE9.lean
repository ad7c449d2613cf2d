/-
  Contracts: drawn pairs.
-/
import Derived.Test.YtccioplhchmilaaE8
set_option linter.unusedVariables false
set_option maxRecDepth 100000
namespace Go.Proofs.Ytccioplhchmilaa.AL
open Go Go.Proofs

/-! (*spec.l1Cur).pair (slots: 0 c, 1 most, 2 c, 3 most, 6 m, 7 k, 8 n, 9 h, 10 cells, 11 cell, 12 next, 13 _) -/
namespace spec_l1Cur_pair
def lv : List (Nat × List Nat) := [(8, [0, 6, 7, 8])]
noncomputable def K8 : List KF := [.lp (cB (cB (cR (cR (cX (cR (cL (cR (cR (cR (cR (bodyOf Try.f85)))))))))))), .bl 0, .sq (cR (cR (cR (cR (cR (bodyOf Try.f85))))))]
def L8 (Q : AVal → Heap → Prop) (v0 v6 v7 v8 : AVal) (H : Heap) : Prop := At Try.prog 85 73 K8 Q (slotsOf [(0, v0), (6, v6), (7, v7), (8, v8)]) H
theorem L8_frz {Q : AVal → Heap → Prop} {v0 v6 v7 v8 w0 w6 w7 w8 : AVal} {H Hf Hk : Heap} {k : Nat} (hs : Split H Hf Hk) (hp : PurL Hf k [(0, v0, w0), (6, v6, w6), (7, v7, w7), (8, v8, w8)]) (h : L8 Q w0 w6 w7 w8 Hk) : L8 Q v0 v6 v7 v8 H := at_frz (ks := K8) hs hp h
def start_vc (Q : AVal → Heap → Prop) (a0 a1 : AVal) (H : Heap) : Prop :=
ACalls Try.prog 49 [a0, a1] H fun x1 H2 =>
ACalls Try.prog 53 [x1] H2 fun x3 H4 =>
NOTK x3 fun x5 =>
SPL x5 (ACalls Try.prog 49 [a0, a1] H4 fun x6 H7 =>
Q (AVal.tup [x1, x6]) H7) (ACalls Try.prog 70 [a0, (AVal.int .i64 10)] H4 fun x8 H9 =>
BRK x8 (ACalls Try.prog 49 [a0, a1] H9 fun x10 H11 =>
Q (AVal.tup [x1, x10]) H11) (LENK x1 fun x12 =>
ACalls Try.prog 101 [a0, x12] H9 fun x13 H14 =>
ACalls Try.prog 70 [a0, (AVal.int .i64 3)] H14 fun x15 H16 =>
BRK x15 (ACalls Try.prog 68 [a0, (AVal.int .i64 4)] H16 fun x17 H18 =>
spec_l1Cur_pair.L8 Q a0 x1 x1 x17 H18) (Q (AVal.tup [x1, x13]) H16)))
theorem start_eq (Q : AVal → Heap → Prop) (a0 a1 : AVal) (H : Heap) : vs Try.prog lv 85 73 Try.f85.results.toList Q true 1000 [.sq (bodyOf Try.f85)] (entry [a0, a1]) H = start_vc Q a0 a1 H := by kernel_rfl
theorem start {Q : AVal → Heap → Prop} {a0 a1 : AVal} {H : Heap} (h : start_vc Q a0 a1 H) : ACalls Try.prog 85 [a0, a1] H Q := acalls_vs (lv := lv) mixed Try.func85 rfl (by kernel_rfl) (by kernel_rfl) (start_eq Q a0 a1 H ▸ h)
def step8_vc (Q : AVal → Heap → Prop) (v0 v6 v7 v8 : AVal) (H : Heap) : Prop :=
BINK .gtr v8 (AVal.int .i64 0) fun x1 =>
BRK x1 (ACalls Try.prog 61 [v7] H fun x2 H3 =>
ACalls Try.prog 68 [v0, (AVal.int .i64 2)] H3 fun x4 H5 =>
BINK .mul (AVal.int .i64 2) x4 fun x6 =>
BINK .sub x6 (AVal.int .i64 1) fun x7 =>
ACalls Try.prog 100 [x2, x7] H5 fun x8 H9 =>
LENK x8 fun x10 =>
BINK .gtr x10 (AVal.int .i64 0) fun x11 =>
BRK x11 (LENK x8 fun x12 =>
ACalls Try.prog 68 [v0, x12] H9 fun x13 H14 =>
TT ∧ IXK 1 x8 x13 fun x15 =>
TT ∧ TT ∧ LDK false 1 H14 x15 fun x16 =>
TT ∧ TT ∧ IXK 1 x16 (AVal.int .i64 0) fun x17 =>
TT ∧ TT ∧ LDK false 1 H14 x17 fun x18 =>
TT ∧ IXK 1 x16 (AVal.int .i64 1) fun x19 =>
TT ∧ TT ∧ LDK false 1 H14 x19 fun x20 =>
ACalls Try.prog 37 [v7, x18, x20] H14 fun x21 H22 =>
EXTK x21 0 fun x23 =>
EXTK x21 1 fun x24 =>
BINK .sub v8 (AVal.int .i64 1) fun x25 =>
spec_l1Cur_pair.L8 Q v0 v6 x23 x25 H22) (BINK .sub v8 (AVal.int .i64 1) fun x26 =>
spec_l1Cur_pair.L8 Q v0 v6 v7 x26 H9)) (Q (AVal.tup [v6, v7]) H)
theorem step8_eq (Q : AVal → Heap → Prop) (v0 v6 v7 v8 : AVal) (H : Heap) : vs Try.prog lv 85 73 Try.f85.results.toList Q true 1000 (.sq (cB (cB (cR (cR (cX (cR (cL (cR (cR (cR (cR (bodyOf Try.f85)))))))))))) :: K8) (slotsOf [(0, v0), (6, v6), (7, v7), (8, v8)]) H = step8_vc Q v0 v6 v7 v8 H := by kernel_rfl
theorem step8 {Q : AVal → Heap → Prop} {v0 v6 v7 v8 : AVal} {H : Heap} (h : step8_vc Q v0 v6 v7 v8 H) : L8 Q v0 v6 v7 v8 H := at_lp_vs (lv := lv) (ks := K8.tail) mixed Try.func85 (step8_eq Q v0 v6 v7 v8 H ▸ h)
end spec_l1Cur_pair

/-! spec.DrawIsBelow (slots: 0 code, 1 code, 4 c) -/
namespace spec_DrawIsBelow
def lv : List (Nat × List Nat) := []
def start_vc (Q : AVal → Heap → Prop) (a0 : AVal) (H : Heap) : Prop :=
TT ∧ BLDK [AVal.nilS, (AVal.int .i64 0), (AVal.int .u64 0)] [((0, 1), a0)] fun x1 =>
BOXK x1 H fun x2 H3 =>
ACalls Try.prog 85 [x2, (AVal.int .i64 5)] H3 fun x4 H5 =>
EXTK x4 0 fun x6 =>
EXTK x4 1 fun x7 =>
Q (AVal.tup [x6, x7]) H5
theorem start_eq (Q : AVal → Heap → Prop) (a0 : AVal) (H : Heap) : vs Try.prog lv 29 12 Try.f29.results.toList Q true 1000 [.sq (bodyOf Try.f29)] (entry [a0]) H = start_vc Q a0 H := by kernel_rfl
theorem start {Q : AVal → Heap → Prop} {a0 : AVal} {H : Heap} (h : start_vc Q a0 H) : ACalls Try.prog 29 [a0] H Q := acalls_vs (lv := lv) mixed Try.func29 rfl (by kernel_rfl) (by kernel_rfl) (start_eq Q a0 H ▸ h)
end spec_DrawIsBelow


theorem mem_cellsRow {p : Nat → Bool} {i : Nat} {c : List Int} : ∀ {m j : Nat}, c ∈ cellsRow p i j m → ∃ j' : Nat, j ≤ j' ∧ j' < j + m ∧ p j' = true ∧ c = [(i : Int), (j' : Int)]
  | 0, j, h => by simp [cellsRow] at h
  | m + 1, j, h => by
    simp only [cellsRow, List.mem_append] at h
    rcases h with h | h
    · split at h
      · rename_i hp
        simp at h; exact ⟨j, by omega, by omega, hp, h⟩
      · simp at h
    · obtain ⟨j', h1, h2, h3, h4⟩ := mem_cellsRow h
      exact ⟨j', by omega, by omega, h3, h4⟩
theorem mem_cellsFrom {p : Nat → Nat → Bool} {n : Nat} {c : List Int} : ∀ {m i : Nat}, c ∈ cellsFrom p n i m → ∃ i' j' : Nat, i ≤ i' ∧ i' < i + m ∧ 1 ≤ j' ∧ j' ≤ n ∧ p i' j' = true ∧ c = [(i' : Int), (j' : Int)]
  | 0, i, h => by simp [cellsFrom] at h
  | m + 1, i, h => by
    simp only [cellsFrom, List.mem_append] at h
    rcases h with h | h
    · obtain ⟨j', h1, h2, h3, h4⟩ := mem_cellsRow h
      exact ⟨i, j', by omega, by omega, by omega, by omega, h3, h4⟩
    · obtain ⟨i', j', h1, h2, h3⟩ := mem_cellsFrom h
      exact ⟨i', j', by omega, by omega, h3⟩
theorem mem_cells {p : Nat → Nat → Bool} {n : Nat} {c : List Int} (h : c ∈ cellsF p n) : ∃ i j : Nat, 1 ≤ i ∧ i ≤ n ∧ 1 ≤ j ∧ j ≤ n ∧ p i j = true ∧ c = [(i : Int), (j : Int)] := by
  obtain ⟨i, j, h1, h2, h3, h4, h5⟩ := mem_cellsFrom h
  exact ⟨i, j, h1, by omega, h3, h4, h5⟩
theorem cellsFrom_len (p : Nat → Nat → Bool) (n : Nat) : ∀ (m i : Nat), (cellsFrom p n i m).length ≤ m * n
  | 0, i => by simp [cellsFrom]
  | m + 1, i => by
    have h1 := cellsFrom_len p n m (i + 1)
    have h2 := cellsRow_len (p i) i n 1
    simp only [cellsFrom, List.length_append, Nat.add_mul]
    omega
theorem cells_len (p : Nat → Nat → Bool) (n : Nat) : (cellsF p n).length ≤ n * n := cellsFrom_len p n n 1

def Small (t : List (List Int)) : Prop := t.length ≤ 7 ∧ ∀ r ∈ t, r.length ≤ 7
theorem small_sq {t : List (List Int)} (hl : t.length ≤ 6) (hs : isSquareB t = true) : Small t := ⟨by omega, fun r hr => by rw [sq_len hs hr]; omega⟩
def PairV (A : Int) (i g : Nat) (H0 : Heap) (r : AVal) (H : Heap) : Prop := ∃ a b va vb cs, r = .tup [va, vb] ∧ IsTab va a ∧ IsTab vb b ∧ Small a ∧ Small b ∧ H = hset H0 i g cs ∧ Cur A H i g
theorem heFlip_sq {m : List (List Int)} {i j : Int} (hm : 1 ≤ m.length) : (heFlipF m i j).length = m.length ∧ isSquareB (heFlipF m i j) = true := by
  unfold heFlipF heFromF
  refine ⟨?_, fromT_sq _⟩
  rw [fromT_len, tabT_len, heUp, setM_len, heights_len]; omega
theorem pair_loop {A : Int} (hA : A ≤ 1000000) {H0 : Heap} {i g : Nat} {a : List (List Int)} {v6 : AVal} (ha : IsTab v6 a) (hsa : Small a) : ∀ (m : Nat) (B : Int) (t : List (List Int)) (v7 : AVal) (H : Heap) (cs : List AVal), B + 10 * m ≤ A → m ≤ 10 → IsTab v7 t → t.length ≤ 6 → isSquareB t = true → H = hset H0 i g cs → Cur B H i g →
    spec_l1Cur_pair.L8 (PairV A i g H0) (.ptr i g 0) v6 v7 (I m) H := by
  intro m
  induction m with
  | zero =>
    intro B t v7 H cs hB hm ht htl hts hH hc
    apply spec_l1Cur_pair.step8
    unfold spec_l1Cur_pair.step8_vc
    repeat' (first
    | with_reducible refine rTT ?_
    | with_reducible refine rRFL ?_
    | with_reducible refine rLEN (by assumption) ?_
    | (with_reducible refine rIXk (by assumption) (by assumption) ?_; intro p hp)
    | (with_reducible refine rIX (by assumption) (by omega) (by omega) ?_; intro p a ha hp)
    | with_reducible refine rLDi (by assumption) ?_
    | (with_reducible refine rLD (by assumption) ?_; intro c hc)
    | with_reducible refine rADD (by omega) ?_
    | with_reducible refine rSUB (by omega) ?_
    | with_reducible refine rLSS ?_
    | with_reducible refine rLEQ ?_
    | with_reducible refine rGTR ?_
    | with_reducible refine rGEQ ?_
    | with_reducible refine rEQL ?_
    | with_reducible refine rNEQ ?_
    | with_reducible refine rNOT ?_
    | (with_reducible refine rBRK ?_ ?_ <;> intro hb)
    | (with_reducible refine rBRKn ?_ ?_ <;> intro hb)
    | (with_reducible refine rBRKnb ?_ ?_ <;> intro hb)
    | (with_reducible refine rBRKb ?_ ?_ <;> intro hb)
    | (with_reducible refine rSPL ?_ ?_ <;> intro hb)
    | (with_reducible refine rSPLn ?_ ?_ <;> intro hb)
    | (with_reducible refine rSPLnb ?_ ?_ <;> intro hb)
    | (with_reducible refine rSPLb ?_ ?_ <;> intro hb)
    | (exfalso; omega))
    exact ⟨a, t, v6, v7, cs, rfl, ha, ht, hsa, small_sq htl hts, hH, hc.le (by omega)⟩
  | succ m ih =>
    intro B t v7 H cs hB hm ht htl hts hH hc
    apply spec_l1Cur_pair.step8
    unfold spec_l1Cur_pair.step8_vc
    repeat' (first
    | with_reducible refine rTT ?_
    | with_reducible refine rRFL ?_
    | with_reducible refine rLEN (by assumption) ?_
    | (with_reducible refine rIXk (by assumption) (by assumption) ?_; intro p hp)
    | (with_reducible refine rIX (by assumption) (by omega) (by omega) ?_; intro p a ha hp)
    | with_reducible refine rLDi (by assumption) ?_
    | (with_reducible refine rLD (by assumption) ?_; intro c hc)
    | with_reducible refine rADD (by omega) ?_
    | with_reducible refine rSUB (by omega) ?_
    | with_reducible refine rLSS ?_
    | with_reducible refine rLEQ ?_
    | with_reducible refine rGTR ?_
    | with_reducible refine rGEQ ?_
    | with_reducible refine rEQL ?_
    | with_reducible refine rNEQ ?_
    | with_reducible refine rNOT ?_
    | (with_reducible refine rBRK ?_ ?_ <;> intro hb)
    | (with_reducible refine rBRKn ?_ ?_ <;> intro hb)
    | (with_reducible refine rBRKnb ?_ ?_ <;> intro hb)
    | (with_reducible refine rBRKb ?_ ?_ <;> intro hb)
    | (with_reducible refine rSPL ?_ ?_ <;> intro hb)
    | (with_reducible refine rSPLn ?_ ?_ <;> intro hb)
    | (with_reducible refine rSPLnb ?_ ?_ <;> intro hb)
    | (with_reducible refine rSPLb ?_ ?_ <;> intro hb)
    | (exfalso; omega))
    refine ACalls.mono (heOf_okF ht (by omega) hts) ?_
    rintro r H1 ⟨h1, rfl⟩
    refine ACalls.mono (pick_ok hc (by omega) (by omega)) ?_
    rintro r2 H2 ⟨x, cs2, rfl, hx0, hx1, hH2, hc2⟩
    refine rMUL (by omega) ?_
    repeat' (first
    | with_reducible refine rTT ?_
    | with_reducible refine rRFL ?_
    | with_reducible refine rLEN (by assumption) ?_
    | (with_reducible refine rIXk (by assumption) (by assumption) ?_; intro p hp)
    | (with_reducible refine rIX (by assumption) (by omega) (by omega) ?_; intro p a ha hp)
    | with_reducible refine rLDi (by assumption) ?_
    | (with_reducible refine rLD (by assumption) ?_; intro c hc)
    | with_reducible refine rADD (by omega) ?_
    | with_reducible refine rSUB (by omega) ?_
    | with_reducible refine rLSS ?_
    | with_reducible refine rLEQ ?_
    | with_reducible refine rGTR ?_
    | with_reducible refine rGEQ ?_
    | with_reducible refine rEQL ?_
    | with_reducible refine rNEQ ?_
    | with_reducible refine rNOT ?_
    | (with_reducible refine rBRK ?_ ?_ <;> intro hb)
    | (with_reducible refine rBRKn ?_ ?_ <;> intro hb)
    | (with_reducible refine rBRKnb ?_ ?_ <;> intro hb)
    | (with_reducible refine rBRKb ?_ ?_ <;> intro hb)
    | (with_reducible refine rSPL ?_ ?_ <;> intro hb)
    | (with_reducible refine rSPLn ?_ ?_ <;> intro hb)
    | (with_reducible refine rSPLnb ?_ ?_ <;> intro hb)
    | (with_reducible refine rSPLb ?_ ?_ <;> intro hb)
    | (exfalso; omega))
    refine ACalls.mono (heFlips_ok h1 (heights_len t) (fun r hr => heights_sq hr) (by omega) (by omega)) ?_
    rintro r3 H3 ⟨h3, rfl⟩
    have hlen : (heFlipsF (heightsF t) (2 * x - 1)).length ≤ 49 := by
      have h0 := cells_len (fun i j => decide (heWayF (heightsF t) i j = 2 * x - 1)) ((heightsF t).length - 2)
      have h1 : (heightsF t).length - 2 ≤ 7 := by rw [heights_len]; omega
      have h2 := Nat.mul_le_mul h1 h1
      unfold heFlipsF; omega
    repeat' (first
    | with_reducible refine rTT ?_
    | with_reducible refine rRFL ?_
    | with_reducible refine rLEN (by assumption) ?_
    | (with_reducible refine rIXk (by assumption) (by assumption) ?_; intro p hp)
    | (with_reducible refine rIX (by assumption) (by omega) (by omega) ?_; intro p a ha hp)
    | with_reducible refine rLDi (by assumption) ?_
    | (with_reducible refine rLD (by assumption) ?_; intro c hc)
    | with_reducible refine rADD (by omega) ?_
    | with_reducible refine rSUB (by omega) ?_
    | with_reducible refine rLSS ?_
    | with_reducible refine rLEQ ?_
    | with_reducible refine rGTR ?_
    | with_reducible refine rGEQ ?_
    | with_reducible refine rEQL ?_
    | with_reducible refine rNEQ ?_
    | with_reducible refine rNOT ?_
    | (with_reducible refine rBRK ?_ ?_ <;> intro hb)
    | (with_reducible refine rBRKn ?_ ?_ <;> intro hb)
    | (with_reducible refine rBRKnb ?_ ?_ <;> intro hb)
    | (with_reducible refine rBRKb ?_ ?_ <;> intro hb)
    | (with_reducible refine rSPL ?_ ?_ <;> intro hb)
    | (with_reducible refine rSPLn ?_ ?_ <;> intro hb)
    | (with_reducible refine rSPLnb ?_ ?_ <;> intro hb)
    | (with_reducible refine rSPLb ?_ ?_ <;> intro hb)
    | (exfalso; omega))
    · refine ACalls.mono (pick_ok hc2 (by omega) (by omega)) ?_
      rintro r4 H4 ⟨y, cs4, rfl, hy0, hy1, hH4, hc4⟩
      obtain ⟨yn, rfl⟩ : ∃ yn : Nat, y = yn := ⟨y.toNat, by omega⟩
      obtain ⟨cell, hcell⟩ := ex_get (l := heFlipsF (heightsF t) (2 * x - 1)) (k := yn) (by omega)
      obtain ⟨ci, cj, g1, g2, g3, g4, g5, rfl⟩ := mem_cells (getElem_mem' hcell)
      have q0 : [(ci : Int), (cj : Int)][0]? = some (ci : Int) := rfl
      have q1 : [(ci : Int), (cj : Int)][1]? = some (cj : Int) := rfl
      repeat' (first
    | with_reducible refine rTT ?_
    | ((refine rIXk (i := 0) (by assumption) q0 ?_; intro p hp))
    | ((refine rIXk (i := 1) (by assumption) q1 ?_; intro p hp))
    | with_reducible refine rRFL ?_
    | with_reducible refine rLEN (by assumption) ?_
    | (with_reducible refine rIXk (by assumption) (by assumption) ?_; intro p hp)
    | (with_reducible refine rIX (by assumption) (by omega) (by omega) ?_; intro p a ha hp)
    | with_reducible refine rLDi (by assumption) ?_
    | (with_reducible refine rLD (by assumption) ?_; intro c hc)
    | with_reducible refine rADD (by omega) ?_
    | with_reducible refine rSUB (by omega) ?_
    | with_reducible refine rLSS ?_
    | with_reducible refine rLEQ ?_
    | with_reducible refine rGTR ?_
    | with_reducible refine rGEQ ?_
    | with_reducible refine rEQL ?_
    | with_reducible refine rNEQ ?_
    | with_reducible refine rNOT ?_
    | (with_reducible refine rBRK ?_ ?_ <;> intro hb)
    | (with_reducible refine rBRKn ?_ ?_ <;> intro hb)
    | (with_reducible refine rBRKnb ?_ ?_ <;> intro hb)
    | (with_reducible refine rBRKb ?_ ?_ <;> intro hb)
    | (with_reducible refine rSPL ?_ ?_ <;> intro hb)
    | (with_reducible refine rSPLn ?_ ?_ <;> intro hb)
    | (with_reducible refine rSPLnb ?_ ?_ <;> intro hb)
    | (with_reducible refine rSPLb ?_ ?_ <;> intro hb)
    | (exfalso; omega))
      refine ACalls.mono (specFlipAt_ok ht (by omega) (fun r hr => by rw [sq_len hts hr]; omega)) ?_
      rintro r5 H5 ⟨⟨h, rfl, h5⟩, rfl⟩
      refine ⟨_, rfl, _, rfl, ?_⟩
      repeat' (first
    | with_reducible refine rTT ?_
    | with_reducible refine rRFL ?_
    | with_reducible refine rLEN (by assumption) ?_
    | (with_reducible refine rIXk (by assumption) (by assumption) ?_; intro p hp)
    | (with_reducible refine rIX (by assumption) (by omega) (by omega) ?_; intro p a ha hp)
    | with_reducible refine rLDi (by assumption) ?_
    | (with_reducible refine rLD (by assumption) ?_; intro c hc)
    | with_reducible refine rADD (by omega) ?_
    | with_reducible refine rSUB (by omega) ?_
    | with_reducible refine rLSS ?_
    | with_reducible refine rLEQ ?_
    | with_reducible refine rGTR ?_
    | with_reducible refine rGEQ ?_
    | with_reducible refine rEQL ?_
    | with_reducible refine rNEQ ?_
    | with_reducible refine rNOT ?_
    | (with_reducible refine rBRK ?_ ?_ <;> intro hb)
    | (with_reducible refine rBRKn ?_ ?_ <;> intro hb)
    | (with_reducible refine rBRKnb ?_ ?_ <;> intro hb)
    | (with_reducible refine rBRKb ?_ ?_ <;> intro hb)
    | (with_reducible refine rSPL ?_ ?_ <;> intro hb)
    | (with_reducible refine rSPLn ?_ ?_ <;> intro hb)
    | (with_reducible refine rSPLnb ?_ ?_ <;> intro hb)
    | (with_reducible refine rSPLb ?_ ?_ <;> intro hb)
    | (exfalso; omega))
      have e : (((m + 1 : Nat) : Int) - 1) = (m : Int) := by omega
      rw [e]
      have hl4 : ∀ b : Bool, (bif b then heFlipF t ci cj else []).length ≤ 6 ∧ isSquareB (bif b then heFlipF t ci cj else []) = true := by
        intro b
        cases b with
        | false => exact ⟨by simp, rfl⟩
        | true =>
          rw [heights_len] at g2
          have := heFlip_sq (m := t) (i := ci) (j := cj) (by omega)
          exact ⟨by simp only [cond_true]; omega, this.2⟩
      refine ih (B + 4) _ h H5 cs4 (by omega) (by omega) h5 (hl4 _).1 (hl4 _).2 ?_ (hc4.le (by omega))
      rw [hH4, hH2, hH, hset_set, hset_set]
    · have e : (((m + 1 : Nat) : Int) - 1) = (m : Int) := by omega
      rw [e]
      refine ih (B + 4) t v7 H3 cs2 (by omega) (by omega) ht htl hts ?_ (hc2.le (by omega))
      rw [hH2, hH, hset_set]
theorem pair_ok {A most : Int} {H : Heap} {i g : Nat} (h : Cur A H i g) (hA : A ≤ 100000) (h1 : 1 ≤ most) (hm : most ≤ 6) : ACalls Try.prog 85 [.ptr i g 0, I most] H (PairV (A + 10000) i g H) := by
  apply spec_l1Cur_pair.start
  unfold spec_l1Cur_pair.start_vc
  refine ACalls.mono (signsV_ok h (by omega) h1 hm) ?_
  rintro r1 H1 ⟨a, cs1, ha, hal, har, hH1, hc1⟩
  have hsa : Small a := ⟨hal, har⟩
  have hend : ∀ {H2 : Heap} {cs2 : List AVal} {B : Int}, H2 = hset H i g cs2 → Cur B H2 i g → B ≤ A + 5000 → ACalls Try.prog 49 [.ptr i g 0, I most] H2 fun x H7 => PairV (A + 10000) i g H (.tup [r1, x]) H7 := by
    intro H2 cs2 B hH2 hc2 hB
    refine ACalls.mono (signsV_ok hc2 (by omega) h1 hm) ?_
    rintro r2 H3 ⟨b, cs3, hb1, hbl, hbr, hH3, hc3⟩
    exact ⟨a, b, r1, r2, cs3, rfl, ha, hb1, hsa, ⟨hbl, hbr⟩, by rw [hH3, hH2, hset_set], hc3.le (by omega)⟩
  refine ACalls.mono (sgGood_ok ha (by omega) (fun r hr => by have := har r hr; omega)) ?_
  rintro r H2 ⟨rfl, rfl⟩
  refine rNOT ?_
  refine rSPLnb (fun hb => hend hH1 hc1 (by omega)) (fun hg => ?_)
  have gl := goodB_len hg
  refine ACalls.mono (one_ok hc1 (by omega) (by omega)) ?_
  rintro r5 H5 ⟨b, cs5, rfl, hH5, hc5⟩
  refine rBRKb (fun _ => hend (hH5.trans (by rw [hH1, hset_set])) hc5 (by omega)) (fun _ => ?_)
  refine rLEN ha ?_
  refine ACalls.mono (sureV_ok hc5 (by omega) gl.1 gl.2) ?_
  rintro r6 H6 ⟨k, cs6, hk, hkl, hks, hH6, hc6⟩
  refine ACalls.mono (one_ok hc6 (by omega) (by omega)) ?_
  rintro r7 H7 ⟨b7, cs7, rfl, hH7, hc7⟩
  have hH7' : H7 = hset H i g cs7 := by rw [hH7, hH6, hH5, hH1, hset_set, hset_set, hset_set]
  refine rBRKb (fun _ => ?_) (fun _ => ?_)
  · refine ACalls.mono (pick_ok hc7 (by omega) (by omega)) ?_
    rintro r8 H8 ⟨x, cs8, rfl, hx0, hx1, hH8, hc8⟩
    obtain ⟨xn, rfl⟩ : ∃ xn : Nat, x = xn := ⟨x.toNat, by omega⟩
    exact pair_loop (by omega) ha hsa xn _ a r1 H8 cs8 (by omega) (by omega) ha gl.2 (goodB_sq hg) (by rw [hH8, hH7', hset_set]) hc8
  · exact ⟨a, k, r1, r6, cs7, rfl, ha, hk, hsa, small_sq (by omega) hks, hH7', hc7.le (by omega)⟩
/-- Two drawn tables, as values. -/
def TabR2 (r : AVal) : Prop := ∃ a b va vb, r = .tup [va, vb] ∧ IsTab va a ∧ IsTab vb b ∧ Small a ∧ Small b
theorem drawIsBelow_ok {code : List Int} {v : AVal} (hv : IsSl IsB v code) (hl : code.length ≤ 1099511627776) {H : Heap} : ACalls Try.prog 29 [v] H fun r H' => TabR2 r ∧ H' = H := by
  apply ACalls.sub
  apply spec_DrawIsBelow.start
  unfold spec_DrawIsBelow.start_vc
  refine rTT ?_
  refine cells_one hv.one ⟨rfl, by decide, ?_⟩
  simp only [BLDK, List.take_zero, List.nil_append, List.drop_succ_cons, List.drop_zero, List.singleton_append, Nat.zero_add, BOXK, cellsOfV]
  intro g
  have hc : Cur 0 (hnew H g [v, I 0, .int .u64 0]) H.length g := ⟨v, code, 0, 0, hget_new _ _ _, hv, hl, by omega, by omega⟩
  refine ACalls.mono (pair_ok hc (by omega) (by omega) (by omega)) ?_
  rintro r H' ⟨a, b, va, vb, cs, rfl, h1, h2, h3, h4, h5, h6⟩
  refine ⟨_, rfl, _, rfl, H, ?_, ⟨a, b, va, vb, rfl, h1, h2, h3, h4⟩, rfl⟩
  rw [h5, hset_new]; exact hsub_new _ _ _

end Go.Proofs.Ytccioplhchmilaa.AL
