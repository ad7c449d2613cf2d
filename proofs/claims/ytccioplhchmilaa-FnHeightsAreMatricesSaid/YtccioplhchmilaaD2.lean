/-
  Contracts: corner sums and heights.
-/
import Derived.Test.YtccioplhchmilaaD1
set_option linter.unusedVariables false
set_option maxRecDepth 100000
namespace Go.Proofs.Ytccioplhchmilaa.AL
open Go Go.Proofs

/-! impl.cornerSum (slots: 0 m, 1 rows, 2 columns, 3 m, 4 rows, 5 columns, 7 all, 8 _, 9 row) -/
namespace impl_cornerSum
def lv : List (Nat × List Nat) := [(3, [2, 7, 12, 13, 14])]
noncomputable def K3 : List KF := [.lp (cB (cB (cR (cL (cR (cR (bodyOf Try.f109))))))), .bl 0, .sq (cR (cR (cR (bodyOf Try.f109))))]
def L3 (Q : AVal → Heap → Prop) (v2 v7 v12 v13 v14 : AVal) (H : Heap) : Prop := At Try.prog 109 26 K3 Q (slotsOf [(2, v2), (7, v7), (12, v12), (13, v13), (14, v14)]) H
theorem L3_frz {Q : AVal → Heap → Prop} {v2 v7 v12 v13 v14 w2 w7 w12 w13 w14 : AVal} {H Hf Hk : Heap} {k : Nat} (hs : Split H Hf Hk) (hp : PurL Hf k [(2, v2, w2), (7, v7, w7), (12, v12, w12), (13, v13, w13), (14, v14, w14)]) (h : L3 Q w2 w7 w12 w13 w14 Hk) : L3 Q v2 v7 v12 v13 v14 H := at_frz (ks := K3) hs hp h
def start_vc (Q : AVal → Heap → Prop) (a0 a1 a2 : AVal) (H : Heap) : Prop :=
TT ∧ TT ∧ SLK 1 a0 none (some a1) none fun x1 =>
LENK x1 fun x2 =>
impl_cornerSum.L3 Q a2 (AVal.int .i64 0) x1 x2 (AVal.int .i64 0) H
theorem start_eq (Q : AVal → Heap → Prop) (a0 a1 a2 : AVal) (H : Heap) : vs Try.prog lv 109 26 Try.f109.results.toList Q true 1000 [.sq (bodyOf Try.f109)] (entry [a0, a1, a2]) H = start_vc Q a0 a1 a2 H := by kernel_rfl
theorem start {Q : AVal → Heap → Prop} {a0 a1 a2 : AVal} {H : Heap} (h : start_vc Q a0 a1 a2 H) : ACalls Try.prog 109 [a0, a1, a2] H Q := acalls_vs (lv := lv) mixed Try.func109 rfl (by kernel_rfl) (by kernel_rfl) (start_eq Q a0 a1 a2 H ▸ h)
def step3_vc (Q : AVal → Heap → Prop) (v2 v7 v12 v13 v14 : AVal) (H : Heap) : Prop :=
BINK .lss v14 v13 fun x1 =>
BRK x1 (TT ∧ IXK 1 v12 v14 fun x2 =>
TT ∧ TT ∧ LDK false 1 H x2 fun x3 =>
TT ∧ TT ∧ SLK 1 x3 none (some v2) none fun x4 =>
ACalls Try.prog 136 [x4] H fun x5 H6 =>
BINK .add v7 x5 fun x7 =>
BINK .add v14 (AVal.int .i64 1) fun x8 =>
impl_cornerSum.L3 Q v2 x7 v12 v13 x8 H6) (Q v7 H)
theorem step3_eq (Q : AVal → Heap → Prop) (v2 v7 v12 v13 v14 : AVal) (H : Heap) : vs Try.prog lv 109 26 Try.f109.results.toList Q true 1000 (.sq (cB (cB (cR (cL (cR (cR (bodyOf Try.f109))))))) :: K3) (slotsOf [(2, v2), (7, v7), (12, v12), (13, v13), (14, v14)]) H = step3_vc Q v2 v7 v12 v13 v14 H := by kernel_rfl
theorem step3 {Q : AVal → Heap → Prop} {v2 v7 v12 v13 v14 : AVal} {H : Heap} (h : step3_vc Q v2 v7 v12 v13 v14 H) : L3 Q v2 v7 v12 v13 v14 H := at_lp_vs (lv := lv) (ks := K3.tail) mixed Try.func109 (step3_eq Q v2 v7 v12 v13 v14 H ▸ h)
end impl_cornerSum

/-! impl.heights (slots: 0 m, 1 m) -/
namespace impl_heights
def lv : List (Nat × List Nat) := []
def start_vc (Q : AVal → Heap → Prop) (a0 : AVal) (H : Heap) : Prop :=
BOXK a0 H fun x1 H2 =>
TT ∧ TT ∧ LDK false 1 H2 x1 fun x3 =>
LENK x3 fun x4 =>
BINK .add x4 (AVal.int .i64 1) fun x5 =>
TT ∧ TT ∧ LDK false 1 H2 x1 fun x6 =>
LENK x6 fun x7 =>
BINK .add x7 (AVal.int .i64 1) fun x8 =>
ACalls Try.prog 107 [x5, x8, (AVal.fn 108 [] [x1])] H2 fun x9 H10 =>
Q x9 H10
theorem start_eq (Q : AVal → Heap → Prop) (a0 : AVal) (H : Heap) : vs Try.prog lv 56 11 Try.f56.results.toList Q true 1000 [.sq (bodyOf Try.f56)] (entry [a0]) H = start_vc Q a0 H := by kernel_rfl
theorem start {Q : AVal → Heap → Prop} {a0 : AVal} {H : Heap} (h : start_vc Q a0 H) : ACalls Try.prog 56 [a0] H Q := acalls_vs (lv := lv) mixed Try.func56 rfl (by kernel_rfl) (by kernel_rfl) (start_eq Q a0 H ▸ h)
end impl_heights

/-! impl.heights$1 (slots: 0 i, 1 j, 3 i, 4 j) -/
namespace impl_heights_1
def lv : List (Nat × List Nat) := []
def start_vc (Q : AVal → Heap → Prop) (a0 a1 a2 : AVal) (H : Heap) : Prop :=
BINK .add a0 a1 fun x1 =>
TT ∧ TT ∧ LDK false 1 H a2 fun x2 =>
ACalls Try.prog 109 [x2, a0, a1] H fun x3 H4 =>
BINK .mul (AVal.int .i64 2) x3 fun x5 =>
BINK .sub x1 x5 fun x6 =>
Q x6 H4
theorem start_eq (Q : AVal → Heap → Prop) (a0 a1 a2 : AVal) (H : Heap) : vs Try.prog lv 108 15 Try.f108.results.toList Q true 1000 [.sq (bodyOf Try.f108)] (entry [a0, a1, a2]) H = start_vc Q a0 a1 a2 H := by kernel_rfl
theorem start {Q : AVal → Heap → Prop} {a0 a1 a2 : AVal} {H : Heap} (h : start_vc Q a0 a1 a2 H) : ACalls Try.prog 108 [a0, a1, a2] H Q := acalls_vs (lv := lv) mixed Try.func108 rfl (by kernel_rfl) (by kernel_rfl) (start_eq Q a0 a1 a2 H ▸ h)
end impl_heights_1

/-! impl.changed (slots: 0 m, 1 change, 2 m, 3 change) -/
namespace impl_changed
def lv : List (Nat × List Nat) := []
def start_vc (Q : AVal → Heap → Prop) (a0 a1 : AVal) (H : Heap) : Prop :=
ACalls Try.prog 40 [a0] H fun x1 H2 =>
NOTK x1 fun x3 =>
BRK x3 (Q (AVal.tup [AVal.nilS, (AVal.bool false)]) H2) (CALLK Try.prog a1 [a0] H2 fun x4 H5 =>
Q (AVal.tup [x4, (AVal.bool true)]) H5)
theorem start_eq (Q : AVal → Heap → Prop) (a0 a1 : AVal) (H : Heap) : vs Try.prog lv 76 12 Try.f76.results.toList Q true 1000 [.sq (bodyOf Try.f76)] (entry [a0, a1]) H = start_vc Q a0 a1 H := by kernel_rfl
theorem start {Q : AVal → Heap → Prop} {a0 a1 : AVal} {H : Heap} (h : start_vc Q a0 a1 H) : ACalls Try.prog 76 [a0, a1] H Q := acalls_vs (lv := lv) mixed Try.func76 rfl (by kernel_rfl) (by kernel_rfl) (start_eq Q a0 a1 H ▸ h)
end impl_changed

/-! impl.HeightsOf (slots: 0 m, 1 m) -/
namespace impl_HeightsOf
def lv : List (Nat × List Nat) := []
def start_vc (Q : AVal → Heap → Prop) (a0 : AVal) (H : Heap) : Prop :=
ACalls Try.prog 76 [a0, (AVal.fn 56 [] [])] H fun x1 H2 =>
EXTK x1 0 fun x3 =>
EXTK x1 1 fun x4 =>
Q (AVal.tup [x3, x4]) H2
theorem start_eq (Q : AVal → Heap → Prop) (a0 : AVal) (H : Heap) : vs Try.prog lv 22 8 Try.f22.results.toList Q true 1000 [.sq (bodyOf Try.f22)] (entry [a0]) H = start_vc Q a0 H := by kernel_rfl
theorem start {Q : AVal → Heap → Prop} {a0 : AVal} {H : Heap} (h : start_vc Q a0 H) : ACalls Try.prog 22 [a0] H Q := acalls_vs (lv := lv) mixed Try.func22 rfl (by kernel_rfl) (by kernel_rfl) (start_eq Q a0 H ▸ h)
end impl_HeightsOf


theorem rSLto {α : Type} {R : AVal → α → Prop} {v : AVal} {l : List α} {K : AVal → Prop} {k : Int} (h : IsSl R v l) (h0 : 0 ≤ k) (h1 : k ≤ l.length) (kk : ∀ v', IsSl R v' (l.take k.toNat) → K v') : SLK 1 v none (some (I k)) none K := by
  rcases h with ⟨rfl, rfl⟩ | ⟨x, cs, rfl, hc, hr⟩
  · have hk : k = 0 := by simp at h1; omega
    subst hk
    exact ⟨by omega, by decide, by decide, rfl, kk _ (.inl ⟨rfl, rfl⟩)⟩
  · refine ⟨by omega, Nat.zero_le _, by omega, rfl, kk _ ?_⟩
    refine isSl_mk (by simp; omega) (by simp; omega) fun i c a hi ha => ?_
    simp only [List.drop_zero, Nat.sub_zero, Nat.mul_one] at hi
    rw [List.getElem?_take] at hi ha
    split at hi
    · rw [if_pos (by assumption)] at ha; exact hr i c a hi ha
    · cases hi

def cornerG (rows : List (List Int)) (j : Nat) (s : Int) : Int := rows.foldl (fun s r => w64 (s + sumW (r.take j))) s
def cornerF (t : List (List Int)) (i j : Nat) : Int := cornerG (t.take i) j 0
theorem corner_loop {t : List (List Int)} {v : AVal} {j : Nat} (hv : IsTab v t) (hl : t.length ≤ 1000000) (hr : ∀ r ∈ t, j ≤ r.length ∧ r.length ≤ 1000000) {H : Heap} {Q : AVal → Heap → Prop} : ∀ (n k : Nat) (s : Int), k + n = t.length → Q (I (cornerG (t.drop k) j s)) H →
    impl_cornerSum.L3 Q (I j) (I s) v (I t.length) (I k) H := by
  intro n
  induction n with
  | zero =>
    intro k s hk hq
    apply impl_cornerSum.step3
    unfold impl_cornerSum.step3_vc
    repeat' (first
    | with_reducible refine rTT ?_
    | with_reducible refine rRFL ?_
    | with_reducible refine rLEN (by assumption) ?_
    | (with_reducible refine rIXk (by assumption) (by assumption) ?_; intro p hp)
    | (with_reducible refine rIX (by assumption) (by omega) (by omega) ?_; intro p a ha hp)
    | with_reducible refine rLDi (by assumption) ?_
    | (with_reducible refine rLD (by assumption) ?_; intro c hc)
    | with_reducible refine rADD (by omega) ?_
    | with_reducible refine rSUB (by omega) ?_
    | with_reducible refine rLSS ?_
    | with_reducible refine rLEQ ?_
    | with_reducible refine rGTR ?_
    | with_reducible refine rGEQ ?_
    | with_reducible refine rEQL ?_
    | with_reducible refine rNEQ ?_
    | with_reducible refine rNOT ?_
    | (with_reducible refine rBRK ?_ ?_ <;> intro hb)
    | (with_reducible refine rBRKn ?_ ?_ <;> intro hb)
    | (with_reducible refine rBRKnb ?_ ?_ <;> intro hb)
    | (with_reducible refine rBRKb ?_ ?_ <;> intro hb)
    | (with_reducible refine rSPL ?_ ?_ <;> intro hb)
    | (with_reducible refine rSPLn ?_ ?_ <;> intro hb)
    | (with_reducible refine rSPLnb ?_ ?_ <;> intro hb)
    | (with_reducible refine rSPLb ?_ ?_ <;> intro hb)
    | (exfalso; omega))
    rw [List.drop_eq_nil_of_le (by omega)] at hq
    exact hq
  | succ n ih =>
    intro k s hk hq
    obtain ⟨r, hrow⟩ := ex_get (l := t) (k := k) (by omega)
    have hj := hr r (List.mem_of_getElem? hrow)
    apply impl_cornerSum.step3
    unfold impl_cornerSum.step3_vc
    repeat' (first
    | with_reducible refine rTT ?_
    | with_reducible refine rRFL ?_
    | with_reducible refine rLEN (by assumption) ?_
    | (with_reducible refine rIXk (by assumption) (by assumption) ?_; intro p hp)
    | (with_reducible refine rIX (by assumption) (by omega) (by omega) ?_; intro p a ha hp)
    | with_reducible refine rLDi (by assumption) ?_
    | (with_reducible refine rLD (by assumption) ?_; intro c hc)
    | with_reducible refine rADD (by omega) ?_
    | with_reducible refine rSUB (by omega) ?_
    | with_reducible refine rLSS ?_
    | with_reducible refine rLEQ ?_
    | with_reducible refine rGTR ?_
    | with_reducible refine rGEQ ?_
    | with_reducible refine rEQL ?_
    | with_reducible refine rNEQ ?_
    | with_reducible refine rNOT ?_
    | (with_reducible refine rBRK ?_ ?_ <;> intro hb)
    | (with_reducible refine rBRKn ?_ ?_ <;> intro hb)
    | (with_reducible refine rBRKnb ?_ ?_ <;> intro hb)
    | (with_reducible refine rBRKb ?_ ?_ <;> intro hb)
    | (with_reducible refine rSPL ?_ ?_ <;> intro hb)
    | (with_reducible refine rSPLn ?_ ?_ <;> intro hb)
    | (with_reducible refine rSPLnb ?_ ?_ <;> intro hb)
    | (with_reducible refine rSPLb ?_ ?_ <;> intro hb)
    | (exfalso; omega))
    refine rSLto (by assumption) (by omega) (by omega) fun v' hv' => ?_
    refine ACalls.mono (sum_ok hv' (by simp; omega)) ?_
    rintro r1 H1 ⟨rfl, rfl⟩
    refine rADDw ?_
    repeat' (first
    | with_reducible refine rTT ?_
    | with_reducible refine rRFL ?_
    | with_reducible refine rLEN (by assumption) ?_
    | (with_reducible refine rIXk (by assumption) (by assumption) ?_; intro p hp)
    | (with_reducible refine rIX (by assumption) (by omega) (by omega) ?_; intro p a ha hp)
    | with_reducible refine rLDi (by assumption) ?_
    | (with_reducible refine rLD (by assumption) ?_; intro c hc)
    | with_reducible refine rADD (by omega) ?_
    | with_reducible refine rSUB (by omega) ?_
    | with_reducible refine rLSS ?_
    | with_reducible refine rLEQ ?_
    | with_reducible refine rGTR ?_
    | with_reducible refine rGEQ ?_
    | with_reducible refine rEQL ?_
    | with_reducible refine rNEQ ?_
    | with_reducible refine rNOT ?_
    | (with_reducible refine rBRK ?_ ?_ <;> intro hb)
    | (with_reducible refine rBRKn ?_ ?_ <;> intro hb)
    | (with_reducible refine rBRKnb ?_ ?_ <;> intro hb)
    | (with_reducible refine rBRKb ?_ ?_ <;> intro hb)
    | (with_reducible refine rSPL ?_ ?_ <;> intro hb)
    | (with_reducible refine rSPLn ?_ ?_ <;> intro hb)
    | (with_reducible refine rSPLnb ?_ ?_ <;> intro hb)
    | (with_reducible refine rSPLb ?_ ?_ <;> intro hb)
    | (exfalso; omega))
    rw [drop_some hrow] at hq
    refine ih (k + 1) _ (by omega) ?_
    simpa [cornerG] using hq
theorem cornerSum_ok {t : List (List Int)} {v : AVal} {i j : Nat} (hv : IsTab v t) (hl : t.length ≤ 1000000) (hi : i ≤ t.length) (hr : ∀ r ∈ t, j ≤ r.length ∧ r.length ≤ 1000000) {H : Heap} : ACalls Try.prog 109 [v, I i, I j] H fun r H' => r = I (cornerF t i j) ∧ H' = H := by
  apply impl_cornerSum.start
  unfold impl_cornerSum.start_vc
  repeat' (first
    | with_reducible refine rTT ?_
    | with_reducible refine rRFL ?_
    | with_reducible refine rLEN (by assumption) ?_
    | (with_reducible refine rIXk (by assumption) (by assumption) ?_; intro p hp)
    | (with_reducible refine rIX (by assumption) (by omega) (by omega) ?_; intro p a ha hp)
    | with_reducible refine rLDi (by assumption) ?_
    | (with_reducible refine rLD (by assumption) ?_; intro c hc)
    | with_reducible refine rADD (by omega) ?_
    | with_reducible refine rSUB (by omega) ?_
    | with_reducible refine rLSS ?_
    | with_reducible refine rLEQ ?_
    | with_reducible refine rGTR ?_
    | with_reducible refine rGEQ ?_
    | with_reducible refine rEQL ?_
    | with_reducible refine rNEQ ?_
    | with_reducible refine rNOT ?_
    | (with_reducible refine rBRK ?_ ?_ <;> intro hb)
    | (with_reducible refine rBRKn ?_ ?_ <;> intro hb)
    | (with_reducible refine rBRKnb ?_ ?_ <;> intro hb)
    | (with_reducible refine rBRKb ?_ ?_ <;> intro hb)
    | (with_reducible refine rSPL ?_ ?_ <;> intro hb)
    | (with_reducible refine rSPLn ?_ ?_ <;> intro hb)
    | (with_reducible refine rSPLnb ?_ ?_ <;> intro hb)
    | (with_reducible refine rSPLb ?_ ?_ <;> intro hb)
    | (exfalso; omega))
  refine rSLto hv (by omega) (by omega) fun v' hv' => ?_
  rw [Int.toNat_natCast] at hv'
  repeat' (first
    | with_reducible refine rTT ?_
    | with_reducible refine rRFL ?_
    | with_reducible refine rLEN (by assumption) ?_
    | (with_reducible refine rIXk (by assumption) (by assumption) ?_; intro p hp)
    | (with_reducible refine rIX (by assumption) (by omega) (by omega) ?_; intro p a ha hp)
    | with_reducible refine rLDi (by assumption) ?_
    | (with_reducible refine rLD (by assumption) ?_; intro c hc)
    | with_reducible refine rADD (by omega) ?_
    | with_reducible refine rSUB (by omega) ?_
    | with_reducible refine rLSS ?_
    | with_reducible refine rLEQ ?_
    | with_reducible refine rGTR ?_
    | with_reducible refine rGEQ ?_
    | with_reducible refine rEQL ?_
    | with_reducible refine rNEQ ?_
    | with_reducible refine rNOT ?_
    | (with_reducible refine rBRK ?_ ?_ <;> intro hb)
    | (with_reducible refine rBRKn ?_ ?_ <;> intro hb)
    | (with_reducible refine rBRKnb ?_ ?_ <;> intro hb)
    | (with_reducible refine rBRKb ?_ ?_ <;> intro hb)
    | (with_reducible refine rSPL ?_ ?_ <;> intro hb)
    | (with_reducible refine rSPLn ?_ ?_ <;> intro hb)
    | (with_reducible refine rSPLnb ?_ ?_ <;> intro hb)
    | (with_reducible refine rSPLb ?_ ?_ <;> intro hb)
    | (exfalso; omega))
  refine corner_loop hv' (by simp; omega) (fun r hr' => hr r (List.mem_of_mem_take hr')) (t.take i).length 0 0 (by omega) ⟨by simp [cornerF], rfl⟩

def heightAt (t : List (List Int)) (i j : Nat) : Int := w64 (w64 (i + j) - w64 (2 * cornerF t i j))
def heightsF (t : List (List Int)) : List (List Int) := tabT (t.length + 1) (t.length + 1) (heightAt t)
theorem heights_ok {t : List (List Int)} {v : AVal} (hv : IsTab v t) (hl : t.length ≤ 100000) (hs : isSquareB t = true) {H : Heap} : ACalls Try.prog 56 [v] H fun r H' => IsTab r (heightsF t) ∧ H' = H := by
  apply ACalls.freeze
  apply impl_heights.start
  unfold impl_heights.start_vc
  refine rBOX hv.one fun g => ?_
  repeat' (first | with_reducible refine rTT ?_ | refine rLDp (hget_new _ _ _) ?_ | with_reducible refine rLEN hv ?_ | with_reducible refine rADD (by omega) ?_)
  have e : ((t.length : Int) + 1) = ((t.length + 1 : Nat) : Int) := by omega
  rw [e]
  refine ACalls.mono (table_ok (F := heightAt t) (by omega) (by omega) ?_) ?_
  · intro i j hi hj H1 hF
    refine rCALL ?_
    show ACalls Try.prog 108 [I i, I j, .ptr H.length g 0] _ _
    apply impl_heights_1.start
    unfold impl_heights_1.start_vc
    refine rADDw ?_
    repeat' (first
    | with_reducible refine rTT ?_
    | with_reducible refine rRFL ?_
    | with_reducible refine rLEN (by assumption) ?_
    | (with_reducible refine rIXk (by assumption) (by assumption) ?_; intro p hp)
    | (with_reducible refine rIX (by assumption) (by omega) (by omega) ?_; intro p a ha hp)
    | with_reducible refine rLDi (by assumption) ?_
    | (with_reducible refine rLD (by assumption) ?_; intro c hc)
    | with_reducible refine rADD (by omega) ?_
    | with_reducible refine rSUB (by omega) ?_
    | with_reducible refine rLSS ?_
    | with_reducible refine rLEQ ?_
    | with_reducible refine rGTR ?_
    | with_reducible refine rGEQ ?_
    | with_reducible refine rEQL ?_
    | with_reducible refine rNEQ ?_
    | with_reducible refine rNOT ?_
    | (with_reducible refine rBRK ?_ ?_ <;> intro hb)
    | (with_reducible refine rBRKn ?_ ?_ <;> intro hb)
    | (with_reducible refine rBRKnb ?_ ?_ <;> intro hb)
    | (with_reducible refine rBRKb ?_ ?_ <;> intro hb)
    | (with_reducible refine rSPL ?_ ?_ <;> intro hb)
    | (with_reducible refine rSPLn ?_ ?_ <;> intro hb)
    | (with_reducible refine rSPLnb ?_ ?_ <;> intro hb)
    | (with_reducible refine rSPLb ?_ ?_ <;> intro hb)
    | (exfalso; omega))
    refine rLDp (by rw [hF.old _ (by rw [hlen_new]; omega), hget_new]) ?_
    refine ACalls.mono (cornerSum_ok hv (by omega) (by omega) (fun r hr => by rw [sq_len hs hr]; omega)) ?_
    rintro r H2 ⟨rfl, rfl⟩
    refine rMULw ?_
    refine rSUBw ?_
    exact ⟨rfl, rfl⟩
  · rintro r H1 ⟨h1, h2⟩
    have hsub : HSub H H1 := (hsub_new _ _ _).trans h2.sub
    obtain ⟨v', q1, q2⟩ := h1.pur (Hf := nw H H1) fun i hi => nw_above H H1 (by rw [hlen_new] at hi; omega)
    exact ⟨nw H H1, H, 2, v', nw_split hsub, q1, q2, rfl⟩

theorem heightsOf_ok {t : List (List Int)} {v : AVal} (hv : IsTab v t) (hl : t.length ≤ 100000) {H : Heap} : ACalls Try.prog 22 [v] H fun r H' => (∃ h, r = .tup [h, .bool (goodB t)] ∧ IsTab h (bif goodB t then heightsF t else [])) ∧ H' = H := by
  apply impl_HeightsOf.start
  unfold impl_HeightsOf.start_vc
  apply impl_changed.start
  unfold impl_changed.start_vc
  refine ACalls.mono (isSign_ok hv (by omega)) ?_
  rintro r H1 ⟨rfl, rfl⟩
  repeat' (first
    | with_reducible refine rTT ?_
    | with_reducible refine rRFL ?_
    | with_reducible refine rLEN (by assumption) ?_
    | (with_reducible refine rIXk (by assumption) (by assumption) ?_; intro p hp)
    | (with_reducible refine rIX (by assumption) (by omega) (by omega) ?_; intro p a ha hp)
    | with_reducible refine rLDi (by assumption) ?_
    | (with_reducible refine rLD (by assumption) ?_; intro c hc)
    | with_reducible refine rADD (by omega) ?_
    | with_reducible refine rSUB (by omega) ?_
    | with_reducible refine rLSS ?_
    | with_reducible refine rLEQ ?_
    | with_reducible refine rGTR ?_
    | with_reducible refine rGEQ ?_
    | with_reducible refine rEQL ?_
    | with_reducible refine rNEQ ?_
    | with_reducible refine rNOT ?_
    | (with_reducible refine rBRK ?_ ?_ <;> intro hb)
    | (with_reducible refine rBRKn ?_ ?_ <;> intro hb)
    | (with_reducible refine rBRKnb ?_ ?_ <;> intro hb)
    | (with_reducible refine rBRKb ?_ ?_ <;> intro hb)
    | (with_reducible refine rSPL ?_ ?_ <;> intro hb)
    | (with_reducible refine rSPLn ?_ ?_ <;> intro hb)
    | (with_reducible refine rSPLnb ?_ ?_ <;> intro hb)
    | (with_reducible refine rSPLb ?_ ?_ <;> intro hb)
    | (exfalso; omega))
  · exact ⟨_, rfl, _, rfl, ⟨_, by rw [hb], by rw [hb]; exact .inl ⟨rfl, rfl⟩⟩, rfl⟩
  · refine rCALL ?_
    have hs : isSquareB t = true := by simp only [goodB, Bool.and_eq_true] at hb; exact hb.2.1
    refine ACalls.mono (heights_ok hv hl hs) ?_
    rintro r H2 ⟨h1, rfl⟩
    exact ⟨_, rfl, _, rfl, ⟨_, by rw [hb], by rw [hb]; exact h1⟩, rfl⟩

end Go.Proofs.Ytccioplhchmilaa.AL
