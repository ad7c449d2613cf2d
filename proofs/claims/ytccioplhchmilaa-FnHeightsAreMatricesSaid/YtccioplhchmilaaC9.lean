/-
  Contracts: drawn tables.
-/
import Derived.Test.YtccioplhchmilaaC8
set_option linter.unusedVariables false
set_option maxRecDepth 100000
namespace Go.Proofs.Ytccioplhchmilaa.AL
open Go Go.Proofs

/-! (*spec.l1Cur).signs (slots: 0 c, 1 most, 2 c, 3 most, 5 n, 6 m) -/
namespace spec_l1Cur_signs
def lv : List (Nat × List Nat) := []
def start_vc (Q : AVal → Heap → Prop) (a0 a1 : AVal) (H : Heap) : Prop :=
ACalls Try.prog 68 [a0, a1] H fun x1 H2 =>
BINK .add (AVal.int .i64 1) x1 fun x3 =>
ACalls Try.prog 101 [a0, x3] H2 fun x4 H5 =>
ACalls Try.prog 68 [a0, (AVal.int .i64 20)] H5 fun x6 H7 =>
BINK .eql x6 (AVal.int .i64 0) fun x8 =>
BRK x8 (TT ∧ TT ∧ TT ∧ TT ∧ allCells 1 [(AVal.int .i64 (-2)), (AVal.int .i64 (-1)), (AVal.int .i64 0), (AVal.int .i64 1), (AVal.int .i64 2), (AVal.int .i64 4611686018427387904)] fun c9 =>
ACalls Try.prog 68 [a0, x3] H7 fun x10 H11 =>
TT ∧ IXK 1 x4 x10 fun x12 =>
TT ∧ TT ∧ LDK false 1 H11 x12 fun x13 =>
ACalls Try.prog 68 [a0, x3] H11 fun x14 H15 =>
(TT ∧ TT ∧ LDK false 1 H15 x12 fun x16 =>
x16 = x13) ∧
ACalls Try.prog 50 [a0, (AVal.sl true 6 c9)] H15 fun x17 H18 =>
(TT ∧ TT ∧ LDK false 1 H18 x12 fun x19 =>
x19 = x13) ∧
TT ∧ IXK 1 x13 x14 fun x20 =>
TT ∧ STK 1 H18 x20 x17 fun H21 =>
Q x4 H21) (BINK .eql x6 (AVal.int .i64 1) fun x22 =>
BRK x22 (((Go.Operand.tmp 34) = (Go.Operand.tmp 34)) ∧ TT ∧ MKK 1 (AVal.int .i64 0) x3 H7 fun x23 H24 =>
TT ∧ TT ∧ TT ∧ BSK 1 [x23] H24 fun x25 H26 =>
TT ∧ TT ∧ APK 1 H26 x4 x25 fun x27 H28 =>
Q x27 H28) (BINK .eql x6 (AVal.int .i64 2) fun x29 =>
BRK x29 (TT ∧ IXK 1 x4 (AVal.int .i64 0) fun x30 =>
TT ∧ TT ∧ LDK false 1 H7 x30 fun x31 =>
TT ∧ TT ∧ TT ∧ BSK 1 [(AVal.int .i64 0)] H7 fun x32 H33 =>
TT ∧ TT ∧ APK 1 H33 x31 x32 fun x34 H35 =>
TT ∧ IXK 1 x4 (AVal.int .i64 0) fun x36 =>
TT ∧ STK 1 H35 x36 x34 fun H37 =>
Q x4 H37) (BINK .eql x6 (AVal.int .i64 3) fun x38 =>
BRK x38 (ACalls Try.prog 101 [a0, (AVal.int .i64 6)] H7 fun x39 H40 =>
ACalls Try.prog 70 [a0, (AVal.int .i64 2)] H40 fun x41 H42 =>
BRK x41 (Q AVal.nilS H42) (Q x39 H42)) (Q x4 H7))))
theorem start_eq (Q : AVal → Heap → Prop) (a0 a1 : AVal) (H : Heap) : vs Try.prog lv 49 54 Try.f49.results.toList Q true 1000 [.sq (bodyOf Try.f49)] (entry [a0, a1]) H = start_vc Q a0 a1 H := by kernel_rfl
theorem start {Q : AVal → Heap → Prop} {a0 a1 : AVal} {H : Heap} (h : start_vc Q a0 a1 H) : ACalls Try.prog 49 [a0, a1] H Q := acalls_vs (lv := lv) mixed Try.func49 rfl (by kernel_rfl) (by kernel_rfl) (start_eq Q a0 a1 H ▸ h)
end spec_l1Cur_signs

/-! spec.DrawIsSignMatrix (slots: 0 code, 1 code, 3 c) -/
namespace spec_DrawIsSignMatrix
def lv : List (Nat × List Nat) := []
def start_vc (Q : AVal → Heap → Prop) (a0 : AVal) (H : Heap) : Prop :=
TT ∧ BLDK [AVal.nilS, (AVal.int .i64 0), (AVal.int .u64 0)] [((0, 1), a0)] fun x1 =>
BOXK x1 H fun x2 H3 =>
ACalls Try.prog 49 [x2, (AVal.int .i64 5)] H3 fun x4 H5 =>
Q x4 H5
theorem start_eq (Q : AVal → Heap → Prop) (a0 : AVal) (H : Heap) : vs Try.prog lv 75 9 Try.f75.results.toList Q true 1000 [.sq (bodyOf Try.f75)] (entry [a0]) H = start_vc Q a0 H := by kernel_rfl
theorem start {Q : AVal → Heap → Prop} {a0 : AVal} {H : Heap} (h : start_vc Q a0 H) : ACalls Try.prog 75 [a0] H Q := acalls_vs (lv := lv) mixed Try.func75 rfl (by kernel_rfl) (by kernel_rfl) (start_eq Q a0 H ▸ h)
end spec_DrawIsSignMatrix


/-- A row is replaced by another one in the same block, that stands elsewhere now. -/
theorem OTab.regrow {lo : Nat} {H : Heap} {k g : Nat} {rows : List AVal} {ks : List Nat} {t : List (List Int)} (h : OTab lo H k g rows ks t) {j : Nat} {r : List Int} (hj : t[j]? = some r) {kj : Nat} (hkj : ks[j]? = some kj) (r' : List Int) (g' : Nat) :
    OTab lo (hset (hset H kj g' (r'.map I)) k g (rows.set j (.own kj g' 1 0 r'.length))) k g (rows.set j (.own kj g' 1 0 r'.length)) ks (t.set j r') := by
  have hne : kj ≠ k := fun e => (List.nodup_cons.1 h.nd).1 (e ▸ List.mem_of_getElem? hkj)
  have hjl := (List.getElem?_eq_some_iff.1 hj).1
  obtain ⟨gj0, h3, h4, h5⟩ := h.row j r kj hj hkj
  have hkl := hlt_of_get h4
  refine ⟨hget_set _ _ (by rw [hlen_set]; exact hlt_of_get h.top), h.lok, by simp [h.len], by simp [h.kln], h.nd, fun i s ki h1 h2 => ?_⟩
  by_cases hij : j = i
  · subst hij
    rw [List.getElem?_set_self hjl] at h1
    cases h1
    rw [hkj] at h2; cases h2
    exact ⟨g', List.getElem?_set_self (by rw [h.len]; exact hjl), by rw [hget_set_ne _ _ hne.symm]; exact hget_set _ _ hkl, h5⟩
  · rw [List.getElem?_set_ne hij] at h1
    obtain ⟨gi, h6, h7, h8⟩ := h.row i s ki h1 h2
    refine ⟨gi, by rw [List.getElem?_set_ne hij]; exact h6, ?_, h8⟩
    have hk2 : k ≠ ki := fun e => (List.nodup_cons.1 h.nd).1 (e ▸ List.mem_of_getElem? h2)
    have hk3 : kj ≠ ki := fun e => hij ((List.getElem?_inj (List.getElem?_eq_some_iff.1 hkj).1 (List.nodup_cons.1 h.nd).2).1 (hkj.trans (e ▸ h2.symm)))
    rw [hget_set_ne _ _ hk2, hget_set_ne _ _ hk3]; exact h7

/-- A drawn table. -/
def Table (A : Int) (i g : Nat) (H0 : Heap) (r : AVal) (H : Heap) : Prop := ∃ t, IsOTab H0.length H r t ∧ t.length ≤ 7 ∧ (∀ r ∈ t, r.length ≤ 7) ∧ After A i g H0 H
theorem Sure.table {A B : Int} {n i g : Nat} {H0 H : Heap} {r : AVal} (h : Sure A n i g H0 r H) (hn : n ≤ 6) (hab : A ≤ B) : Table B i g H0 r H := by
  obtain ⟨t, h1, h2, h3, h4⟩ := h
  exact ⟨t, h1, by omega, fun r hr => by rw [sq_len h3 hr]; omega, h4.le hab⟩

theorem signs_ok {A most : Int} {H : Heap} {i g : Nat} (h : Cur A H i g) (hA : A ≤ 1000000) (h1 : 1 ≤ most) (hm : most ≤ 6) : ACalls Try.prog 49 [.ptr i g 0, I most] H (Table (A + 3000) i g H) := by
  have hlt := h.lt
  apply spec_l1Cur_signs.start
  unfold spec_l1Cur_signs.start_vc
  refine ACalls.mono (pick_ok h (by omega) (by omega)) ?_
  intro r1 H1 hd1
  obtain ⟨x, rfl, hx0, hx1, hA1, hf1, hl1⟩ := (After.refl h).draw hd1
  repeat' (first
    | with_reducible refine rTT ?_
    | with_reducible refine rRFL ?_
    | with_reducible refine rLEN (by assumption) ?_
    | (with_reducible refine rIXk (by assumption) (by assumption) ?_; intro p hp)
    | (with_reducible refine rIX (by assumption) (by omega) (by omega) ?_; intro p a ha hp)
    | with_reducible refine rLDi (by assumption) ?_
    | (with_reducible refine rLD (by assumption) ?_; intro c hc)
    | with_reducible refine rADD (by omega) ?_
    | with_reducible refine rSUB (by omega) ?_
    | with_reducible refine rLSS ?_
    | with_reducible refine rLEQ ?_
    | with_reducible refine rGTR ?_
    | with_reducible refine rGEQ ?_
    | with_reducible refine rEQL ?_
    | with_reducible refine rNEQ ?_
    | with_reducible refine rNOT ?_
    | (with_reducible refine rBRK ?_ ?_ <;> intro hb)
    | (with_reducible refine rBRKn ?_ ?_ <;> intro hb)
    | (with_reducible refine rBRKnb ?_ ?_ <;> intro hb)
    | (with_reducible refine rBRKb ?_ ?_ <;> intro hb)
    | (with_reducible refine rSPL ?_ ?_ <;> intro hb)
    | (with_reducible refine rSPLn ?_ ?_ <;> intro hb)
    | (with_reducible refine rSPLnb ?_ ?_ <;> intro hb)
    | (with_reducible refine rSPLb ?_ ?_ <;> intro hb)
    | (exfalso; omega))
  obtain ⟨n, hn⟩ : ∃ n : Nat, 1 + x = n := ⟨(1 + x).toNat, by omega⟩
  rw [hn]
  refine ACalls.mono (sure_ok hA1.cur (by omega) (by omega) (by omega)) ?_
  rintro r2 H2 ⟨t, ht1, ht2, ht3, ht4⟩
  have hA2 := hA1.trans ht4
  have ht1 := ht1.lo hA1.len
  refine ACalls.mono (pick_ok hA2.cur (by omega) (by omega)) ?_
  intro r3 H3 hd3
  obtain ⟨y, rfl, hy0, hy1, hA3, hf3, hl3⟩ := hA2.draw hd3
  have ht1 := ht1.frame (H' := H3) fun j hj _ => hf3 j (by omega)
  rcases ht1 with ⟨_, ht⟩ | ⟨k, gk, rows, ks, rfl, ho⟩
  · rw [ht] at ht2; simp at ht2; omega
  have rl : ∀ r ∈ t, r.length = n := fun r hr => by rw [sq_len ht3 hr, ht2]
  repeat' (first
    | with_reducible refine rTT ?_
    | with_reducible refine rRFL ?_
    | with_reducible refine rLEN (by assumption) ?_
    | (with_reducible refine rIXk (by assumption) (by assumption) ?_; intro p hp)
    | (with_reducible refine rIX (by assumption) (by omega) (by omega) ?_; intro p a ha hp)
    | with_reducible refine rLDi (by assumption) ?_
    | (with_reducible refine rLD (by assumption) ?_; intro c hc)
    | with_reducible refine rADD (by omega) ?_
    | with_reducible refine rSUB (by omega) ?_
    | with_reducible refine rLSS ?_
    | with_reducible refine rLEQ ?_
    | with_reducible refine rGTR ?_
    | with_reducible refine rGEQ ?_
    | with_reducible refine rEQL ?_
    | with_reducible refine rNEQ ?_
    | with_reducible refine rNOT ?_
    | (with_reducible refine rBRK ?_ ?_ <;> intro hb)
    | (with_reducible refine rBRKn ?_ ?_ <;> intro hb)
    | (with_reducible refine rBRKnb ?_ ?_ <;> intro hb)
    | (with_reducible refine rBRKb ?_ ?_ <;> intro hb)
    | (with_reducible refine rSPL ?_ ?_ <;> intro hb)
    | (with_reducible refine rSPLn ?_ ?_ <;> intro hb)
    | (with_reducible refine rSPLnb ?_ ?_ <;> intro hb)
    | (with_reducible refine rSPLb ?_ ?_ <;> intro hb)
    | (exfalso; omega))
  · -- a number is written
    refine ⟨rfl, rfl, rfl, rfl, rfl, rfl, rfl, rfl, rfl, rfl, rfl, rfl, ?_⟩
    refine ACalls.mono (pick_ok hA3.cur (by omega) (by omega)) ?_
    intro r4 H4 hd4
    obtain ⟨a, rfl, ha0, ha1, hA4, hf4, hl4⟩ := hA3.draw hd4
    have ho4 := ho.frame (H' := H4) fun j hj _ => hf4 j (by omega)
    obtain ⟨an, rfl⟩ : ∃ an : Nat, a = an := ⟨a.toNat, by omega⟩
    obtain ⟨row, hrow⟩ := ex_get (l := t) (k := an) (by omega)
    have hrl := rl _ (List.mem_of_getElem? hrow)
    obtain ⟨kj, gj, g1, g2, g3, g4, g5⟩ := ho4.get hrow
    repeat' (first
    | with_reducible refine rTT ?_
    | with_reducible refine rRFL ?_
    | with_reducible refine rLEN (by assumption) ?_
    | (with_reducible refine rIXk (by assumption) (by assumption) ?_; intro p hp)
    | (with_reducible refine rIX (by assumption) (by omega) (by omega) ?_; intro p a ha hp)
    | with_reducible refine rLDi (by assumption) ?_
    | (with_reducible refine rLD (by assumption) ?_; intro c hc)
    | with_reducible refine rADD (by omega) ?_
    | with_reducible refine rSUB (by omega) ?_
    | with_reducible refine rLSS ?_
    | with_reducible refine rLEQ ?_
    | with_reducible refine rGTR ?_
    | with_reducible refine rGEQ ?_
    | with_reducible refine rEQL ?_
    | with_reducible refine rNEQ ?_
    | with_reducible refine rNOT ?_
    | (with_reducible refine rBRK ?_ ?_ <;> intro hb)
    | (with_reducible refine rBRKn ?_ ?_ <;> intro hb)
    | (with_reducible refine rBRKnb ?_ ?_ <;> intro hb)
    | (with_reducible refine rBRKb ?_ ?_ <;> intro hb)
    | (with_reducible refine rSPL ?_ ?_ <;> intro hb)
    | (with_reducible refine rSPLn ?_ ?_ <;> intro hb)
    | (with_reducible refine rSPLnb ?_ ?_ <;> intro hb)
    | (with_reducible refine rSPLb ?_ ?_ <;> intro hb)
    | (exfalso; omega))
    refine rIXo (by omega) ?_
    repeat' (first
    | with_reducible refine rTT ?_
    | with_reducible refine rRFL ?_
    | with_reducible refine rLEN (by assumption) ?_
    | (with_reducible refine rIXk (by assumption) (by assumption) ?_; intro p hp)
    | (with_reducible refine rIX (by assumption) (by omega) (by omega) ?_; intro p a ha hp)
    | with_reducible refine rLDi (by assumption) ?_
    | (with_reducible refine rLD (by assumption) ?_; intro c hc)
    | with_reducible refine rADD (by omega) ?_
    | with_reducible refine rSUB (by omega) ?_
    | with_reducible refine rLSS ?_
    | with_reducible refine rLEQ ?_
    | with_reducible refine rGTR ?_
    | with_reducible refine rGEQ ?_
    | with_reducible refine rEQL ?_
    | with_reducible refine rNEQ ?_
    | with_reducible refine rNOT ?_
    | (with_reducible refine rBRK ?_ ?_ <;> intro hb)
    | (with_reducible refine rBRKn ?_ ?_ <;> intro hb)
    | (with_reducible refine rBRKnb ?_ ?_ <;> intro hb)
    | (with_reducible refine rBRKb ?_ ?_ <;> intro hb)
    | (with_reducible refine rSPL ?_ ?_ <;> intro hb)
    | (with_reducible refine rSPLn ?_ ?_ <;> intro hb)
    | (with_reducible refine rSPLnb ?_ ?_ <;> intro hb)
    | (with_reducible refine rSPLb ?_ ?_ <;> intro hb)
    | (exfalso; omega))
    refine rLDf ho4.top g2 ?_
    refine ACalls.mono (pick_ok hA4.cur (by omega) (by omega)) ?_
    intro r5 H5 hd5
    obtain ⟨b, rfl, hb0, hb1, hA5, hf5, hl5⟩ := hA4.draw hd5
    have ho5 := ho4.frame (H' := H5) fun j hj _ => hf5 j (by omega)
    refine ⟨⟨rfl, rfl, rLDf ho5.top g2 rfl⟩, ?_⟩
    refine ACalls.mono (among_ok (l := [-2, -1, 0, 1, 2, 4611686018427387904]) hA5.cur (by omega) (by have := isInts_map true [(-2 : Int), -1, 0, 1, 2, 4611686018427387904]; exact this) (by decide) (by decide)) ?_
    rintro r6 H6 ⟨c, cs, rfl, hc, rfl, hc6⟩
    have hA6 := hA5.set hc6
    have ho6 := ho5.frame (H' := hset H5 i g cs) fun j hj _ => hget_set_ne _ _ (by omega)
    refine ⟨⟨rfl, rfl, rLDf ho6.top g2 rfl⟩, ?_⟩
    obtain ⟨bn, rfl⟩ : ∃ bn : Nat, b = bn := ⟨b.toNat, by omega⟩
    have g3' : hget (hset H5 i g cs) kj = some (gj, row.map I) := by
      obtain ⟨gj', q1, q2, _⟩ := ho6.row an row kj hrow g1
      rw [g2] at q1; cases q1; exact q2
    repeat' (first
    | with_reducible refine rTT ?_
    | with_reducible refine rRFL ?_
    | with_reducible refine rLEN (by assumption) ?_
    | (with_reducible refine rIXk (by assumption) (by assumption) ?_; intro p hp)
    | (with_reducible refine rIX (by assumption) (by omega) (by omega) ?_; intro p a ha hp)
    | with_reducible refine rLDi (by assumption) ?_
    | (with_reducible refine rLD (by assumption) ?_; intro c hc)
    | with_reducible refine rADD (by omega) ?_
    | with_reducible refine rSUB (by omega) ?_
    | with_reducible refine rLSS ?_
    | with_reducible refine rLEQ ?_
    | with_reducible refine rGTR ?_
    | with_reducible refine rGEQ ?_
    | with_reducible refine rEQL ?_
    | with_reducible refine rNEQ ?_
    | with_reducible refine rNOT ?_
    | (with_reducible refine rBRK ?_ ?_ <;> intro hb)
    | (with_reducible refine rBRKn ?_ ?_ <;> intro hb)
    | (with_reducible refine rBRKnb ?_ ?_ <;> intro hb)
    | (with_reducible refine rBRKb ?_ ?_ <;> intro hb)
    | (with_reducible refine rSPL ?_ ?_ <;> intro hb)
    | (with_reducible refine rSPLn ?_ ?_ <;> intro hb)
    | (with_reducible refine rSPLnb ?_ ?_ <;> intro hb)
    | (with_reducible refine rSPLb ?_ ?_ <;> intro hb)
    | (exfalso; omega))
    refine rIXo (by omega) ?_
    repeat' (first
    | with_reducible refine rTT ?_
    | with_reducible refine rRFL ?_
    | with_reducible refine rLEN (by assumption) ?_
    | (with_reducible refine rIXk (by assumption) (by assumption) ?_; intro p hp)
    | (with_reducible refine rIX (by assumption) (by omega) (by omega) ?_; intro p a ha hp)
    | with_reducible refine rLDi (by assumption) ?_
    | (with_reducible refine rLD (by assumption) ?_; intro c hc)
    | with_reducible refine rADD (by omega) ?_
    | with_reducible refine rSUB (by omega) ?_
    | with_reducible refine rLSS ?_
    | with_reducible refine rLEQ ?_
    | with_reducible refine rGTR ?_
    | with_reducible refine rGEQ ?_
    | with_reducible refine rEQL ?_
    | with_reducible refine rNEQ ?_
    | with_reducible refine rNOT ?_
    | (with_reducible refine rBRK ?_ ?_ <;> intro hb)
    | (with_reducible refine rBRKn ?_ ?_ <;> intro hb)
    | (with_reducible refine rBRKnb ?_ ?_ <;> intro hb)
    | (with_reducible refine rBRKb ?_ ?_ <;> intro hb)
    | (with_reducible refine rSPL ?_ ?_ <;> intro hb)
    | (with_reducible refine rSPLn ?_ ?_ <;> intro hb)
    | (with_reducible refine rSPLnb ?_ ?_ <;> intro hb)
    | (with_reducible refine rSPLb ?_ ?_ <;> intro hb)
    | (exfalso; omega))
    refine rSTp g3' (by simp; omega) rfl ?_
    have hset1 : (row.map I).set bn (I c) = (row.set bn c).map I := by rw [List.map_set]
    rw [hset1]
    refine ⟨t.set an (row.set bn c), (ho6.put hrow g1 g3' (by simp)).is (by simp), by simp; omega, ?_, (hA6.put g4 _ (ifrees_map _)).le (by omega)⟩
    intro s hs
    rcases List.mem_or_eq_of_mem_set hs with h | rfl
    · rw [rl s h]; omega
    · simp; omega
  · -- one more row
    refine rMKI (by omega) (by omega) fun g' => ?_
    rw [Int.toNat_natCast]
    refine ⟨rfl, rfl, rfl, rLIT1 rfl ⟨rfl, rfl, ?_⟩⟩
    have hF1 := hA3.fresh (fresh_new H3 g' (ifrees_map (List.replicate n 0)))
    have hl : n = (List.replicate n (0 : Int)).length := by simp
    have := ((ho.is (n := t.length) rfl).new g' ((List.replicate n 0).map I)).snoc (gr := g') (r := List.replicate n 0) (hget_new _ _ _) hA3.len (by omega) hF1.len (b := true)
      (K := fun x27 H28 => Table (A + 3000) i g H x27 H28) (fun v' H' q1 q2 => ?_)
    · rw [← hl] at this; exact this
    · refine ⟨_, q1, by simp; omega, ?_, (hF1.chg (Nat.le_refl _) q2).le (by omega)⟩
      intro s hs
      rcases List.mem_append.1 hs with hs | hs
      · rw [rl s hs]; omega
      · have hs' : s = List.replicate n 0 := by simpa using hs
        rw [hs']; simp; omega
  · -- a longer row
    obtain ⟨row, hrow⟩ := ex_get (l := t) (k := 0) (by omega)
    have hrl := rl _ (List.mem_of_getElem? hrow)
    obtain ⟨kj, gj, g1, g2, g3, g4, g5⟩ := ho.get hrow
    refine rIXo (i := 0) (by omega) ?_
    repeat' (first
    | with_reducible refine rTT ?_
    | with_reducible refine rRFL ?_
    | with_reducible refine rLEN (by assumption) ?_
    | (with_reducible refine rIXk (by assumption) (by assumption) ?_; intro p hp)
    | (with_reducible refine rIX (by assumption) (by omega) (by omega) ?_; intro p a ha hp)
    | with_reducible refine rLDi (by assumption) ?_
    | (with_reducible refine rLD (by assumption) ?_; intro c hc)
    | with_reducible refine rADD (by omega) ?_
    | with_reducible refine rSUB (by omega) ?_
    | with_reducible refine rLSS ?_
    | with_reducible refine rLEQ ?_
    | with_reducible refine rGTR ?_
    | with_reducible refine rGEQ ?_
    | with_reducible refine rEQL ?_
    | with_reducible refine rNEQ ?_
    | with_reducible refine rNOT ?_
    | (with_reducible refine rBRK ?_ ?_ <;> intro hb)
    | (with_reducible refine rBRKn ?_ ?_ <;> intro hb)
    | (with_reducible refine rBRKnb ?_ ?_ <;> intro hb)
    | (with_reducible refine rBRKb ?_ ?_ <;> intro hb)
    | (with_reducible refine rSPL ?_ ?_ <;> intro hb)
    | (with_reducible refine rSPLn ?_ ?_ <;> intro hb)
    | (with_reducible refine rSPLnb ?_ ?_ <;> intro hb)
    | (with_reducible refine rSPLb ?_ ?_ <;> intro hb)
    | (exfalso; omega))
    refine rLDf ho.top g2 ?_
    refine ⟨rfl, rfl, rfl, rLIT1 rfl ⟨rfl, rfl, ?_⟩⟩
    unfold APK elemsOf
    refine ⟨rfl, rfl, rfl, by omega, row.map I, g3, by simp, fun g' => ?_⟩
    have htk : (row.map I).take (row.length * 1) ++ [I 0] = (row ++ [0]).map I := by
      rw [List.take_of_length_le (by simp)]; simp
    rw [htk]
    repeat' (first
    | with_reducible refine rTT ?_
    | with_reducible refine rRFL ?_
    | with_reducible refine rLEN (by assumption) ?_
    | (with_reducible refine rIXk (by assumption) (by assumption) ?_; intro p hp)
    | (with_reducible refine rIX (by assumption) (by omega) (by omega) ?_; intro p a ha hp)
    | with_reducible refine rLDi (by assumption) ?_
    | (with_reducible refine rLD (by assumption) ?_; intro c hc)
    | with_reducible refine rADD (by omega) ?_
    | with_reducible refine rSUB (by omega) ?_
    | with_reducible refine rLSS ?_
    | with_reducible refine rLEQ ?_
    | with_reducible refine rGTR ?_
    | with_reducible refine rGEQ ?_
    | with_reducible refine rEQL ?_
    | with_reducible refine rNEQ ?_
    | with_reducible refine rNOT ?_
    | (with_reducible refine rBRK ?_ ?_ <;> intro hb)
    | (with_reducible refine rBRKn ?_ ?_ <;> intro hb)
    | (with_reducible refine rBRKnb ?_ ?_ <;> intro hb)
    | (with_reducible refine rBRKb ?_ ?_ <;> intro hb)
    | (with_reducible refine rSPL ?_ ?_ <;> intro hb)
    | (with_reducible refine rSPLn ?_ ?_ <;> intro hb)
    | (with_reducible refine rSPLnb ?_ ?_ <;> intro hb)
    | (with_reducible refine rSPLb ?_ ?_ <;> intro hb)
    | (exfalso; omega))
    refine rIXo (i := 0) (by omega) ?_
    repeat' (first
    | with_reducible refine rTT ?_
    | with_reducible refine rRFL ?_
    | with_reducible refine rLEN (by assumption) ?_
    | (with_reducible refine rIXk (by assumption) (by assumption) ?_; intro p hp)
    | (with_reducible refine rIX (by assumption) (by omega) (by omega) ?_; intro p a ha hp)
    | with_reducible refine rLDi (by assumption) ?_
    | (with_reducible refine rLD (by assumption) ?_; intro c hc)
    | with_reducible refine rADD (by omega) ?_
    | with_reducible refine rSUB (by omega) ?_
    | with_reducible refine rLSS ?_
    | with_reducible refine rLEQ ?_
    | with_reducible refine rGTR ?_
    | with_reducible refine rGEQ ?_
    | with_reducible refine rEQL ?_
    | with_reducible refine rNEQ ?_
    | with_reducible refine rNOT ?_
    | (with_reducible refine rBRK ?_ ?_ <;> intro hb)
    | (with_reducible refine rBRKn ?_ ?_ <;> intro hb)
    | (with_reducible refine rBRKnb ?_ ?_ <;> intro hb)
    | (with_reducible refine rBRKb ?_ ?_ <;> intro hb)
    | (with_reducible refine rSPL ?_ ?_ <;> intro hb)
    | (with_reducible refine rSPLn ?_ ?_ <;> intro hb)
    | (with_reducible refine rSPLnb ?_ ?_ <;> intro hb)
    | (with_reducible refine rSPLb ?_ ?_ <;> intro hb)
    | (exfalso; omega))
    have htop : hget (hset H3 kj g' ((row ++ [0]).map I)) k = some (gk, rows) := by rw [hget_set_ne _ _ g5]; exact ho.top
    refine rSTp htop (by rw [ho.len]; omega) rfl ?_
    have ho' := ho.regrow hrow g1 (row ++ [0]) g'
    have hlen : (row ++ [(0 : Int)]).length = row.length + 1 := by simp
    rw [hlen] at ho'
    refine ⟨t.set 0 (row ++ [0]), ho'.is (by simp), by simp; omega, ?_, ((hA3.put g4 _ (ifrees_map _)).put ho.lok _ ?_).le (by omega)⟩
    · intro s hs
      rcases List.mem_or_eq_of_mem_set hs with h | rfl
      · rw [rl s h]; omega
      · simp; omega
    · rw [ifrees_iff]
      intro c hc
      rcases List.mem_or_eq_of_mem_set hc with h | rfl
      · obtain ⟨j, hj, rfl⟩ := List.getElem_of_mem h
        obtain ⟨kj', gj', _, q4, _⟩ := ho.get (List.getElem?_eq_getElem (show j < t.length by rw [← ho.len]; exact hj))
        rw [List.getElem?_eq_getElem hj] at q4
        rw [Option.some.inj q4]; rfl
      · rfl
  · -- another one
    refine ACalls.mono (sure_ok (n := 6) hA3.cur (by omega) (by omega) (by omega)) ?_
    rintro r4 H4 ⟨t', q1, q2, q3, q4⟩
    have hA4 := hA3.trans q4
    refine ACalls.mono (one_ok hA4.cur (by omega) (by omega)) ?_
    rintro r5 H5 ⟨b, cs, rfl, rfl, hc5⟩
    have hA5 := hA4.set hc5
    refine rBRKb (fun _ => ?_) (fun _ => ?_)
    · exact ⟨[], .inl ⟨rfl, rfl⟩, by simp, by simp, hA5.le (by omega)⟩
    · exact ⟨t', (q1.lo hA3.len).frame fun j hj _ => hget_set_ne _ _ (by omega), by omega, fun r hr => by rw [sq_len q3 hr]; omega, hA5.le (by omega)⟩
  · exact ⟨t, ho.is rfl, by omega, fun r hr => by rw [rl r hr]; omega, hA3.le (by omega)⟩

end Go.Proofs.Ytccioplhchmilaa.AL
