/-
  Contracts: the matrix of heights, as the reference tells it.
-/
import Derived.Test.YtccioplhchmilaaD7
set_option linter.unusedVariables false
set_option maxRecDepth 100000
namespace Go.Proofs.Ytccioplhchmilaa.AL
open Go Go.Proofs

/-! spec.heFrom (slots: 0 h, 1 h, 3 n, 4 corners, 5 i, 6 j) -/
namespace spec_heFrom
def lv : List (Nat × List Nat) := [(4, [0, 4, 13, 14]), (7, [0, 4, 5, 13, 14, 18, 19])]
noncomputable def K4 : List KF := [.lp (cB (cB (cR (cL (cR (cR (cR (bodyOf Try.f74)))))))), .bl 0, .sq (cR (cR (cR (cR (bodyOf Try.f74)))))]
def L4 (Q : AVal → Heap → Prop) (v0 v4 v13 v14 : AVal) (H : Heap) : Prop := At Try.prog 74 47 K4 Q (slotsOf [(0, v0), (4, v4), (13, v13), (14, v14)]) H
theorem L4_frz {Q : AVal → Heap → Prop} {v0 v4 v13 v14 w0 w4 w13 w14 : AVal} {H Hf Hk : Heap} {k : Nat} (hs : Split H Hf Hk) (hp : PurL Hf k [(0, v0, w0), (4, v4, w4), (13, v13, w13), (14, v14, w14)]) (h : L4 Q w0 w4 w13 w14 Hk) : L4 Q v0 v4 v13 v14 H := at_frz (ks := K4) hs hp h
noncomputable def K7 : List KF := [.lp (cB (cB (cR (cR (cB (cL (cR (cR (cB (cB (cR (cL (cR (cR (cR (bodyOf Try.f74)))))))))))))))), .bl 2, .bl 1, .sq (cR (cR (cR (cB (cB (cR (cL (cR (cR (cR (bodyOf Try.f74))))))))))), .lp (cB (cB (cR (cL (cR (cR (cR (bodyOf Try.f74)))))))), .bl 0, .sq (cR (cR (cR (cR (bodyOf Try.f74)))))]
def L7 (Q : AVal → Heap → Prop) (v0 v4 v5 v13 v14 v18 v19 : AVal) (H : Heap) : Prop := At Try.prog 74 47 K7 Q (slotsOf [(0, v0), (4, v4), (5, v5), (13, v13), (14, v14), (18, v18), (19, v19)]) H
theorem L7_frz {Q : AVal → Heap → Prop} {v0 v4 v5 v13 v14 v18 v19 w0 w4 w5 w13 w14 w18 w19 : AVal} {H Hf Hk : Heap} {k : Nat} (hs : Split H Hf Hk) (hp : PurL Hf k [(0, v0, w0), (4, v4, w4), (5, v5, w5), (13, v13, w13), (14, v14, w14), (18, v18, w18), (19, v19, w19)]) (h : L7 Q w0 w4 w5 w13 w14 w18 w19 Hk) : L7 Q v0 v4 v5 v13 v14 v18 v19 H := at_frz (ks := K7) hs hp h
def start_vc (Q : AVal → Heap → Prop) (a0 : AVal) (H : Heap) : Prop :=
LENK a0 fun x1 =>
BINK .sub x1 (AVal.int .i64 1) fun x2 =>
ACalls Try.prog 123 [x2] H fun x3 H4 =>
LENK x3 fun x5 =>
spec_heFrom.L4 Q a0 x3 x5 (AVal.int .i64 0) H4
theorem start_eq (Q : AVal → Heap → Prop) (a0 : AVal) (H : Heap) : vs Try.prog lv 74 47 Try.f74.results.toList Q true 1000 [.sq (bodyOf Try.f74)] (entry [a0]) H = start_vc Q a0 H := by kernel_rfl
theorem start {Q : AVal → Heap → Prop} {a0 : AVal} {H : Heap} (h : start_vc Q a0 H) : ACalls Try.prog 74 [a0] H Q := acalls_vs (lv := lv) mixed Try.func74 rfl (by kernel_rfl) (by kernel_rfl) (start_eq Q a0 H ▸ h)
def step4_vc (Q : AVal → Heap → Prop) (v0 v4 v13 v14 : AVal) (H : Heap) : Prop :=
BINK .lss v14 v13 fun x1 =>
BRK x1 (LENK v4 fun x2 =>
spec_heFrom.L7 Q v0 v4 v14 v13 v14 x2 (AVal.int .i64 0) H) (ACalls Try.prog 124 [v4] H fun x3 H4 =>
Q x3 H4)
theorem step4_eq (Q : AVal → Heap → Prop) (v0 v4 v13 v14 : AVal) (H : Heap) : vs Try.prog lv 74 47 Try.f74.results.toList Q true 1000 (.sq (cB (cB (cR (cL (cR (cR (cR (bodyOf Try.f74)))))))) :: K4) (slotsOf [(0, v0), (4, v4), (13, v13), (14, v14)]) H = step4_vc Q v0 v4 v13 v14 H := by kernel_rfl
theorem step4 {Q : AVal → Heap → Prop} {v0 v4 v13 v14 : AVal} {H : Heap} (h : step4_vc Q v0 v4 v13 v14 H) : L4 Q v0 v4 v13 v14 H := at_lp_vs (lv := lv) (ks := K4.tail) mixed Try.func74 (step4_eq Q v0 v4 v13 v14 H ▸ h)
def step7_vc (Q : AVal → Heap → Prop) (v0 v4 v5 v13 v14 v18 v19 : AVal) (H : Heap) : Prop :=
BINK .lss v19 v18 fun x1 =>
BRK x1 (TT ∧ TT ∧ IXK 1 v4 v5 fun x2 =>
TT ∧ TT ∧ LDK false 1 H x2 fun x3 =>
BINK .add v5 v19 fun x4 =>
BINK .add x4 (AVal.int .i64 2) fun x5 =>
BINK .add v5 (AVal.int .i64 1) fun x6 =>
TT ∧ IXK 1 v0 x6 fun x7 =>
TT ∧ TT ∧ LDK false 1 H x7 fun x8 =>
BINK .add v19 (AVal.int .i64 1) fun x9 =>
TT ∧ IXK 1 x8 x9 fun x10 =>
TT ∧ TT ∧ LDK false 1 H x10 fun x11 =>
BINK .sub x5 x11 fun x12 =>
BINK .quo x12 (AVal.int .i64 2) fun x13 =>
TT ∧ IXK 1 x3 v19 fun x14 =>
TT ∧ STK 1 H x14 x13 fun H15 =>
BINK .add v19 (AVal.int .i64 1) fun x16 =>
spec_heFrom.L7 Q v0 v4 v5 v13 v14 v18 x16 H15) (BINK .add v14 (AVal.int .i64 1) fun x17 =>
spec_heFrom.L4 Q v0 v4 v13 x17 H)
theorem step7_eq (Q : AVal → Heap → Prop) (v0 v4 v5 v13 v14 v18 v19 : AVal) (H : Heap) : vs Try.prog lv 74 47 Try.f74.results.toList Q true 1000 (.sq (cB (cB (cR (cR (cB (cL (cR (cR (cB (cB (cR (cL (cR (cR (cR (bodyOf Try.f74)))))))))))))))) :: K7) (slotsOf [(0, v0), (4, v4), (5, v5), (13, v13), (14, v14), (18, v18), (19, v19)]) H = step7_vc Q v0 v4 v5 v13 v14 v18 v19 H := by kernel_rfl
theorem step7 {Q : AVal → Heap → Prop} {v0 v4 v5 v13 v14 v18 v19 : AVal} {H : Heap} (h : step7_vc Q v0 v4 v5 v13 v14 v18 v19 H) : L7 Q v0 v4 v5 v13 v14 v18 v19 H := at_lp_vs (lv := lv) (ks := K7.tail) mixed Try.func74 (step7_eq Q v0 v4 v5 v13 v14 v18 v19 H ▸ h)
end spec_heFrom


def heCorn (t : List (List Int)) (i j : Nat) : Int := hcAt t (i + 1) (j + 1)
section
variable {t : List (List Int)} {v : AVal} {H0 : Heap} {Q : AVal → Heap → Prop} {n : Nat}
theorem heFrom_in (hv : IsTab v t) (hl : t.length ≤ 100000) (hs : isSquareB t = true) (hn : t.length = n + 1) {i : Nat} (hi : i < n) {w13 w14 : AVal} {k g : Nat} {rows : List AVal} {ks : List Nat}
    (hq : ∀ (T : List (List Int)) (H : Heap), T.length = n → isSquareB T = true → (∀ x, x < i + 1 → T[x]? = some (tabRow n (heCorn t) x)) → OTab H0.length H k g rows ks T → Fresh H0 H →
      spec_heFrom.L7 Q v (.own k g 1 0 n) (I i) w13 w14 (I n) (I n) H) :
    ∀ (m j : Nat) (T : List (List Int)) (r : List Int) (H : Heap), j + m = n → T.length = n → isSquareB T = true → (∀ x, x < i → T[x]? = some (tabRow n (heCorn t) x)) → T[i]? = some r → r.take j = (tabRow n (heCorn t) i).take j →
      OTab H0.length H k g rows ks T → Fresh H0 H → spec_heFrom.L7 Q v (.own k g 1 0 n) (I i) w13 w14 (I n) (I j) H := by
  intro m
  induction m with
  | zero =>
    intro j T r H hj h1 h2 h3 h4 h5 ho hF
    have : j = n := by omega
    subst this
    have hr1 := sq_len h2 (List.mem_of_getElem? h4)
    rw [List.take_of_length_le (by omega), List.take_of_length_le (by simp [tabRow])] at h5
    exact hq T H h1 h2 (fun x hx => by
      by_cases hxi : x = i
      · subst hxi; rw [h4, h5]
      · exact h3 x (by omega)) ho hF
  | succ m ih =>
    intro j T r H hj h1 h2 h3 h4 h5 ho hF
    have hr1 := sq_len h2 (List.mem_of_getElem? h4)
    obtain ⟨kj, gj, g1, g2, g3, g4, g5⟩ := ho.get h4
    have hset1 : ∀ (r : List Int) w, (r.map I).set j (I w) = (r.set j w).map I := fun r w => by rw [List.map_set]
    have hT : i < T.length := by omega
    obtain ⟨hr, hhr⟩ := ex_get (l := t) (k := i + 1) (by omega)
    have hhl := sq_len hs (List.mem_of_getElem? hhr)
    obtain ⟨x, hx⟩ := ex_get (l := hr) (k := j + 1) (by omega)
    apply spec_heFrom.step7
    unfold spec_heFrom.step7_vc
    refine rLSS (rBRK (fun hb => ?_) (fun hb => absurd hb (by omega)))
    refine rTT (rTT (rIXo hi (rTT (rTT (rLDf ho.top g2 ?_)))))
    refine rADD (by omega) (rADD (by omega) (rADD (by omega) ?_))
    have ei : ((i : Int) + 1) = ((i + 1 : Nat) : Int) := by omega
    have ej : ((j : Int) + 1) = ((j + 1 : Nat) : Int) := by omega
    rw [ei]
    refine rTT (rIXk hv hhr fun p hp => rTT (rTT (rLD hp fun c hc => ?_)))
    refine rADD (by omega) ?_
    rw [ej]
    refine rTT (rIXk hc hx fun p2 hp2 => rTT (rTT (rLDi hp2 ?_)))
    refine rSUBw (rQUO (by decide) (half_in (w64_range _)) ?_)
    refine rTT (rIXo (by omega) (rTT (rSTp g3 (by simp; omega) rfl ?_)))
    refine rADD (by omega) ?_
    rw [hset1]
    have hval : (w64 ((i : Int) + j + 2 - x)).tdiv 2 = heCorn t i j := by
      have e : (((i + 1 + (j + 1) : Nat) : Int)) = (i : Int) + j + 2 := by omega
      simp only [heCorn, hcAt, e]
      simp [List.getD, hhr, hx]
    rw [hval]
    refine ih (j + 1) (T.set i (r.set j (heCorn t i j))) (r.set j (heCorn t i j)) _ (by omega) (by simpa using h1) (sq_set h2 h4 (by simp)) (fun y hy => by rw [List.getElem?_set_ne (by omega)]; exact h3 y hy) (List.getElem?_set_self hT) ?_ (ho.put h4 g1 g3 (by simp)) (hF.set g4 gj (ifrees_map _))
    have e1 : (r.set j (heCorn t i j))[j]? = some (heCorn t i j) := List.getElem?_set_self (by omega)
    have e2 : (tabRow n (heCorn t) i)[j]? = some (heCorn t i j) := by simp [tabRow, List.getElem?_range (show j < n by omega)]
    rw [take_some e1, take_some e2, List.take_set_of_le (Nat.le_refl _), h5]
theorem heFrom_out (hv : IsTab v t) (hl : t.length ≤ 100000) (hs : isSquareB t = true) (hn : t.length = n + 1) {k g : Nat} {rows : List AVal} {ks : List Nat} (hq : ∀ (H : Heap), OTab H0.length H k g rows ks (tabT n n (heCorn t)) → Fresh H0 H → ACalls Try.prog 124 [.own k g 1 0 n] H Q) :
    ∀ (m i : Nat) (T : List (List Int)) (H : Heap), i + m = n → T.length = n → isSquareB T = true → (∀ x, x < i → T[x]? = some (tabRow n (heCorn t) x)) → OTab H0.length H k g rows ks T → Fresh H0 H →
      spec_heFrom.L4 Q v (.own k g 1 0 n) (I n) (I i) H := by
  intro m
  induction m with
  | zero =>
    intro i T H hi h1 h2 h3 ho hF
    apply spec_heFrom.step4
    unfold spec_heFrom.step4_vc
    repeat' (first
    | with_reducible refine rTT ?_
    | with_reducible refine rRFL ?_
    | with_reducible refine rLEN (by assumption) ?_
    | (with_reducible refine rIXk (by assumption) (by assumption) ?_; intro p hp)
    | (with_reducible refine rIX (by assumption) (by omega) (by omega) ?_; intro p a ha hp)
    | with_reducible refine rLDi (by assumption) ?_
    | (with_reducible refine rLD (by assumption) ?_; intro c hc)
    | with_reducible refine rADD (by omega) ?_
    | with_reducible refine rSUB (by omega) ?_
    | with_reducible refine rLSS ?_
    | with_reducible refine rLEQ ?_
    | with_reducible refine rGTR ?_
    | with_reducible refine rGEQ ?_
    | with_reducible refine rEQL ?_
    | with_reducible refine rNEQ ?_
    | with_reducible refine rNOT ?_
    | (with_reducible refine rBRK ?_ ?_ <;> intro hb)
    | (with_reducible refine rBRKn ?_ ?_ <;> intro hb)
    | (with_reducible refine rBRKnb ?_ ?_ <;> intro hb)
    | (with_reducible refine rBRKb ?_ ?_ <;> intro hb)
    | (with_reducible refine rSPL ?_ ?_ <;> intro hb)
    | (with_reducible refine rSPLn ?_ ?_ <;> intro hb)
    | (with_reducible refine rSPLnb ?_ ?_ <;> intro hb)
    | (with_reducible refine rSPLb ?_ ?_ <;> intro hb)
    | (exfalso; omega))
    have : T = tabT n n (heCorn t) := by
      refine List.ext_getElem? fun x => ?_
      by_cases hx : x < n
      · rw [h3 x (by omega)]
        simp [tabT, List.getElem?_range hx]
      · rw [List.getElem?_eq_none (by omega), List.getElem?_eq_none (by simp [tabT]; omega)]
    subst this
    exact hq H ho hF
  | succ m ih =>
    intro i T H hi h1 h2 h3 ho hF
    obtain ⟨r, hr⟩ := ex_get (l := T) (k := i) (by omega)
    apply spec_heFrom.step4
    unfold spec_heFrom.step4_vc
    repeat' (first
    | with_reducible refine rTT ?_
    | with_reducible refine rRFL ?_
    | with_reducible refine rLEN (by assumption) ?_
    | (with_reducible refine rIXk (by assumption) (by assumption) ?_; intro p hp)
    | (with_reducible refine rIX (by assumption) (by omega) (by omega) ?_; intro p a ha hp)
    | with_reducible refine rLDi (by assumption) ?_
    | (with_reducible refine rLD (by assumption) ?_; intro c hc)
    | with_reducible refine rADD (by omega) ?_
    | with_reducible refine rSUB (by omega) ?_
    | with_reducible refine rLSS ?_
    | with_reducible refine rLEQ ?_
    | with_reducible refine rGTR ?_
    | with_reducible refine rGEQ ?_
    | with_reducible refine rEQL ?_
    | with_reducible refine rNEQ ?_
    | with_reducible refine rNOT ?_
    | (with_reducible refine rBRK ?_ ?_ <;> intro hb)
    | (with_reducible refine rBRKn ?_ ?_ <;> intro hb)
    | (with_reducible refine rBRKnb ?_ ?_ <;> intro hb)
    | (with_reducible refine rBRKb ?_ ?_ <;> intro hb)
    | (with_reducible refine rSPL ?_ ?_ <;> intro hb)
    | (with_reducible refine rSPLn ?_ ?_ <;> intro hb)
    | (with_reducible refine rSPLnb ?_ ?_ <;> intro hb)
    | (with_reducible refine rSPLb ?_ ?_ <;> intro hb)
    | (exfalso; omega))
    show spec_heFrom.L7 Q _ _ _ _ _ (I n) _ _
    refine heFrom_in hv hl hs hn (by omega) (fun T' H' q1 q2 q3 q4 q5 => ?_) n 0 T r H (by omega) h1 h2 h3 hr rfl ho hF
    apply spec_heFrom.step7
    unfold spec_heFrom.step7_vc
    repeat' (first
    | with_reducible refine rTT ?_
    | with_reducible refine rRFL ?_
    | with_reducible refine rLEN (by assumption) ?_
    | (with_reducible refine rIXk (by assumption) (by assumption) ?_; intro p hp)
    | (with_reducible refine rIX (by assumption) (by omega) (by omega) ?_; intro p a ha hp)
    | with_reducible refine rLDi (by assumption) ?_
    | (with_reducible refine rLD (by assumption) ?_; intro c hc)
    | with_reducible refine rADD (by omega) ?_
    | with_reducible refine rSUB (by omega) ?_
    | with_reducible refine rLSS ?_
    | with_reducible refine rLEQ ?_
    | with_reducible refine rGTR ?_
    | with_reducible refine rGEQ ?_
    | with_reducible refine rEQL ?_
    | with_reducible refine rNEQ ?_
    | with_reducible refine rNOT ?_
    | (with_reducible refine rBRK ?_ ?_ <;> intro hb)
    | (with_reducible refine rBRKn ?_ ?_ <;> intro hb)
    | (with_reducible refine rBRKnb ?_ ?_ <;> intro hb)
    | (with_reducible refine rBRKb ?_ ?_ <;> intro hb)
    | (with_reducible refine rSPL ?_ ?_ <;> intro hb)
    | (with_reducible refine rSPLn ?_ ?_ <;> intro hb)
    | (with_reducible refine rSPLnb ?_ ?_ <;> intro hb)
    | (with_reducible refine rSPLb ?_ ?_ <;> intro hb)
    | (exfalso; omega))
    exact ih (i + 1) T' H' (by omega) q1 q2 q3 q4 q5
theorem heFrom_ok {H : Heap} (hv : IsTab v t) (hl : t.length ≤ 100000) (hs : isSquareB t = true) (hn : t.length = n + 1) (hn1 : 1 ≤ n) : ACalls Try.prog 74 [v] H fun r H' => IsTab r (fromT (tabT n n (heCorn t))) ∧ H' = H := by
  apply ACalls.pure
  apply spec_heFrom.start
  unfold spec_heFrom.start_vc
  repeat' (first
    | with_reducible refine rTT ?_
    | with_reducible refine rRFL ?_
    | with_reducible refine rLEN (by assumption) ?_
    | (with_reducible refine rIXk (by assumption) (by assumption) ?_; intro p hp)
    | (with_reducible refine rIX (by assumption) (by omega) (by omega) ?_; intro p a ha hp)
    | with_reducible refine rLDi (by assumption) ?_
    | (with_reducible refine rLD (by assumption) ?_; intro c hc)
    | with_reducible refine rADD (by omega) ?_
    | with_reducible refine rSUB (by omega) ?_
    | with_reducible refine rLSS ?_
    | with_reducible refine rLEQ ?_
    | with_reducible refine rGTR ?_
    | with_reducible refine rGEQ ?_
    | with_reducible refine rEQL ?_
    | with_reducible refine rNEQ ?_
    | with_reducible refine rNOT ?_
    | (with_reducible refine rBRK ?_ ?_ <;> intro hb)
    | (with_reducible refine rBRKn ?_ ?_ <;> intro hb)
    | (with_reducible refine rBRKnb ?_ ?_ <;> intro hb)
    | (with_reducible refine rBRKb ?_ ?_ <;> intro hb)
    | (with_reducible refine rSPL ?_ ?_ <;> intro hb)
    | (with_reducible refine rSPLn ?_ ?_ <;> intro hb)
    | (with_reducible refine rSPLnb ?_ ?_ <;> intro hb)
    | (with_reducible refine rSPLb ?_ ?_ <;> intro hb)
    | (exfalso; omega))
  have e : ((t.length : Int) - 1) = (n : Int) := by omega
  rw [e]
  refine ACalls.mono (sgZero_ok (by omega)) ?_
  rintro r H1 ⟨h1, h2⟩
  have hz : (zeros n).length = n := by simp [zeros]
  rcases h1 with ⟨rfl, ht⟩ | ⟨k, g, rows, ks, rfl, ho⟩
  · rw [ht] at hz; simp at hz; omega
  · rw [hz]
    show spec_heFrom.L4 _ _ _ (I n) _ _
    refine heFrom_out hv hl hs hn (fun H' h3 h4 => ?_) n 0 (zeros n) H1 (by omega) hz (zeros_sq _) (fun x hx => by omega) ho h2
    have hlt : (tabT n n (heCorn t)).length = n := by simp [tabT]
    have hst : isSquareB (tabT n n (heCorn t)) = true := by
      simp only [isSquareB, List.all_eq_true, decide_eq_true_eq, hlt]
      intro r hr
      simp only [tabT, List.mem_map] at hr
      obtain ⟨i, _, rfl⟩ := hr
      simp [tabRow]
    refine ACalls.mono (sgFrom_own (h3.is hlt) (by omega) hst) ?_
    rintro r H2 ⟨h5, h6⟩
    have h7 := h4.trans h6
    obtain ⟨v', q1, q2⟩ := (h5.lo h4.len).pur (Hf := nw H H2) fun i hi => nw_above H H2 hi
    exact ⟨h7.sub, 2, v', q1, q2, rfl⟩
end

end Go.Proofs.Ytccioplhchmilaa.AL
