/-
  From a law as a call over abstract values to the law as a call in a world.
-/
import Derived.Test.YtccioplhchmilaaC5
set_option linter.unusedVariables false
set_option maxRecDepth 100000
namespace Go.Proofs.Ytccioplhchmilaa.AL
open Go Go.Proofs Go.RowKit

/-- What a law says. -/
def True1 (H0 : Heap) : AVal → Heap → Prop := fun r H => r = .bool true ∧ H = H0
theorem enter_bytes {w : World} {a : Option Addr} {len cap : Nat} {z : List Int} (h : (a = none ∧ len = 0 ∧ cap = 0 ∧ z = []) ∨
    ∃ x, a = some x ∧ len ≤ cap ∧ cap ≤ maxLen ∧ z.length = cap ∧ (∀ i, i < z.length → w.cell? (x.add i) = some (.int .u8 (z.getD i 0))) ∧ ∀ n ∈ z, (Lit.int .u8 n).wf = true) :
    ∃ (v : AVal) (code : List Int), VRel w (fun g => g < w.heap.size) v (.slice a len cap) ∧ IsSl IsB v code ∧ code.length ≤ 9223372036854775807 := by
  rcases h with ⟨rfl, rfl, rfl, rfl⟩ | ⟨x, rfl, hl, hm, hz, hcell, hwf⟩
  · exact ⟨.nilS, [], by simp only [VRel], .inl ⟨rfl, rfl⟩, by simp⟩
  · have hmax : maxLen ≤ 9223372036854775807 := by decide
    by_cases h0 : len = 0
    · subst h0
      refine ⟨.sl false 0 [], [], ?_, isSl_mk rfl rfl (by intro i c a h; simp at h), by simp⟩
      simp only [VRel]
      exact .inl ⟨trivial, trivial, _, _, rfl, by intro h; cases h⟩
    · obtain ⟨b, off, spot⟩ := x
      have hc := hcell 0 (by omega)
      have hspot : spot = none := by simpa [Addr.add] using World.cell?_spot hc
      subst hspot
      have hb : b < w.heap.size := by
        unfold World.cell? at hc
        rcases hn : w.heap[b]? with _ | o
        · simp [Addr.add, hn] at hc
        · exact (Array.getElem?_eq_some_iff.1 hn).1
      have hcells : ∀ i, i < z.length → w.cell? ⟨b, off + i, none⟩ = some (.int .u8 (z.getD i 0)) := fun i hi => by
        have := hcell i hi
        unfold Addr.add at this
        split at this
        · rename_i h; subst h; exact this
        · exact this
      refine ⟨.sl false len ((z.take len).map (.int .u8)), z.take len, ?_, isSl_mk (by simp; omega) (by simp) ?_, by simp; omega⟩
      · simp only [VRel]
        refine .inr ⟨b, off, cap, (z.take len).map (.int .u8), rfl, hl, (by intro h; cases h), hb, ?_, ?_, ?_⟩
        · intro j u hu
          rw [List.getElem?_map] at hu
          have hj : j < (z.take len).length := by
            rcases Nat.lt_or_ge j (z.take len).length with h | h
            · exact h
            · rw [List.getElem?_eq_none h] at hu; cases hu
          have hj2 : j < z.length := by simp at hj; omega
          rw [List.getElem?_eq_getElem hj] at hu
          cases hu
          rw [hcells j hj2]
          simp [List.getD, hj2]
        · intro u hu
          simp only [List.mem_map] at hu
          obtain ⟨n, _, rfl⟩ := hu
          rfl
        · rw [VRels_iff]
          refine ⟨by simp, fun j c u h1 h2 => ?_⟩
          rw [List.getElem?_map] at h1 h2
          cases hq : (z.take len)[j]? with
          | none => rw [hq] at h1; cases h1
          | some n => rw [hq] at h1 h2; cases h1; cases h2; simp only [VRel]
      · intro i c a hc ha
        rw [List.getElem?_map, ha] at hc
        cases hc
        have hw := hwf a (List.mem_of_mem_take (List.mem_of_getElem? ha))
        refine ⟨rfl, ?_⟩
        simp [Lit.wf, IntKind.min, IntKind.max, IntKind.bits, IntKind.signed] at hw
        omega
theorem law_calls {P : Program} {f : FuncId} (h : ∀ (u v : AVal) (code more : List Int), IsSl IsB u code → code.length ≤ 9223372036854775807 → IsSl IsB v more → more.length ≤ 9223372036854775807 → ACalls P f [u, v] [] (True1 []))
    {w : World} {a0 a1 : Option Addr} {len0 cap0 len1 cap1 : Nat} {z0 z1 : List Int}
    (h0 : (a0 = none ∧ len0 = 0 ∧ cap0 = 0 ∧ z0 = []) ∨
      ∃ x, a0 = some x ∧ len0 ≤ cap0 ∧ cap0 ≤ maxLen ∧ z0.length = cap0 ∧ (∀ i, i < z0.length → w.cell? (x.add i) = some (.int .u8 (z0.getD i 0))) ∧ ∀ n ∈ z0, (Lit.int .u8 n).wf = true)
    (h1 : (a1 = none ∧ len1 = 0 ∧ cap1 = 0 ∧ z1 = []) ∨
      ∃ x, a1 = some x ∧ len1 ≤ cap1 ∧ cap1 ≤ maxLen ∧ z1.length = cap1 ∧ (∀ i, i < z1.length → w.cell? (x.add i) = some (.int .u8 (z1.getD i 0))) ∧ ∀ n ∈ z1, (Lit.int .u8 n).wf = true) :
    Calls P f #[.slice a0 len0 cap0, .slice a1 len1 cap1] w fun e w' => e = .returned (.bool true) ∧ Below w.heap.size w w' := by
  obtain ⟨u, code, q1, q2, q3⟩ := enter_bytes h0
  obtain ⟨v, more, p1, p2, p3⟩ := enter_bytes h1
  have hH : HRel w (fun g => g < w.heap.size) w.heap.size [] := ⟨Nat.le_refl _, fun g h => h, fun i g cs h => by simp [hget] at h, fun i j g cs ds h => by simp [hget] at h⟩
  have hV : VRels w (fun g => g < w.heap.size) [u, v] [.slice a0 len0 cap0, .slice a1 len1 cap1] := by
    simp only [VRels]
    exact ⟨_, _, rfl, q1, _, _, rfl, p1, rfl⟩
  refine ((h u v code more q2 q3 p2 p3).2 w _ _ _ (fun v w' => v = .bool true ∧ Below w.heap.size w w') hH hV ?_).mono ?_
  · rintro r H' w' I' v' ⟨rfl, rfl⟩ _ hv he
    simp only [VRel] at hv
    exact ⟨hv, he.below⟩
  · rintro e w' ⟨v', rfl, rfl, h2⟩
    exact ⟨rfl, h2⟩

end Go.Proofs.Ytccioplhchmilaa.AL
