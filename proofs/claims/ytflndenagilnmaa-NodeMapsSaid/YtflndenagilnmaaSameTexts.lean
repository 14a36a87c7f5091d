/-
  deduplaw09.sameTexts. Own work.
-/
import Derived.Test.YtflndenagilnmaaStr
set_option linter.unusedVariables false
set_option linter.unusedSimpArgs false
namespace Go.Proofs
open Go Hx

theorem sameTexts_spec {w : World} {a b : Value} {xs ys : List ByteArray} (ha : StrS w a xs) (hb : StrS w b ys) : Calls Try.prog 7 #[a, b] w (RetK fun v w' => v = .bool (decide (xs = ys)) ∧ Fr0 w w') := by
  obtain ⟨A, c, rfl, hc, hm, hA⟩ := ha.out
  obtain ⟨A', c', rfl, hc', hm', hA'⟩ := hb.out
  refine H7_in _ _ fun K hK => ?_
  unfold H7
  by_cases hl : xs.length = ys.length
  · simp [hl]
    refine loopN (fun u w' => ∃ k : Nat, u 0 = .int .i64 k ∧ k ≤ ys.length ∧ xs.take k = ys.take k ∧ Fr0 w w') (fun u _ => ys.length - natOf (u 0)) ⟨0, rfl, by omega, rfl, Fr.refl _ _⟩ ?_
    rintro u junk w1 nx ⟨k, hu, hk, ht, hf⟩ hnx
    unfold H7_1
    by_cases h1 : k < ys.length
    · have h2 : k < xs.length := by omega
      obtain ⟨b, o, rfl, hcA⟩ := hA.resolve_left (by omega)
      obtain ⟨b', o', rfl, hcB⟩ := hA'.resolve_left (by omega)
      have hk1 := hf.cellS (hcA k h2) (fun h => h)
      have hk2 := hf.cellS (hcB k h1) (fun h => h)
      simp [hu, h1, hk1, hk2]
      by_cases he : xs[k] = ys[k]
      · simp [he]
        rw [wrap_i64 (by omega) (by omega)]
        refine hnx _ _ ⟨k + 1, rfl, by omega, ?_, hf.drew⟩ (by simp [hu]; omega)
        rw [List.take_succ_eq_append_getElem h2, List.take_succ_eq_append_getElem h1, ht, he]
      · simp [he]
        exact hK _ _ ⟨by simp; exact fun h => he (by subst h; rfl), hf.drew⟩
    · simp [hu, h1]
      refine hK _ _ ⟨?_, hf⟩
      rw [List.take_of_length_le (by omega), List.take_of_length_le (by omega)] at ht
      simp [ht]
  · simp [hl]
    exact hK _ _ ⟨by simp; exact fun h => hl (by rw [h]), Fr.refl _ _⟩
end Go.Proofs
