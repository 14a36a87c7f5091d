/-
  slices.IndexFunc, slices.ContainsFunc at strings and at ints; sort.Search. Own work.
-/
import Derived.Test.YtflndenagilnmaaStr
set_option linter.unusedVariables false
set_option linter.unusedSimpArgs false
namespace Go.Proofs
open Go Hx

/-- A function value that answers p of a string, and makes at most new memory. -/
def AnsS (w : World) (fv : Value) (p : ByteArray → Bool) : Prop :=
  ∀ (s : ByteArray) (W : World) (K : Value → World → Prop), Fr0 w W → (∀ W', Fr0 W W' → K (.bool (p s)) W') → Cv Try.prog fv #[.string s] K W
def AnsI (w : World) (fv : Value) (p : Int → Bool) : Prop :=
  ∀ (s : Int) (W : World) (K : Value → World → Prop), Fr0 w W → (∀ W', Fr0 W W' → K (.bool (p s)) W') → Cv Try.prog fv #[.int .i64 s] K W
def idxV (o : Option Nat) : Value := .int .i64 (match o with | some i => i | none => -1)
theorem AnsS.mono {w w' : World} {fv : Value} {p : ByteArray → Bool} (h : AnsS w fv p) (hf : Fr0 w w') : AnsS w' fv p := fun s W K hW => h s W K (hf.trans hW)
theorem AnsI.mono {w w' : World} {fv : Value} {p : Int → Bool} (h : AnsI w fv p) (hf : Fr0 w w') : AnsI w' fv p := fun s W K hW => h s W K (hf.trans hW)

theorem findIdx_none {α : Type} {p : α → Bool} {xs : List α} (h : ∀ i (hi : i < xs.length), p xs[i] = false) : xs.findIdx? p = none := by
  rw [List.findIdx?_eq_none_iff]
  intro x hx
  obtain ⟨i, hi, rfl⟩ := List.mem_iff_getElem.1 hx
  simpa using h i hi
theorem findIdx_some {α : Type} {p : α → Bool} {xs : List α} {k : Nat} (hk : k < xs.length) (hp : p xs[k] = true) (h : ∀ i (hi : i < k), p (xs[i]'(by omega)) = false) : xs.findIdx? p = some k := by
  rw [List.findIdx?_eq_some_iff_getElem]
  exact ⟨hk, by simpa using hp, fun j hj => by simpa using h j hj⟩

theorem IndexFuncS {w : World} {v fv : Value} {xs : List ByteArray} {p : ByteArray → Bool} (hv : StrS w v xs) (hp : AnsS w fv p) :
    Calls Try.prog 49 #[v, fv] w (RetK fun r w' => r = idxV (xs.findIdx? p) ∧ Fr0 w w') := by
  obtain ⟨A, c, rfl, hc, hm, hA⟩ := hv.out
  refine H49_in _ _ fun K hK => ?_
  unfold H49
  simp
  refine loopN (fun u w' => ∃ k : Nat, u 0 = .int .i64 k ∧ k ≤ xs.length ∧ (∀ i (hi : i < k) (hx : i < xs.length), p xs[i] = false) ∧ Fr0 w w') (fun u _ => xs.length - natOf (u 0)) ?_ ?_
  · exact ⟨0, rfl, by omega, fun i hi => by omega, Fr.refl _ _⟩
  · rintro u junk w1 nx ⟨k, hu, hk, ht, hf⟩ hnx
    unfold H49_1
    by_cases h1 : k < xs.length
    · obtain ⟨b, o, rfl, hcA⟩ := hA.resolve_left (by omega)
      have hk1 := hf.cellS (hcA k h1) (fun h => h)
      simp [hu, h1, hk1]
      refine hp xs[k] w1 _ hf fun W' hW => ?_
      cases hpx : p xs[k] with
      | true =>
        simp [hu]
        refine hK _ _ ⟨?_, hf.trans hW⟩
        rw [findIdx_some h1 hpx fun i hi => ht i hi (by omega)]
        rfl
      | false =>
        simp
        rw [wrap_i64 (by omega) (by omega)]
        refine hnx _ _ ⟨k + 1, rfl, by omega, fun i hi hx => ?_, hf.trans hW⟩ (by simp [hu]; omega)
        by_cases h2 : i < k
        · exact ht i h2 hx
        · have : i = k := by omega
          subst this; exact hpx
    · simp [hu, h1]
      refine hK _ _ ⟨?_, hf⟩
      rw [findIdx_none fun i hi => ht i (by omega) hi]
      rfl
theorem any_findIdx {α : Type} {p : α → Bool} {xs : List α} : (match xs.findIdx? p with | some i => (i : Int) | none => -1) ≥ 0 ↔ xs.any p = true := by
  cases h : xs.findIdx? p with
  | none =>
    rw [List.findIdx?_eq_none_iff] at h
    simp only [ge_iff_le, List.any_eq_true]
    constructor
    · intro h0; omega
    · rintro ⟨x, hx, hp⟩; rw [h x hx] at hp; cases hp
  | some i =>
    rw [List.findIdx?_eq_some_iff_getElem] at h
    obtain ⟨hi, hp, _⟩ := h
    simp only [ge_iff_le, List.any_eq_true]
    exact ⟨fun _ => ⟨xs[i], List.getElem_mem _, hp⟩, fun _ => by omega⟩
theorem ContainsFuncS {w : World} {v fv : Value} {xs : List ByteArray} {p : ByteArray → Bool} (hv : StrS w v xs) (hp : AnsS w fv p) :
    Calls Try.prog 44 #[v, fv] w (RetK fun r w' => r = .bool (xs.any p) ∧ Fr0 w w') := by
  refine H44_in _ _ fun K hK => ?_
  unfold H44
  refine call_49 (IndexFuncS hv hp) ?_
  rintro r w' ⟨rfl, hf⟩
  simp [idxV]
  refine hK _ _ ⟨?_, hf⟩
  rw [Value.bool.injEq, Bool.eq_iff_iff, decide_eq_true_iff]
  exact any_findIdx

theorem IndexFuncI {w : World} {v fv : Value} {xs : List Int} {p : Int → Bool} (hv : IntS w v xs) (hp : AnsI w fv p) :
    Calls Try.prog 50 #[v, fv] w (RetK fun r w' => r = idxV (xs.findIdx? p) ∧ Fr0 w w') := by
  obtain ⟨A, c, rfl, hc, hm, hA⟩ := hv.out
  refine H50_in _ _ fun K hK => ?_
  unfold H50
  simp
  refine loopN (fun u w' => ∃ k : Nat, u 0 = .int .i64 k ∧ k ≤ xs.length ∧ (∀ i (hi : i < k) (hx : i < xs.length), p xs[i] = false) ∧ Fr0 w w') (fun u _ => xs.length - natOf (u 0)) ?_ ?_
  · exact ⟨0, rfl, by omega, fun i hi => by omega, Fr.refl _ _⟩
  · rintro u junk w1 nx ⟨k, hu, hk, ht, hf⟩ hnx
    unfold H50_1
    by_cases h1 : k < xs.length
    · obtain ⟨b, o, rfl, hcA⟩ := hA.resolve_left (by omega)
      have hk1 := hf.cellS (hcA k h1) (fun h => h)
      simp [hu, h1, hk1]
      refine hp xs[k] w1 _ hf fun W' hW => ?_
      cases hpx : p xs[k] with
      | true =>
        simp [hu]
        refine hK _ _ ⟨?_, hf.trans hW⟩
        rw [findIdx_some h1 hpx fun i hi => ht i hi (by omega)]
        rfl
      | false =>
        simp
        rw [wrap_i64 (by omega) (by omega)]
        refine hnx _ _ ⟨k + 1, rfl, by omega, fun i hi hx => ?_, hf.trans hW⟩ (by simp [hu]; omega)
        by_cases h2 : i < k
        · exact ht i h2 hx
        · have : i = k := by omega
          subst this; exact hpx
    · simp [hu, h1]
      refine hK _ _ ⟨?_, hf⟩
      rw [findIdx_none fun i hi => ht i (by omega) hi]
      rfl
theorem ContainsFuncI {w : World} {v fv : Value} {xs : List Int} {p : Int → Bool} (hv : IntS w v xs) (hp : AnsI w fv p) :
    Calls Try.prog 46 #[v, fv] w (RetK fun r w' => r = .bool (xs.any p) ∧ Fr0 w w') := by
  refine H46_in _ _ fun K hK => ?_
  unfold H46
  refine call_50 (IndexFuncI hv hp) ?_
  rintro r w' ⟨rfl, hf⟩
  simp [idxV]
  refine hK _ _ ⟨?_, hf⟩
  rw [Value.bool.injEq, Bool.eq_iff_iff, decide_eq_true_iff]
  exact any_findIdx

/-- sort.Search: the first place from which on q holds. -/
theorem Search_spec {w : World} {fv : Value} {n : Nat} (q : Nat → Bool) (hn : n ≤ 140737488355328) (hq : ∀ i j, i ≤ j → j < n → q i = true → q j = true)
    (hp : ∀ (i : Nat) (W : World) (K : Value → World → Prop), i < n → Fr0 w W → (∀ W', Fr0 W W' → K (.bool (q i)) W') → Cv Try.prog fv #[.int .i64 i] K W) :
    Calls Try.prog 27 #[.int .i64 n, fv] w (RetK fun r w' => (∃ k : Nat, r = .int .i64 k ∧ k ≤ n ∧ (∀ i, i < k → q i = false) ∧ (∀ i, k ≤ i → i < n → q i = true)) ∧ Fr0 w w') := by
  refine H27_in _ _ fun K hK => ?_
  unfold H27
  refine loopN (fun u w' => ∃ i j : Nat, u 0 = .int .i64 i ∧ u 1 = .int .i64 j ∧ i ≤ j ∧ j ≤ n ∧ (∀ k, k < i → q k = false) ∧ (∀ k, j ≤ k → k < n → q k = true) ∧ Fr0 w w') (fun u _ => natOf (u 1) - natOf (u 0)) ?_ ?_
  · exact ⟨0, n, rfl, rfl, by omega, by omega, fun k hk => by omega, fun k hk => by omega, Fr.refl _ _⟩
  · rintro u junk w1 nx ⟨i, j, hu, hu1, hij, hj, h1, h2, hf⟩ hnx
    unfold H27_1
    by_cases hlt : i < j
    · have e1 : IntKind.i64.wrap ((i : Int) + j) = ((i + j : Nat) : Int) := by rw [wrap_i64] <;> omega
      have e2 : IntKind.u64.wrap ((i + j : Nat) : Int) = ((i + j : Nat) : Int) := by rw [wrap_u64] <;> omega
      have e3 : (((i + j : Nat) : Int).fdiv 2) = (((i + j) / 2 : Nat) : Int) := by
        rw [Int.fdiv_eq_ediv_of_nonneg _ (by omega)]; omega
      have e4 : IntKind.i64.wrap (((i + j) / 2 : Nat) : Int) = (((i + j) / 2 : Nat) : Int) := by rw [wrap_i64] <;> omega
      have hm : (i + j) / 2 < n := by omega
      have hm1 : i ≤ (i + j) / 2 := by omega
      have hm2 : (i + j) / 2 < j := by omega
      simp only [hu, hu1, Pu_lss, Int.ofNat_lt, hlt, decide_true, iteE_true, Pu_add, e1]
      simp only [cv_3_75, e2, Pu_shr (show (0 : Int) ≤ 1 by omega)]
      simp only [show (2 ^ (min (1 : Int).toNat IntKind.u64.bits) : Int) = 2 from rfl, e3, cv_75_3, e4]
      generalize (i + j) / 2 = m at *
      refine hp _ w1 _ hm hf fun W' hW => ?_
      cases hqx : q m with
      | true =>
        simp [hu]
        exact hnx _ _ ⟨i, m, rfl, rfl, by omega, by omega, h1, fun k hk hkn => hq _ _ hk hkn hqx, hf.trans hW⟩ (by simp [hu, hu1]; omega)
      | false =>
        simp [hu1]
        rw [wrap_i64 (by omega) (by omega)]
        refine hnx _ _ ⟨m + 1, j, rfl, rfl, by omega, by omega, fun k hk => ?_, h2, hf.trans hW⟩ (by simp [hu, hu1]; omega)
        cases hqk : q k with
        | false => rfl
        | true => have := hq k m (by omega) hm hqk; rw [hqx] at this; cases this
    · simp [hu, hu1, hlt]
      have : i = j := by omega
      subst this
      exact hK _ _ ⟨⟨i, rfl, by omega, h1, h2⟩, hf⟩
end Go.Proofs
