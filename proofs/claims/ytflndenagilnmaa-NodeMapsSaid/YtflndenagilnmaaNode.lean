/-
  node: keyRight, valueRight, rises, shaped, check, Check, Find, copied. Own work.
-/
import Derived.Test.YtflndenagilnmaaInsDel
import Derived.Test.YtflndenagilnmaaIdx
set_option linter.unusedVariables false
set_option linter.unusedSimpArgs false
set_option maxRecDepth 10000
namespace Go.Proofs
open Go Hx

def NodeS (w : World) (n : Value) (leaf : Bool) (ks vs : List ByteArray) (ds : List Int) : Prop :=
  ∃ k v d, n = .agg #[.bool leaf, k, v, d] ∧ StrS w k ks ∧ StrS w v vs ∧ IntS w d ds
theorem NodeS.mono0 {w w' : World} {n : Value} {leaf : Bool} {ks vs : List ByteArray} {ds : List Int} (h : NodeS w n leaf ks vs ds) (hf : Fr0 w w') : NodeS w' n leaf ks vs ds := by
  obtain ⟨k, v, d, rfl, h1, h2, h3⟩ := h
  exact ⟨k, v, d, rfl, h1.mono0 hf, h2.mono0 hf, h3.mono0 hf⟩
section
variable {K : Value → World → Prop} {w : World}
theorem IntS.len {v : Value} {xs : List Int} (h : IntS w v xs) : Rd Try.prog (Builtin.len_ #[25] 3 ⟨[v]⟩) K w = K (.int .i64 xs.length) w := by
  obtain ⟨A, c, rfl, _⟩ := h.out
  simp
theorem StrS.ix {v : Value} {xs : List ByteArray} (h : StrS w v xs) {k : IntKind} {i : Nat} (hi : i < xs.length) :
    ∃ p, Pu Try.prog (Instr.indexAt 24 v (.int k i)) K w = K (.pointer (some p)) w ∧ p.spot = none ∧ w.cell? p = some (.string xs[i]) := by
  obtain ⟨A, c, rfl, _, _, hA⟩ := h.out
  obtain ⟨b, o, rfl, hc⟩ := hA.resolve_left (by omega)
  refine ⟨⟨b, o + i, none⟩, ?_, rfl, hc i hi⟩
  simp [hi]
end

def kr (s : ByteArray) : Bool := decide (1 ≤ s.size) && decide (s.size ≤ 64)
def vr (s : ByteArray) : Bool := decide (s.size ≤ 64)
theorem keyRight_spec {w : World} {s : ByteArray} : Calls Try.prog 15 #[.string s] w (RetK fun r w' => r = .bool (kr s) ∧ w' = w) := by
  refine H15_in _ fun K hK => ?_
  unfold H15
  by_cases h : 1 ≤ s.size
  · have h' : (1 : Int) ≤ (s.size : Int) := by omega
    simp [h']
    refine hK _ _ ⟨?_, rfl⟩
    simp [kr, h]; omega
  · have h' : ¬ (1 : Int) ≤ (s.size : Int) := by omega
    simp [h']
    refine hK _ _ ⟨?_, rfl⟩
    simp [kr, h]
theorem valueRight_spec {w : World} {s : ByteArray} : Calls Try.prog 16 #[.string s] w (RetK fun r w' => r = .bool (vr s) ∧ w' = w) := by
  refine H16_in _ fun K hK => ?_
  unfold H16
  simp
  refine hK _ _ ⟨?_, rfl⟩
  simp [vr]; omega
theorem check1_ans (w : World) : AnsS w (.func (.func 41) #[] #[]) (fun s => !kr s) := fun s W K hW hK => by
  refine callv_41 (R := fun r w' => r = .bool (!kr s) ∧ w' = W) ?_ (by rintro v w' ⟨rfl, rfl⟩; exact hK _ (Fr.refl _ _))
  refine H41_in _ fun K hK => ?_
  unfold H41
  refine call_15 keyRight_spec ?_
  rintro v w' ⟨rfl, rfl⟩
  simp
  exact hK _ _ ⟨rfl, rfl⟩
theorem check2_ans (w : World) : AnsS w (.func (.func 42) #[] #[]) (fun s => !vr s) := fun s W K hW hK => by
  refine callv_42 (R := fun r w' => r = .bool (!vr s) ∧ w' = W) ?_ (by rintro v w' ⟨rfl, rfl⟩; exact hK _ (Fr.refl _ _))
  refine H42_in _ fun K hK => ?_
  unfold H42
  refine call_16 valueRight_spec ?_
  rintro v w' ⟨rfl, rfl⟩
  simp
  exact hK _ _ ⟨rfl, rfl⟩
def kidBad (k : Int) : Bool := decide (k < 0) || decide (4294967295 < k)
theorem check3_ans (w : World) : AnsI w (.func (.func 43) #[] #[]) kidBad := fun s W K hW hK => by
  refine callv_43 (R := fun r w' => r = .bool (kidBad s) ∧ w' = W) ?_ (by rintro v w' ⟨rfl, rfl⟩; exact hK _ (Fr.refl _ _))
  refine H43_in _ fun K hK => ?_
  unfold H43
  by_cases h : s < 0
  · simp [h]
    exact hK _ _ ⟨by simp [kidBad, h], rfl⟩
  · simp [h]
    exact hK _ _ ⟨by simp [kidBad, h], rfl⟩

/-- Strictly ascending, as the code asks it. -/
def risesB : List ByteArray → Bool
  | a :: b :: l => slt a b && risesB (b :: l)
  | _ => true
theorem risesB_iff : ∀ {xs : List ByteArray}, risesB xs = true ↔ ∀ i (h : i + 1 < xs.length), slt xs[i] xs[i + 1] = true
  | [] => by simp [risesB]
  | [a] => by simp [risesB]
  | a :: b :: l => by
    simp only [risesB, Bool.and_eq_true, risesB_iff (xs := b :: l)]
    constructor
    · rintro ⟨h1, h2⟩ i hi
      cases i with
      | zero => exact h1
      | succ i => exact h2 i (by simpa using hi)
    · intro h
      exact ⟨h 0 (by simp), fun i hi => h (i + 1) (by simpa using hi)⟩
theorem risesB_asc {xs : List ByteArray} : risesB xs = true ↔ Asc xs := by
  constructor
  · intro h
    rw [risesB_iff] at h
    unfold Asc
    rw [List.pairwise_iff_getElem]
    intro i j hi hj hij
    obtain ⟨d, rfl⟩ : ∃ d, j = i + 1 + d := ⟨j - i - 1, by omega⟩
    clear hij
    induction d with
    | zero => exact h i hj
    | succ d ih => exact slt_trans (ih (by omega)) (h (i + 1 + d) hj)
  · intro h
    rw [risesB_iff]
    intro i hi
    exact List.pairwise_iff_getElem.1 h i (i + 1) (by omega) hi (by omega)
theorem rises_spec {w : World} {v : Value} {xs : List ByteArray} (hv : StrS w v xs) : Calls Try.prog 47 #[v] w (RetK fun r w' => r = .bool (risesB xs) ∧ Fr0 w w') := by
  obtain ⟨A, c, rfl, hc, hm, hA⟩ := hv.out
  refine H47_in _ fun K hK => ?_
  unfold H47
  refine loopN (fun u w' => ∃ k : Nat, u 0 = .int .i64 ((k + 1 : Nat) : Int) ∧ (k = 0 ∨ k + 1 ≤ xs.length) ∧ (∀ i (hi : i < k) (h : i + 1 < xs.length), slt xs[i] xs[i + 1] = true) ∧ Fr0 w w') (fun u _ => xs.length - natOf (u 0)) ⟨0, rfl, .inl rfl, fun i hi => by omega, Fr.refl _ _⟩ ?_
  rintro u junk w1 nx ⟨k, hu, hk, ht, hf⟩ hnx
  unfold H47_1
  by_cases h1 : k + 1 < xs.length
  · obtain ⟨b, o, rfl, hcA⟩ := hA.resolve_left (by omega)
    have hk1 := hf.cellS (hcA k (by omega)) (fun h => h)
    have hk2 := hf.cellS (hcA (k + 1) h1) (fun h => h)
    have e1 : IntKind.i64.wrap (((k + 1 : Nat) : Int) - 1) = (k : Int) := by rw [wrap_i64] <;> omega
    have e2 : IntKind.i64.wrap (((k + 1 : Nat) : Int) + 1) = ((k + 1 + 1 : Nat) : Int) := by rw [wrap_i64] <;> omega
    have h1' : k < xs.length := by omega
    simp only [hu, ln_24, Pu_lss, Int.ofNat_lt, h1, decide_true, iteE_true, drw_eq, Pu_sub, e1, ixn_24, h1', ld_9, World.cell?_drew, hk1, hk2, optK_some, Pu_sgeq]
    cases hs : slt xs[k] xs[k + 1] with
    | false =>
      simp
      refine hK _ _ ⟨?_, hf.drew⟩
      cases hr : risesB xs with
      | false => rfl
      | true => have := risesB_iff.1 hr k h1; rw [hs] at this; cases this
    | true =>
      simp only [Bool.not_true, iteE_false, Pu_add, e2]
      refine hnx _ _ ⟨k + 1, rfl, by omega, fun i hi hx => ?_, hf.drew⟩ (by simp [hu]; omega)
      by_cases h2 : i < k
      · exact ht i h2 hx
      · have : i = k := by omega
        subst this; exact hs
  · simp only [hu, ln_24, Pu_lss, Int.ofNat_lt, h1, decide_false, iteE_false, retH_nil]
    refine hK _ _ ⟨?_, hf⟩
    rw [risesB_iff.2 fun i hi => ht i (by omega) hi]
end Go.Proofs
