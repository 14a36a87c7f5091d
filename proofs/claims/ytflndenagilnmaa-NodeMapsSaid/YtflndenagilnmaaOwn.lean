/-
  Slices of strings of one's own: append, parts, literals; slices.Clone, Delete, Insert. Own work.
-/
import Derived.Test.YtflndenagilnmaaStr
set_option linter.unusedVariables false
set_option linter.unusedSimpArgs false
namespace Go.Proofs
open Go Hx

def OwnS (w : World) (v : Value) (xs : List ByteArray) : Prop := Own w 9 1 xs.length v (xs.map .string)
/-- Whatever block it has is new. -/
def NewB (w : World) (v : Value) : Prop := ∀ k, blkOf v = some k → w.heap.size ≤ k
/-- The block of v. -/
abbrev isB (v : Value) : Nat → Prop := fun k => blkOf v = some k
theorem NewB.from {S : Nat → Prop} {a b : World} {v : Value} (h : NewB b v) (hf : Fr S a b) : NewB a v := fun k hk => Nat.le_trans hf.size (h k hk)
theorem one_str (xs : List ByteArray) : ∀ u ∈ xs.map Value.string, u.oneCell' = true := by
  intro u hu
  obtain ⟨s, _, rfl⟩ := List.mem_map.1 hu
  rfl
theorem OwnS.str {w : World} {v : Value} {xs : List ByteArray} (h : OwnS w v xs) (hm : xs.length ≤ 140737488355328) : StrS w v xs := Own.sl h hm
theorem OwnS.mono {S : Nat → Prop} {w w' : World} {v : Value} {xs : List ByteArray} (h : OwnS w v xs) (hf : Fr S w w') (hs : ∀ g, blkOf v = some g → ¬ S g) : OwnS w' v xs := Own.mono h hf hs
theorem OwnS.mono0 {w w' : World} {v : Value} {xs : List ByteArray} (h : OwnS w v xs) (hf : Fr0 w w') : OwnS w' v xs := Own.mono0 h hf
theorem OwnS.drew {w : World} {v : Value} {xs : List ByteArray} (h : OwnS w v xs) : OwnS w.drew v xs := Own.drew h
theorem OwnS.nil (w : World) : OwnS w (.slice none 0 0) [] := Own.nil _ _ _
theorem OwnS.lt {w : World} {v : Value} {xs : List ByteArray} (h : OwnS w v xs) {g : Nat} (hg : blkOf v = some g) : g < w.heap.size := Own.lt h hg
theorem OwnS.empty (w : World) : OwnS (w.alloc (.cells #[] 9)) (.slice (some ⟨w.heap.size, 0, none⟩) 0 0) [] := by
  have := Own.new (w := w) (e := 9) (sz := 1) [] 0 0 [] rfl (by omega) (by decide) rfl
  exact this
theorem OwnS.one (w : World) (s : ByteArray) : OwnS (w.alloc (.cells #[.string s] 9)) (.slice (some ⟨w.heap.size, 0, none⟩) 1 1) [s] := by
  have := Own.new (w := w) (e := 9) (sz := 1) [.string s] 1 1 [.string s] rfl (by omega) (by decide) rfl
  exact this
theorem blkOf_sub {A : Option Addr} {c l d n m c' c'' : Nat} : blkOf (.slice (if c = l then A else A.map (·.add d)) n c') = blkOf (.slice A m c'') := by
  split
  · cases A <;> rfl
  · cases A with
    | none => rfl
    | some a => simp [Addr.add]; split <;> rfl
section
variable {K : Value → World → Prop} {w : World}
theorem StrS.mono {S : Nat → Prop} {w w' : World} {v : Value} {xs : List ByteArray} (h : StrS w v xs) (hf : Fr S w w') (hs : ∀ g, blkOf v = some g → ¬ S g) : StrS w' v xs := Sl.mono h hf fun a n c hv => hs _ (by rw [hv]; rfl)
theorem StrS.len {v : Value} {xs : List ByteArray} (h : StrS w v xs) : Rd Try.prog (Builtin.len_ #[24] 3 ⟨[v]⟩) K w = K (.int .i64 xs.length) w := by
  obtain ⟨A, c, rfl, _⟩ := h.out
  simp
theorem app_S {v x : Value} {xs ys : List ByteArray} (hO : OwnS w v xs) (hX : StrS w x ys) (hfit : (xs.length + ys.length) * 16 ≤ 140737488355328)
    (h : ∀ v' w', OwnS w' v' (xs ++ ys) → Fr (isB v) w w' → (∀ k, blkOf v' = some k → blkOf v = some k ∨ w.heap.size ≤ k) → K v' w') :
    Rr Try.prog (Builtin.append_ #[24, 24] 24 ⟨[v, x]⟩) K w := by
  refine ap_24_24 hO hX (m := ys.length) (by simp) (one_str ys) hfit (by omega) fun v' w' h1 h2 h3 => h v' w' ?_ h2 h3
  unfold OwnS
  simpa using h1
/-- x[k:] -/
theorem from_S {x : Value} {xs : List ByteArray} {k : Nat} {ik : IntKind} {i : Int} (hX : StrS w x xs) (hi : i = k) (hk : k ≤ xs.length) (h : ∀ v, StrS w v (xs.drop k) → (∀ g, blkOf v = some g → blkOf x = some g) → K v w) :
    Pu Try.prog (Instr.sliceAt 24 x (some (.int ik i)) none none) K w := by
  obtain ⟨A, c, rfl, hc, hm, hA⟩ := hX.out
  rw [sl_24 k xs.length c (.none _ _) (.none _ _) (.some hi hk) (.inl rfl)]
  refine h _ ?_ ?_
  · have := Sl.sub (l := k) (k := xs.length) hX hk (Nat.le_refl _)
    rw [show (xs.map Value.string).take (xs.length * 1) = xs.map Value.string from List.take_of_length_le (by simp)] at this
    simpa [StrS, List.map_drop] using this
  · intro g hg; rw [← hg]; exact blkOf_sub.symm
/-- x[:k] -/
theorem to_S {x : Value} {xs : List ByteArray} {k : Nat} {ik : IntKind} {i : Int} (hX : StrS w x xs) (hi : i = k) (hk : k ≤ xs.length) (h : ∀ v, StrS w v (xs.take k) → (∀ g, blkOf v = some g → blkOf x = some g) → K v w) :
    Pu Try.prog (Instr.sliceAt 24 x none (some (.int ik i)) none) K w := by
  obtain ⟨A, c, rfl, hc, hm, hA⟩ := hX.out
  rw [sl_24 0 k c (.none _ _) (.some hi (by omega)) (.none _ _) (.inl rfl)]
  refine h _ ?_ ?_
  · have := Sl.sub (l := 0) (k := k) hX (by omega) hk
    simpa [StrS, List.map_take] using this
  · intro g hg; rw [← hg]; exact blkOf_sub.symm
end

theorem CloneS {w : World} {v : Value} {xs : List ByteArray} (hv : StrS w v xs) (hfit : xs.length * 16 ≤ 140737488355328) :
    Calls Try.prog 31 #[v] w (RetK fun r w' => OwnS w' r xs ∧ Fr0 w w' ∧ NewB w r) := by
  obtain ⟨A, c, rfl, hc, hm, hA⟩ := hv.out
  refine H31_in _ fun K hK => ?_
  unfold H31
  cases A with
  | none =>
    have : xs = [] := by
      rcases hA with h | ⟨b, o, h, _⟩
      · exact List.length_eq_zero_iff.1 h
      · cases h
    subst this
    simp
    exact hK _ _ ⟨OwnS.nil _, Fr.refl _ _, fun k hk => by simp at hk⟩
  | some a =>
    simp
    have hf0 : Fr0 w (w.alloc (.cells #[] 9)) := (Fr.refl _ w).alloc _
    refine app_S (OwnS.empty w) (hv.mono0 hf0) (by simpa using hfit) fun v' w' h1 h2 h3 => ?_
    refine hK _ _ ⟨by simpa using h1, ?_, ?_⟩
    · refine hf0.step h2 fun k hk hb => ?_
      simp [isB] at hb; omega
    · intro k hk
      have hs := hf0.size
      rcases h3 k hk with h | h
      · simp at h; omega
      · omega
end Go.Proofs
