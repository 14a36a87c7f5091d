/-
  Slices of strings, of whole numbers; strings in order. Own work.
-/
import Derived.Test.YtflndenagilnmaaH0
import Derived.Test.YtflndenagilnmaaH1
import Derived.Test.YtflndenagilnmaaT
set_option linter.unusedVariables false
set_option linter.unusedSimpArgs false
namespace Go.Proofs
open Go Hx

/-- A slice of strings that reads as xs. -/
def StrS (w : World) (v : Value) (xs : List ByteArray) : Prop := Sl w 1 v (xs.map .string)
theorem StrS.mono0 {w w' : World} {v : Value} {xs : List ByteArray} (h : StrS w v xs) (hf : Fr0 w w') : StrS w' v xs := Sl.mono0 h hf
theorem StrS.out {w : World} {v : Value} {xs : List ByteArray} (h : StrS w v xs) : ∃ A c, v = .slice A xs.length c ∧ xs.length ≤ c ∧ xs.length ≤ 140737488355328 ∧ (xs.length = 0 ∨ ∃ b o, A = some ⟨b, o, none⟩ ∧ ∀ j (hj : j < xs.length), w.cell? ⟨b, o + j, none⟩ = some (.string xs[j])) := by
  obtain ⟨A, n, c, rfl, hl, hc, hm, h⟩ := h
  have hn : n = xs.length := by simpa using hl.symm
  subst hn
  refine ⟨A, c, rfl, hc, hm, ?_⟩
  rcases h with h | ⟨b, o, hA, h⟩
  · exact .inl h
  · exact .inr ⟨b, o, hA, fun j hj => h j _ (by simp [hj])⟩

/-- A slice of ints that reads as xs. -/
def IntS (w : World) (v : Value) (xs : List Int) : Prop := Sl w 1 v (xs.map (.int .i64))
theorem IntS.mono0 {w w' : World} {v : Value} {xs : List Int} (h : IntS w v xs) (hf : Fr0 w w') : IntS w' v xs := Sl.mono0 h hf
theorem IntS.out {w : World} {v : Value} {xs : List Int} (h : IntS w v xs) : ∃ A c, v = .slice A xs.length c ∧ xs.length ≤ c ∧ xs.length ≤ 140737488355328 ∧ (xs.length = 0 ∨ ∃ b o, A = some ⟨b, o, none⟩ ∧ ∀ j (hj : j < xs.length), w.cell? ⟨b, o + j, none⟩ = some (.int .i64 xs[j])) := by
  obtain ⟨A, n, c, rfl, hl, hc, hm, h⟩ := h
  have hn : n = xs.length := by simpa using hl.symm
  subst hn
  refine ⟨A, c, rfl, hc, hm, ?_⟩
  rcases h with h | ⟨b, o, hA, h⟩
  · exact .inl h
  · exact .inr ⟨b, o, hA, fun j hj => h j _ (by simp [hj])⟩

/-! ### The order of strings -/
theorem bl_irrefl : ∀ x : List UInt8, Op.bytesLess x x = false
  | [] => rfl
  | a :: x => by simp [Op.bytesLess, bl_irrefl x]
theorem bl_trans : ∀ {x y z : List UInt8}, Op.bytesLess x y = true → Op.bytesLess y z = true → Op.bytesLess x z = true
  | _, [], z, h, _ => by cases ‹List UInt8› <;> simp [Op.bytesLess] at h
  | _, _ :: _, [], _, h => by simp [Op.bytesLess] at h
  | [], b :: y, c :: z, _, _ => rfl
  | a :: x, b :: y, c :: z, h1, h2 => by
    simp only [Op.bytesLess, Bool.or_eq_true, Bool.and_eq_true, decide_eq_true_eq, beq_iff_eq] at h1 h2 ⊢
    rcases h1 with h1 | ⟨rfl, h1⟩
    · rcases h2 with h2 | ⟨rfl, h2⟩
      · exact .inl (UInt8.lt_trans h1 h2)
      · exact .inl h1
    · rcases h2 with h2 | ⟨rfl, h2⟩
      · exact .inl h2
      · exact .inr ⟨rfl, bl_trans h1 h2⟩
theorem bl_tri : ∀ {x y : List UInt8}, Op.bytesLess x y = false → Op.bytesLess y x = false → x = y
  | [], [], _, _ => rfl
  | [], _ :: _, h, _ => by simp [Op.bytesLess] at h
  | _ :: _, [], _, h => by simp [Op.bytesLess] at h
  | a :: x, b :: y, h1, h2 => by
    simp only [Op.bytesLess, Bool.or_eq_false_iff, Bool.and_eq_false_imp, decide_eq_false_iff_not, beq_iff_eq] at h1 h2
    have hab : a = b := UInt8.le_antisymm (UInt8.not_lt.1 h2.1) (UInt8.not_lt.1 h1.1)
    subst hab
    rw [bl_tri (h1.2 rfl) (h2.2 rfl)]
theorem slt_irrefl (x : ByteArray) : slt x x = false := bl_irrefl _
theorem slt_trans {x y z : ByteArray} (h1 : slt x y = true) (h2 : slt y z = true) : slt x z = true := bl_trans h1 h2
theorem slt_tri {x y : ByteArray} (h1 : slt x y = false) (h2 : slt y x = false) : x = y := by
  have := bl_tri h1 h2
  have h := ba_beq x y
  rw [this] at h
  simpa using h.symm
theorem slt_asym {x y : ByteArray} (h : slt x y = true) : slt y x = false := by
  cases h2 : slt y x with
  | false => rfl
  | true => have := slt_trans h h2; rw [slt_irrefl] at this; cases this
theorem slt_of_not {x y : ByteArray} (h : slt x y = false) (hne : x ≠ y) : slt y x = true := by
  cases h2 : slt y x with
  | true => rfl
  | false => exact absurd (slt_tri h h2) hne
/-- Strictly ascending. -/
def Asc (xs : List ByteArray) : Prop := xs.Pairwise fun a b => slt a b = true
end Go.Proofs
