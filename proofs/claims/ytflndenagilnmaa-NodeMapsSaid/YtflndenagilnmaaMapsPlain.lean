/-
  The plain law of NodeMaps: sorted keys, put into and removed from. Own work.
-/
import Derived.Test.YtflndenagilnmaaLives
set_option linter.unusedVariables false
set_option linter.unusedSimpArgs false
namespace Go.Proofs
open Go Hx

theorem takeWhile_get {α : Type} {p : α → Bool} : ∀ {xs : List α} {i : Nat} (h : i < (xs.takeWhile p).length) (h' : i < xs.length), p xs[i] = true
  | [], i, h, h' => by simp at h'
  | x :: xs, i, h, h' => by
    cases hp : p x with
    | false => simp [List.takeWhile_cons, hp] at h
    | true =>
      cases i with
      | zero => simpa using hp
      | succ i =>
        simp only [List.takeWhile_cons, hp, if_true, List.length_cons] at h
        have := takeWhile_get (p := p) (xs := xs) (i := i) (by omega) (by simpa using h')
        simpa using this
theorem takeWhile_stop {α : Type} {p : α → Bool} : ∀ {xs : List α} (h : (xs.takeWhile p).length < xs.length), p xs[(xs.takeWhile p).length] = false
  | [], h => by simp at h
  | x :: xs, h => by
    cases hp : p x with
    | false => simp [List.takeWhile_cons, hp]
    | true =>
      simp only [List.takeWhile_cons, hp, if_true, List.length_cons] at h ⊢
      have := takeWhile_stop (xs := xs) (p := p) (by omega)
      simpa using this
theorem lows_lt {xs : List ByteArray} {key : ByteArray} {i : Nat} (h : i < lows xs key) (h' : i < xs.length) : slt xs[i] key = true := takeWhile_get (p := fun s => slt s key) h h'
theorem lows_stop {xs : List ByteArray} {key : ByteArray} (h : lows xs key < xs.length) : slt xs[lows xs key] key = false := takeWhile_stop (p := fun s => slt s key) h
/-- Ascending keys, values beside them, all of them right. -/
structure Good (ks vs : List ByteArray) : Prop where
  asc : Asc ks
  len : vs.length = ks.length
  kr : ∀ s ∈ ks, kr s = true
  vr : ∀ s ∈ vs, vr s = true
theorem Good.nil : Good [] [] := ⟨List.Pairwise.nil, rfl, (fun _ h => by cases h), (fun _ h => by cases h)⟩
theorem Good.chk {ks vs : List ByteArray} (h : Good ks vs) : chk true ks vs [] false = 0 := by
  have h1 : ks.any (fun s => !Proofs.kr s) = false := by simp; exact fun x hx => h.kr x hx
  have h2 : vs.any (fun s => !Proofs.vr s) = false := by simp; exact fun x hx => h.vr x hx
  have h3 : shp true ks vs [] false = true := by simp [shp, h.len]
  have h4 := risesB_asc.2 h.asc
  unfold Proofs.chk
  rw [h1, h2, h3, h4]
  rfl
theorem putK_length {ks : List ByteArray} {key : ByteArray} : (putK ks key).length ≤ ks.length + 1 := by
  unfold putK
  split
  · omega
  · have := lows_le ks key; simp; omega
theorem Good.put {ks vs : List ByteArray} {key value : ByteArray} (h : Good ks vs) (hk : Proofs.kr key = true) (hv : Proofs.vr value = true) : Good (putK ks key) (putV ks vs key value) := by
  have hl := lows_le ks key
  unfold putK putV
  by_cases his : ks[lows ks key]? = some key
  · rw [if_pos his, if_pos his]
    refine ⟨h.asc, by simpa using h.len, h.kr, fun s hs => ?_⟩
    rcases List.mem_or_eq_of_mem_set hs with hs | rfl
    · exact h.vr s hs
    · exact hv
  · rw [if_neg his, if_neg his]
    refine ⟨?_, by simp [h.len], ?_, ?_⟩
    · unfold Asc
      rw [List.append_assoc, List.pairwise_append]
      refine ⟨h.asc.sublist (List.take_sublist _ _), ?_, ?_⟩
      · rw [List.singleton_append, List.pairwise_cons]
        refine ⟨fun b hb => ?_, h.asc.sublist (List.drop_sublist _ _)⟩
        obtain ⟨j, hj, rfl⟩ := List.mem_iff_getElem.1 hb
        have hj' : lows ks key + j < ks.length := by simp at hj; omega
        have hlt : lows ks key < ks.length := by omega
        have h1 : slt key ks[lows ks key] = true := slt_of_not (lows_stop hlt) fun he => his (by rw [List.getElem?_eq_getElem hlt, he])
        rw [List.getElem_drop]
        rcases Nat.eq_zero_or_pos j with rfl | hjp
        · simpa using h1
        · exact slt_trans h1 (asc_lt h.asc hj' (by omega))
      · intro a ha b hb
        obtain ⟨i, hi, rfl⟩ := List.mem_iff_getElem.1 ha
        have hi' : i < lows ks key := by simp at hi; omega
        have hi2 : i < ks.length := by omega
        have h1 : slt ks[i] key = true := lows_lt hi' hi2
        rw [List.getElem_take]
        simp only [List.singleton_append, List.mem_cons] at hb
        rcases hb with rfl | hb
        · exact h1
        · obtain ⟨j, hj, rfl⟩ := List.mem_iff_getElem.1 hb
          have hj' : lows ks key + j < ks.length := by simp at hj; omega
          rw [List.getElem_drop]
          exact asc_lt h.asc hj' (by omega)
    · intro s hs
      simp only [List.mem_append, List.mem_singleton] at hs
      rcases hs with (hs | rfl) | hs
      · exact h.kr s (List.mem_of_mem_take hs)
      · exact hk
      · exact h.kr s (List.mem_of_mem_drop hs)
    · intro s hs
      simp only [List.mem_append, List.mem_singleton] at hs
      rcases hs with (hs | rfl) | hs
      · exact h.vr s (List.mem_of_mem_take hs)
      · exact hv
      · exact h.vr s (List.mem_of_mem_drop hs)
theorem remL_length {α : Type} {ks : List ByteArray} {key : ByteArray} {xs : List α} : (remL ks key xs).length ≤ xs.length := by
  unfold remL
  split
  · simp; omega
  · omega
theorem Good.rem {ks vs : List ByteArray} {key : ByteArray} (h : Good ks vs) : Good (remL ks key ks) (remL ks key vs) := by
  unfold remL
  by_cases his : ks[lows ks key]? = some key
  · rw [if_pos his, if_pos his]
    refine ⟨?_, by simp [h.len], ?_, ?_⟩
    · have h1 : (ks.take (lows ks key) ++ ks.drop (lows ks key + 1)).Sublist ks := by
        have : (ks.take (lows ks key) ++ ks.drop (lows ks key + 1)).Sublist (ks.take (lows ks key) ++ ks.drop (lows ks key)) := by
          refine List.Sublist.append (List.Sublist.refl _) ?_
          rw [← List.drop_drop]
          exact List.drop_sublist _ _
        rwa [List.take_append_drop] at this
      exact h.asc.sublist h1
    · intro s hs
      rcases List.mem_append.1 hs with hs | hs
      · exact h.kr s (List.mem_of_mem_take hs)
      · exact h.kr s (List.mem_of_mem_drop hs)
    · intro s hs
      rcases List.mem_append.1 hs with hs | hs
      · exact h.vr s (List.mem_of_mem_take hs)
      · exact h.vr s (List.mem_of_mem_drop hs)
  · rw [if_neg his, if_neg his]
    exact h
end Go.Proofs
