/-
  slices.Delete, slices.Insert at strings. Own work.
-/
import Derived.Test.YtflndenagilnmaaOwn
set_option linter.unusedVariables false
set_option linter.unusedSimpArgs false
namespace Go.Proofs
open Go Hx

theorem zeroS (n : Nat) : (Builtin.zeroCells (Value.cells (.string { data := #[] })) n).toList.length = n := by
  rw [show Value.cells (.string { data := #[] }) = #[.string { data := #[] }] from rfl, zeroCells_one]; simp
theorem DeleteS {w : World} {v : Value} {xs : List ByteArray} {i j : Nat} (hO : OwnS w v xs) (hij : i < j) (hj : j ≤ xs.length) (hm : xs.length ≤ 140737488355328) :
    Calls Try.prog 13 #[v, .int .i64 i, .int .i64 j] w (RetK fun r w' => OwnS w' r (xs.take i ++ xs.drop j) ∧ Fr (isB v) w w' ∧ (∀ k, blkOf r = some k → blkOf v = some k)) := by
  have hX := hO.str hm
  obtain ⟨hl, ⟨rfl, h0⟩ | ⟨g, cap, cs, rfl, hr, hn, ht⟩⟩ := hO
  · omega
  refine H13_in _ _ _ fun K hK => ?_
  unfold H13
  have hne : ¬ (i = j) := by omega
  simp
  rw [sl_24 i j xs.length (.some rfl hn) (.some rfl hj) (.some rfl (by omega)) (.inr (by simp))]
  simp [hne]
  rw [sl_24 0 i cap (.none _ _) (.some rfl (by omega)) (.none _ _) (.inl rfl)]
  have hXd : StrS w.drew (.slice (some ⟨g, 0, none⟩) xs.length cap) xs := hX.mono0 (Fr.refl _ w).drew
  refine from_S hXd rfl hj fun v2 hv2 _ => ?_
  have hcl : cs.length = cap := by simpa using hr.len
  simp
  rw [apr_24_24 (m := xs.length - j) (hr.drew) (by omega) hv2 (by simp) (one_str _)]
  simp
  have hlt : ¬ (cap = i + (xs.length - j)) := by omega
  rw [sl_24 (i + (xs.length - j)) xs.length cap (.none _ _) (.some rfl hn) (.some (by omega) (by omega)) (.inl rfl)]
  simp [hlt]
  rw [← List.map_drop]
  have hb1 := hr.blk.drew.setCells ((xs.drop j).map .string) i
  rw [cr_24 hb1 (by rw [setL_length]; omega)]
  refine hK _ _ ⟨?_, ?_, fun k hk => hk⟩
  · have hlen : (xs.take i ++ xs.drop j).length = i + (xs.length - j) := by simp; omega
    unfold OwnS
    rw [hlen]
    refine ⟨by simp; omega, .inr ⟨g, cap, _, rfl, ⟨hb1.setCells _ _, by rw [setL_length, setL_length]; exact hr.len, hr.max⟩, by omega, ?_⟩⟩
    apply List.ext_getElem?
    intro q
    rw [List.getElem?_take]
    by_cases hq : q < (i + (xs.length - j)) * 1
    · rw [if_pos hq, setL_get _ _ _ _ (by rw [setL_length, zeroS]; simp at hq; omega), if_neg (by omega), setL_get _ _ _ _ (by simp; omega)]
      have hcs : cs[q]? = if q < xs.length then (xs.map Value.string)[q]? else cs[q]? := by
        split
        · rename_i h
          rw [← ht, List.getElem?_take, if_pos (by omega)]
        · rfl
      by_cases h1 : q < i
      · rw [if_neg (by omega), hcs, if_pos (by omega), List.getElem?_map, List.getElem?_map, List.getElem?_append_left (by simp; omega), List.getElem?_take, if_pos h1]
      · rw [if_pos (by simp; omega), List.getElem?_map, List.getElem?_map, List.getElem?_append_right (by simp; omega)]
        simp [show min i xs.length = i by omega]
    · rw [if_neg hq, List.getElem?_eq_none (by simp; omega)]
  · exact Fr.setCells (S := isB _) (.inr rfl) _ _ (Fr.setCells (S := isB _) (.inr rfl) _ _ (Fr.refl _ w).drew)

set_option maxRecDepth 10000 in
theorem InsertS {w : World} {v x : Value} {xs ys : List ByteArray} {i : Nat} (hO : OwnS w v xs) (hY : OwnS w x ys) (hi : i ≤ xs.length) (hy : 0 < ys.length) (hfit : (xs.length + ys.length) * 16 ≤ 140737488355328)
    (hne : ∀ k, blkOf v = some k → blkOf x ≠ some k) :
    Calls Try.prog 17 #[v, .int .i64 i, x] w (RetK fun r w' => OwnS w' r (xs.take i ++ ys ++ xs.drop i) ∧ Fr (isB v) w w' ∧ (∀ k, blkOf r = some k → blkOf v = some k ∨ w.heap.size ≤ k)) := by
  have hX := hO.str (by omega)
  have hYs := hY.str (by omega)
  obtain ⟨A, c, rfl, hc, hm, hA⟩ := hX.out
  obtain ⟨A', c', rfl, hc', hm', hA'⟩ := hYs.out
  refine H17_in _ _ _ fun K hK => ?_
  unfold H17
  refine from_S hX rfl hi fun _ _ _ => ?_
  have hy0 : ¬ (ys.length = 0) := by omega
  have e1 : IntKind.i64.wrap ((xs.length : Int) + ys.length) = ((xs.length + ys.length : Nat) : Int) := by rw [wrap_i64] <;> omega
  have e2 : IntKind.i64.wrap (((xs.length + ys.length : Nat) : Int) - (i : Int)) = ((xs.length + ys.length - i : Nat) : Int) := by rw [wrap_i64] <;> omega
  have e3 : IntKind.i64.wrap ((i : Int) + ys.length) = ((i + ys.length : Nat) : Int) := by rw [wrap_i64] <;> omega
  simp only [ln_24, Rd_eql, Int.natCast_eq_zero, hy0, decide_false, iteE_false]
  by_cases hin : i = xs.length
  · subst hin
    simp only [decide_true, iteE_true]
    refine app_S hO hYs hfit fun v' w' h1 h2 h3 => hK _ _ ⟨?_, h2, h3⟩
    simpa using h1
  · have hin' : ¬ ((i : Int) = (xs.length : Int)) := by omega
    have hyb : ∀ u ∈ ys.map Value.string, u.oneCell' = true := one_str ys
    obtain ⟨by', oy, rfl, hcy⟩ := hA'.resolve_left hy0
    obtain ⟨bx, ox, rfl, hcx⟩ := hA.resolve_left (by omega)
    simp only [hin', decide_false, iteE_false, Pu_add, e1, cp_24, Pu_gtr, Int.ofNat_lt]
    by_cases hgc : c < xs.length + ys.length
    · simp only [hgc, decide_true, iteE_true]
      obtain ⟨hl, ⟨h, _⟩ | ⟨g, cap, cs, h, hr, hn, ht⟩⟩ := id hO
      · cases h
      cases h
      rw [sl_24 0 i c (.none _ _) (.some rfl (by omega)) (.none _ _) (.inl rfl)]
      have hOt : Own w 9 1 i (.slice (some ⟨bx, 0, none⟩) i c) ((xs.map .string).take (i * 1)) := by
        have := Own.take hO (k := i) hi
        simpa using this
      simp only [Pu_sub, e2, Option.map_some, add_none, Nat.zero_mul, Nat.add_zero, ite_self, Nat.sub_zero]
      refine ap_24_3 hOt (m := xs.length + ys.length - i) (by omega) rfl (by omega) (by omega) (by omega) fun g' cap' rest w' h1 h2 h3 h4 => ?_
      have hlen : i + (xs.length + ys.length - i) = xs.length + ys.length := by omega
      rw [hlen] at h1 ⊢
      obtain ⟨hl1, ⟨h, _⟩ | ⟨g2, cap2, cs2, h, hr2, hn2, ht2⟩⟩ := h1
      · cases h
      cases h
      have hcl2 : cs2.length = cap' := by simpa using hr2.len
      have hcap' : ¬ (cap' = i) := by omega
      rw [sl_24 i (xs.length + ys.length) cap' (.none _ _) (.none _ _) (.some rfl (by omega)) (.inl rfl)]
      simp only [hcap', if_false, Option.map_some, add_none, Nat.mul_one, Nat.zero_add]
      rw [cy_24_24 (k := ys.length) (xs := ys.map .string) hr2.blk (by omega) (by omega) (by simp) hyb (.inr ⟨_, _, rfl, fun j u hu => by
        have hjl : j < ys.length := by simpa using (List.getElem?_eq_some_iff.1 hu).1
        have := hcy j hjl
        simp [hjl] at hu
        subst hu
        exact h3.cellS this fun h => h⟩)]
      have hb3 := hr2.blk.setCells (ys.map .string) i
      simp only [drw_eq, Pu_add, e3]
      have hcap2 : ¬ (cap' = i + ys.length) := by omega
      rw [sl_24 (i + ys.length) (xs.length + ys.length) cap' (.none _ _) (.none _ _) (.some rfl (by omega)) (.inl rfl)]
      simp only [hcap2, if_false, Option.map_some, add_none, Nat.mul_one, Nat.zero_add]
      have hf4 : Fr0 w (w'.setCells g' i (ys.map .string)).drew := (Fr.setCells (.inl h4) _ _ h3).drew
      refine from_S (hX.mono0 hf4) rfl hi fun v4 hv4 _ => ?_
      obtain ⟨A4, c4, rfl, hc4, hm4, hA4⟩ := hv4.out
      rw [cy_24_24 (k := xs.length - i) (xs := (xs.drop i).map .string) hb3.drew (by simp; omega) (by rw [setL_length]; omega) (by simp) (one_str _) (by
        rcases hA4 with h | ⟨b, o, h, h'⟩
        · left; simpa using h
        · refine .inr ⟨b, o, h, fun j u hu => ?_⟩
          have hjl : j < (xs.drop i).length := by simpa using (List.getElem?_eq_some_iff.1 hu).1
          rw [h' j hjl]
          rw [List.getElem?_map, List.getElem?_eq_getElem hjl] at hu
          simpa using hu)]
      have hb4 := hb3.drew.setCells ((xs.drop i).map .string) (i + ys.length)
      refine hK _ _ ⟨?_, ?_, ?_⟩
      · have hlenf : (xs.take i ++ ys ++ xs.drop i).length = xs.length + ys.length := by simp; omega
        unfold OwnS
        rw [hlenf]
        refine ⟨by simp; omega, .inr ⟨g', cap', _, rfl, ⟨hb4, by rw [setL_length, setL_length]; exact hr2.len, hr2.max⟩, by omega, ?_⟩⟩
        apply List.ext_getElem?
        intro q
        rw [List.getElem?_take]
        by_cases hq : q < (xs.length + ys.length) * 1
        · rw [if_pos hq, setL_get _ _ _ _ (by rw [setL_length]; simp; omega), setL_get _ _ _ _ (by simp; omega)]
          have hcs : q < i → cs2[q]? = (xs.map Value.string)[q]? := fun hqi => by
            have := congrArg (·[q]?) ht2
            simp only [List.getElem?_take] at this
            rw [if_pos (by omega), List.getElem?_append_left (by simp; omega), List.getElem?_take, if_pos (by omega)] at this
            exact this
          simp only [List.getElem?_map, List.length_map] at *
          by_cases h1 : q < i
          · rw [if_neg (by omega), if_neg (by omega), hcs h1, List.getElem?_append_left (by simp; omega), List.getElem?_append_left (by simp; omega), List.getElem?_take, if_pos h1]
          · by_cases h2 : q < i + ys.length
            · rw [if_neg (by omega), if_pos (by omega), List.getElem?_append_left (by simp; omega), List.getElem?_append_right (by simp; omega)]
              simp [show min i xs.length = i by omega]
            · rw [if_pos (by simp; omega), List.getElem?_append_right (by simp; omega)]
              simp [show min i xs.length = i by omega]
        · rw [if_neg hq, List.getElem?_eq_none (by simp; omega)]
      · exact Fr.setCells (S := isB _) (.inl h4) _ _ (hf4.of0)
      · intro k hk; simp at hk; right; omega
    · simp only [hgc, decide_false, iteE_false]
      obtain ⟨hl, ⟨h, _⟩ | ⟨g, cap, cs, h, hr, hn, ht⟩⟩ := id hO
      · cases h
      cases h
      obtain ⟨hly, ⟨h, _⟩ | ⟨gy, capy, csy, h, hry, hny, hty⟩⟩ := id hY
      · cases h
      cases h
      have hcl : cs.length = c := by simpa using hr.len
      rw [sl_24 0 (xs.length + ys.length) c (.none _ _) (.some rfl (by omega)) (.none _ _) (.inl rfl)]
      have hcap1 : ¬ (c = i + ys.length) := by omega
      have hcap2 : ¬ (c = i) := by omega
      simp only [Pu_add, e3, Option.map_some, add_none, Nat.zero_mul, Nat.add_zero, ite_self, Nat.sub_zero]
      rw [sl_24 (i + ys.length) (xs.length + ys.length) c (.none _ _) (.none _ _) (.some rfl (by omega)) (.inl rfl)]
      simp only [hcap1, if_false, Option.map_some, add_none, Nat.mul_one, Nat.zero_add]
      have hgn : by' ≠ bx := by have := hne bx rfl; simpa using this
      refine ovA_34 hry.blk hr.blk hgn ?_
      simp only [Pu_not, Bool.not_false, iteE_true, drw_eq, Pu_add, e3]
      rw [sl_24 (i + ys.length) (xs.length + ys.length) c (.none _ _) (.none _ _) (.some rfl (by omega)) (.inl rfl)]
      simp only [hcap1, if_false, Option.map_some, add_none, Nat.mul_one, Nat.zero_add]
      rw [sl_24 i (xs.length + ys.length) c (.none _ _) (.none _ _) (.some rfl (by omega)) (.inl rfl)]
      simp only [hcap2, if_false, Option.map_some, add_none, Nat.mul_one, Nat.zero_add]
      rw [cy_24_24 (k := xs.length - i) (xs := (xs.drop i).map .string) hr.blk.drew (by omega) (by omega) (by simp) (one_str _) (.inr ⟨_, _, rfl, fun j u hu => by
        have hjl : j < (xs.drop i).length := by simpa using (List.getElem?_eq_some_iff.1 hu).1
        have h5 : i + j < xs.length := by simp at hjl; omega
        have := hcx (i + j) h5
        simp [hjl, h5] at hu this ⊢
        rw [← hu]; exact this⟩)]
      have hb3 := hr.blk.drew.setCells ((xs.drop i).map .string) (i + ys.length)
      have hf3 : Fr (isB (.slice (some ⟨bx, 0, none⟩) xs.length c)) w (w.drew.setCells bx (i + ys.length) ((xs.drop i).map .string)) := Fr.setCells (S := isB _) (.inr rfl) _ _ (Fr.refl _ w).drew
      rw [sl_24 i (xs.length + ys.length) c (.none _ _) (.none _ _) (.some rfl (by omega)) (.inl rfl)]
      simp only [hcap2, if_false, Option.map_some, add_none, Nat.mul_one, Nat.zero_add]
      rw [cy_24_24 (k := ys.length) (xs := ys.map .string) hb3 (by omega) (by rw [setL_length]; omega) (by simp) hyb (.inr ⟨_, _, rfl, fun j u hu => by
        have hjl : j < ys.length := by simpa using (List.getElem?_eq_some_iff.1 hu).1
        have := hcy j hjl
        simp [hjl] at hu
        subst hu
        exact hf3.cellS this fun h => by simp [isB] at h; exact hgn h.symm⟩)]
      have hb4 := hb3.setCells (ys.map .string) i
      refine hK _ _ ⟨?_, Fr.setCells (S := isB _) (.inr rfl) _ _ hf3, fun k hk => .inl hk⟩
      have hlenf : (xs.take i ++ ys ++ xs.drop i).length = xs.length + ys.length := by simp; omega
      unfold OwnS
      rw [hlenf]
      refine ⟨by simp; omega,   .inr ⟨bx, c, _, rfl, ⟨hb4, by rw [setL_length, setL_length]; exact hr.len, hr.max⟩, by omega, ?_⟩⟩
      apply List.ext_getElem?
      intro q
      rw [List.getElem?_take]
      by_cases hq : q < (xs.length + ys.length) * 1
      · rw [if_pos hq, setL_get _ _ _ _ (by rw [setL_length]; simp; omega), setL_get _ _ _ _ (by simp; omega)]
        have hcs : q < i → cs[q]? = (xs.map Value.string)[q]? := fun hqi => by
          have := congrArg (·[q]?) ht
          simp only [List.getElem?_take] at this
          rw [if_pos (by omega)] at this
          exact this
        simp only [List.getElem?_map, List.length_map] at *
        by_cases h1 : q < i
        · rw [if_neg (by omega), if_neg (by omega), hcs h1, List.getElem?_append_left (by simp; omega), List.getElem?_append_left (by simp; omega), List.getElem?_take, if_pos h1]
        · by_cases h2 : q < i + ys.length
          · rw [if_pos (by omega), List.getElem?_append_left (by simp; omega), List.getElem?_append_right (by simp; omega)]
            simp [show min i xs.length = i by omega]
          · rw [if_neg (by omega), if_pos (by simp; omega), List.getElem?_append_right (by simp; omega)]
            simp [show min i xs.length = i by omega]
      · rw [if_neg hq, List.getElem?_eq_none (by simp; omega)]
end Go.Proofs
