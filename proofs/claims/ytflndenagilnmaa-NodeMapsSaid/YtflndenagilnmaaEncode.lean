/-
  node: entry, Size, entries, Encode at a leaf that fits 512 bytes. Own work.
-/
import Derived.Test.YtflndenagilnmaaNode4
import Derived.Test.YtflndenagilnmaaCodec
set_option linter.unusedVariables false
set_option linter.unusedSimpArgs false
set_option maxRecDepth 10000
namespace Go.Proofs
open Go Hx

/-- How many bytes each entry of a leaf has. -/
def entL (ks vs : List ByteArray) : List Nat := (ks.zip vs).map fun p => 2 + p.1.size + p.2.size
theorem entL_length {ks vs : List ByteArray} (h : vs.length = ks.length) : (entL ks vs).length = ks.length := by simp [entL, h]
theorem entL_get {ks vs : List ByteArray} (h : vs.length = ks.length) {i : Nat} (hi : i < ks.length) : (entL ks vs)[i]'(by rw [entL_length h]; exact hi) = 2 + ks[i].size + (vs[i]'(by omega)).size := by simp [entL]
theorem take_sum_le : ∀ (xs : List Nat) (k : Nat), (xs.take k).sum ≤ xs.sum
  | [], k => by simp
  | x :: xs, 0 => by simp
  | x :: xs, k + 1 => by simp [take_sum_le xs k]
theorem take_sum_succ {xs : List Nat} {k : Nat} (h : k < xs.length) : (xs.take (k + 1)).sum = (xs.take k).sum + xs[k] := by
  rw [List.take_succ_eq_append_getElem h, List.sum_append]; simp
theorem entry_leaf {w : World} {n : Value} {ks vs : List ByteArray} {ds : List Int} {i : Nat} (hn : NodeS w n true ks vs ds) (hl : vs.length = ks.length) (hi : i < ks.length) (hsm : ks[i].size ≤ 1000000 ∧ (vs[i]'(by omega)).size ≤ 1000000) :
    Calls Try.prog 30 #[n, .int .i64 i] w (RetK fun r w' => r = .int .i64 ((2 + ks[i].size + (vs[i]'(by omega)).size : Nat) : Int) ∧ Fr0 w w') := by
  obtain ⟨k, v, d, rfl, hk, hv, hd⟩ := id hn
  obtain ⟨A, c, rfl, hc, hm, hA⟩ := id hk.out
  obtain ⟨A', c', rfl, hc', hm', hA'⟩ := id hv.out
  obtain ⟨b, o, rfl, hcA⟩ := hA.resolve_left (by omega)
  obtain ⟨b', o', rfl, hcB⟩ := hA'.resolve_left (by omega)
  refine H30_in _ _ fun K hK => ?_
  unfold H30
  refine box_new fun b1 w1 hb1 hf1 hge1 => ?_
  have hb1 : Blk w1 b1 27 [.bool true, .slice (some ⟨b, o, none⟩) ks.length c, .slice (some ⟨b', o', none⟩) vs.length c', d] := hb1
  have hi' : i < vs.length := by omega
  have hk1 := hf1.cellS (hcA i hi) (fun h => h)
  have hk2 := hf1.cellS (hcB i hi') (fun h => h)
  have e1 : IntKind.i64.wrap (2 + (ks[i].size : Int)) = ((2 + ks[i].size : Nat) : Int) := by rw [wrap_i64] <;> omega
  have e2 : IntKind.i64.wrap (((2 + ks[i].size : Nat) : Int) + (vs[i].size : Int)) = ((2 + ks[i].size + vs[i].size : Nat) : Int) := by rw [wrap_i64] <;> omega
  simp only [if_27_0, if_27_1, if_27_2, ld_4, ld_24, ld_9, hb1.cell, List.getElem?_cons_zero, List.getElem?_cons_succ, optK_some, Nat.zero_add, Pu_not, Bool.not_true, iteE_false, ixn_24, hi, hi', hk1, hk2, ln_9, ln_24, Pu_add, e1, e2, Pu_lss, Int.ofNat_lt, decide_true, iteE_true]
  exact hK _ _ ⟨rfl, hf1⟩
theorem Size_leaf {w : World} {n : Value} {ks vs : List ByteArray} {ds : List Int} (hn : NodeS w n true ks vs ds) (hl : vs.length = ks.length) (hks : ∀ s ∈ ks, s.size ≤ 1000000) (hvs : ∀ s ∈ vs, s.size ≤ 1000000) (hsum : (entL ks vs).sum ≤ 1000000000000000000) :
    Calls Try.prog 11 #[n] w (RetK fun r w' => r = .int .i64 ((16 + (entL ks vs).sum : Nat) : Int) ∧ Fr0 w w') := by
  obtain ⟨k, v, d, rfl, hk, hv, hd⟩ := id hn
  obtain ⟨A, c, rfl, hc, hm, hA⟩ := id hk.out
  refine H11_in _ fun K hK => ?_
  unfold H11
  refine box_new fun b1 w1 hb1 hf1 hge1 => ?_
  have hb1 : Blk w1 b1 27 [.bool true, .slice A ks.length c, v, d] := hb1
  simp only [if_27_0, ld_4, hb1.cell, List.getElem?_cons_zero, optK_some, Pu_not, Bool.not_true, Gd_ft, Pu_pick_f, iteE_false]
  unfold H11_1
  simp only [if_27_1, ld_24, hb1.cell, List.getElem?_cons_zero, List.getElem?_cons_succ, optK_some, Nat.zero_add, ln_24]
  refine loopN (fun u w' => ∃ k : Nat, u 0 = .int .i64 ((16 + ((entL ks vs).take k).sum : Nat) : Int) ∧ u 1 = .int .i64 k ∧ k ≤ ks.length ∧ Fr0 w1 w') (fun u _ => ks.length - natOf (u 1)) ⟨0, rfl, rfl, by omega, Fr.refl _ _⟩ ?_
  rintro u junk w2 nx ⟨q, hu0, hu1, hq, hf2⟩ hnx
  unfold H11_2
  have hel := entL_length hl
  by_cases hlt : q < ks.length
  · have hb2 := hb1.mono hf2 (fun h => h)
    simp only [hu0, hu1, Pu_lss, Int.ofNat_lt, hlt, decide_true, iteE_true, ld_27, hb2.cells (n := 4) rfl, Option.map_some, optK_some]
    refine call_30 (entry_leaf (i := q) (hn.mono0 (hf1.trans hf2)) hl hlt ⟨hks _ (List.getElem_mem _), hvs _ (List.getElem_mem _)⟩) ?_
    rintro r w3 ⟨rfl, hf3⟩
    have h1 := take_sum_succ (xs := entL ks vs) (k := q) (by omega)
    rw [entL_get hl hlt] at h1
    have h2 := take_sum_le (entL ks vs) (q + 1)
    have e1 : IntKind.i64.wrap (((16 + ((entL ks vs).take q).sum : Nat) : Int) + ((2 + ks[q].size + (vs[q]'(by omega)).size : Nat) : Int)) = ((16 + ((entL ks vs).take (q + 1)).sum : Nat) : Int) := by rw [wrap_i64] <;> omega
    have e2 : IntKind.i64.wrap ((q : Int) + 1) = ((q + 1 : Nat) : Int) := by rw [wrap_i64] <;> omega
    simp only [Pu_add, e1, e2]
    exact hnx _ _ ⟨q + 1, rfl, rfl, by omega, hf2.trans hf3⟩ (by simp [hu1]; omega)
  · simp only [hu0, hu1, Pu_lss, Int.ofNat_lt, hlt, decide_false, iteE_false]
    refine hK _ _ ⟨?_, hf1.trans hf2⟩
    rw [List.take_of_length_le (by omega)]
theorem entries_leaf {w : World} {n : Value} {ks vs : List ByteArray} {ds : List Int} (hn : NodeS w n true ks vs ds) (hl : vs.length = ks.length) (hks : ∀ s ∈ ks, s.size ≤ 1000000) (hvs : ∀ s ∈ vs, s.size ≤ 1000000) (hsum : (entL ks vs).sum ≤ 1000000000) :
    Calls Try.prog 19 #[n] w (RetK fun r w' => (∃ s : ByteArray, r = .string s ∧ s.size = (entL ks vs).sum) ∧ Fr0 w w') := by
  obtain ⟨k, v, d, rfl, hk, hv, hd⟩ := id hn
  obtain ⟨A, c, rfl, hc, hm, hA⟩ := id hk.out
  obtain ⟨A', c', rfl, hc', hm', hA'⟩ := id hv.out
  refine H19_in _ fun K hK => ?_
  unfold H19
  refine box_new fun b1 w1 hb1 hf1 hge1 => ?_
  have hb1 : Blk w1 b1 27 [.bool true, .slice A ks.length c, .slice A' vs.length c', d] := hb1
  simp only [ld_27, hb1.cells (n := 4) rfl, Option.map_some, optK_some]
  refine call_11 (Size_leaf (hn.mono0 hf1) hl hks hvs (by omega)) ?_
  rintro r w2 ⟨rfl, hf2⟩
  refine call_20 (NewWriter_spec (by omega)) ?_
  rintro wr w3 ⟨hw, hf3⟩
  have hf03 := (hf1.trans hf2).trans hf3
  have hb3 := (hb1.mono hf2 (fun h => h)).mono hf3 (fun h => h)
  have hb1lt := hb1.lt
  have s2 := hf2.size
  have s3 := hf3.size
  generalize hB : w2.heap.size = B at hw
  simp only [if_27_0, ld_4, hb3.cell, List.getElem?_cons_zero, optK_some, Pu_not, Bool.not_true, iteE_false]
  unfold H19_1
  simp only [if_27_1, ld_24, hb3.cell, List.getElem?_cons_zero, List.getElem?_cons_succ, optK_some, Nat.zero_add, ln_24]
  have hel := entL_length hl
  refine loopN (fun u w' => ∃ (k : Nat) (bs : List Int), u 0 = .int .i64 k ∧ k ≤ ks.length ∧ bs.length = ((entL ks vs).take k).sum ∧ WrS B w' wr (16 + (entL ks vs).sum) bs ∧ FrB B w3 w') (fun u _ => ks.length - natOf (u 0)) ⟨0, [], rfl, by omega, rfl, hw, Fr.refl _ _⟩ ?_
  rintro u junk w4 nx ⟨q, bs, hu0, hq, hbl, hw4, hf4⟩ hnx
  unfold H19_2
  have hf24 : FrB B w2 w4 := hf3.of0.trans hf4
  have hf04 : Fr0 w w4 := (hf1.trans hf2).step hf24 fun i hi h => by have := hf1.size; omega
  have s4 := hf4.size
  by_cases hlt : q < ks.length
  · have hi' : q < vs.length := by omega
    obtain ⟨b, o, rfl, hcA⟩ := hA.resolve_left (by omega)
    obtain ⟨b', o', rfl, hcB⟩ := hA'.resolve_left (by omega)
    have hk1 := hf04.cellS (hcA q hlt) (fun h => h)
    have hb4 := hb3.mono hf4 (fun h => by omega)
    have h1 := take_sum_succ (xs := entL ks vs) (k := q) (by omega)
    rw [entL_get hl hlt] at h1
    have h2 := take_sum_le (entL ks vs) (q + 1)
    have hks1 := hks ks[q] (List.getElem_mem _)
    have hvs1 := hvs vs[q] (List.getElem_mem _)
    have e2 : IntKind.i64.wrap ((q : Int) + 1) = ((q + 1 : Nat) : Int) := by rw [wrap_i64] <;> omega
    simp only [hu0, Pu_lss, Int.ofNat_lt, hlt, decide_true, iteE_true, ixn_24, ld_9, hk1, optK_some, ln_9, cv_3_5]
    refine call_22 (U8_spec hw4 (by omega) (by omega)) ?_
    rintro r w5 ⟨rfl, ⟨x1, hx1, hw5⟩, hf5⟩
    have s5 := hf5.size
    have hb5 := hb4.mono hf5 (fun h => by omega)
    have hf05 := hf04.step hf5 fun i hi h => by have := hf1.size; omega
    have hk2 := hf05.cellS (hcB q hi') (fun h => h)
    simp only [if_27_0, if_27_2, ld_4, ld_24, ld_9, hb5.cell, List.getElem?_cons_zero, List.getElem?_cons_succ, optK_some, Nat.zero_add, iteE_true, ixn_24, hi', hk2, ln_9, cv_3_5]
    refine call_22 (U8_spec hw5 (by omega) (by simp; omega)) ?_
    rintro r w6 ⟨rfl, ⟨x2, hx2, hw6⟩, hf6⟩
    have s6 := hf6.size
    refine call_21 (Raw_spec hw6 (by omega) (by simp; omega)) ?_
    rintro r w7 ⟨rfl, hw7, hf7⟩
    have s7 := hf7.size
    have hb7 := (hb5.mono hf6 (fun h => by omega)).mono hf7 (fun h => by omega)
    have hf57 : FrB B w5 w7 := hf6.trans hf7
    have hf07 := hf05.step hf57 fun i hi h => by have := hf1.size; omega
    have hk3 := hf07.cellS (hcB q hi') (fun h => h)
    simp only [if_27_2, ld_24, ld_9, hb7.cell, List.getElem?_cons_zero, List.getElem?_cons_succ, optK_some, Nat.zero_add, ixn_24, hi', hk3]
    refine call_21 (Raw_spec hw7 (by omega) (by simp [strB_length]; omega)) ?_
    rintro r w8 ⟨rfl, hw8, hf8⟩
    simp only [Pu_add, e2]
    exact hnx _ _ ⟨q + 1, _, rfl, by omega, by simp [strB_length]; omega, hw8, ((hf4.trans hf5).trans hf57).trans hf8⟩ (by simp [hu0]; omega)
  · simp only [hu0, Pu_lss, Int.ofNat_lt, hlt, decide_false, iteE_false]
    refine call_25 (Done_spec hw4) ?_
    rintro r w5 ⟨rfl, rfl⟩
    simp only [Pu_extract, List.getElem?_toArray, List.getElem?_cons_zero, List.getElem?_cons_succ, optK_some]
    refine hK _ _ ⟨⟨_, rfl, ?_⟩, hf04⟩
    rw [strOfNums_size, hbl, List.take_of_length_le (by omega)]
end Go.Proofs
