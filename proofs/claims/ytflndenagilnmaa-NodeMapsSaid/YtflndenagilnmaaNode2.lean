/-
  node: shaped, check, Check, SearchStrings, Find, copied. Own work.
-/
import Derived.Test.YtflndenagilnmaaNode
set_option linter.unusedVariables false
set_option linter.unusedSimpArgs false
set_option maxRecDepth 10000
namespace Go.Proofs
open Go Hx

def shp (leaf : Bool) (ks vs : List ByteArray) (ds : List Int) (bare : Bool) : Bool :=
  if leaf then decide (vs.length = ks.length) && decide (ds.length = 0)
  else decide (vs.length = 0) && decide (ds.length = ks.length + 1) && (bare || decide (0 < ks.length))
theorem shaped_spec {w : World} {n : Value} {leaf bare : Bool} {ks vs : List ByteArray} {ds : List Int} (hn : NodeS w n leaf ks vs ds) :
    Calls Try.prog 45 #[n, .bool bare] w (RetK fun r w' => r = .bool (shp leaf ks vs ds bare) ∧ Fr0 w w') := by
  obtain ⟨k, v, d, rfl, hk, hv, hd⟩ := hn
  obtain ⟨A, c, rfl, hc, hm, hA⟩ := hk.out
  obtain ⟨A', c', rfl, hc', hm', hA'⟩ := hv.out
  obtain ⟨A2, c2, rfl, hc2, hm2, hA2⟩ := hd.out
  refine H45_in _ _ fun K hK => ?_
  unfold H45
  refine box_new fun b w' hb hf hge => ?_
  have hb : Blk w' b 27 [.bool leaf, .slice A ks.length c, .slice A' vs.length c', .slice A2 ds.length c2] := hb
  cases leaf with
  | true =>
    simp [hb.cell]
    by_cases h1 : vs.length = ks.length
    · simp [h1, hb.cell]
      exact hK _ _ ⟨by simp [shp, h1], hf⟩
    · simp [h1, hb.cell]
      exact hK _ _ ⟨by simp [shp, h1], hf⟩
  | false =>
    have e1 : IntKind.i64.wrap ((ks.length : Int) + 1) = ((ks.length + 1 : Nat) : Int) := by rw [wrap_i64] <;> omega
    simp [hb.cell]
    by_cases h1 : vs = []
    · simp [h1, e1, hb.cell]
      by_cases h2 : ds.length = ks.length + 1
      · have h2' : (ds.length : Int) = ((ks.length + 1 : Nat) : Int) := by omega
        simp [h2', hb.cell, e1]
        cases bare with
        | true => simp; exact hK _ _ ⟨by simp [shp, h1, h2], hf⟩
        | false => simp [hb.cell]; exact hK _ _ ⟨by simp [shp, h1, h2], hf⟩
      · have h2' : ¬ (ds.length : Int) = (ks.length : Int) + 1 := by omega
        have h2'' : ¬ (ds.length : Int) = ((ks.length + 1 : Nat) : Int) := by omega
        simp [h2', h2'', h2, hb.cell, e1]
        exact hK _ _ ⟨by simp [shp, h1, h2], hf⟩
    · simp [h1, hb.cell]
      exact hK _ _ ⟨by simp [shp, h1], hf⟩
/-- Why a node may not be. -/
def chk (leaf : Bool) (ks vs : List ByteArray) (ds : List Int) (bare : Bool) : Int :=
  if ks.any (fun s => !kr s) || vs.any (fun s => !vr s) then 91
  else if !shp leaf ks vs ds bare || ds.any kidBad || !risesB ks then 90 else 0
theorem check_spec {w : World} {n : Value} {leaf bare : Bool} {ks vs : List ByteArray} {ds : List Int} (hn : NodeS w n leaf ks vs ds) :
    Calls Try.prog 33 #[n, .bool bare] w (RetK fun r w' => r = .int .i64 (chk leaf ks vs ds bare) ∧ Fr0 w w') := by
  obtain ⟨k, v, d, rfl, hk, hv, hd⟩ := id hn
  refine H33_in _ _ fun K hK => ?_
  unfold H33
  refine box_new fun b w1 hb1 hf1 hge => ?_
  have hb1 : Blk w1 b 27 [.bool leaf, k, v, d] := hb1
  simp only [if_27_1, ld_24, hb1.cell, List.getElem?_cons_zero, List.getElem?_cons_succ, optK_some, Nat.zero_add]
  refine call_44 (ContainsFuncS (hk.mono0 hf1) (check1_ans w1)) ?_
  rintro r w2 ⟨rfl, hf2⟩
  cases h1 : ks.any (fun s => !kr s) with
  | true =>
    simp
    exact hK _ _ ⟨by simp only [chk, h1]; rfl, hf1.trans hf2⟩
  | false =>
  have hb2 := hb1.mono hf2 (fun h => h)
  simp only [Gd_ff, if_27_2, ld_24, hb2.cell, List.getElem?_cons_zero, List.getElem?_cons_succ, optK_some, Nat.zero_add]
  refine call_44 (ContainsFuncS (hv.mono0 (hf1.trans hf2)) (check2_ans w2)) ?_
  rintro r w3 ⟨rfl, hf3⟩
  have hf03 := (hf1.trans hf2).trans hf3
  have hb3 := hb2.mono hf3 (fun h => h)
  simp only [Pu_pick_or, Bool.false_or]
  cases h2 : vs.any (fun s => !vr s) with
  | true =>
    simp
    exact hK _ _ ⟨by simp only [chk, h1, h2]; rfl, hf03⟩
  | false =>
  simp only [iteE_false, ld_27, hb3.cells (n := 4) rfl, Option.map_some, optK_some]
  refine call_45 (shaped_spec (hn.mono0 hf03)) ?_
  rintro r w4 ⟨rfl, hf4⟩
  have hf04 := hf03.trans hf4
  have hb4 := hb3.mono hf4 (fun h => h)
  cases h3 : shp leaf ks vs ds bare with
  | false =>
    simp
    exact hK _ _ ⟨by simp [chk, h1, h2, h3], hf04⟩
  | true =>
  simp only [Pu_not, Bool.not_true, Gd_ff, if_27_3, ld_25, hb4.cell, List.getElem?_cons_zero, List.getElem?_cons_succ, optK_some, Nat.zero_add]
  refine call_46 (ContainsFuncI (hd.mono0 hf04) (check3_ans w4)) ?_
  rintro r w5 ⟨rfl, hf5⟩
  have hf05 := hf04.trans hf5
  have hb5 := hb4.mono hf5 (fun h => h)
  simp only [Pu_pick_or, Bool.false_or]
  cases h4 : ds.any kidBad with
  | true =>
    simp
    exact hK _ _ ⟨by simp [chk, h1, h2, h3, h4], hf05⟩
  | false =>
  simp only [Gd_ff, if_27_1, ld_24, hb5.cell, List.getElem?_cons_zero, List.getElem?_cons_succ, optK_some, Nat.zero_add]
  refine call_47 (rises_spec (hk.mono0 hf05)) ?_
  rintro r w6 ⟨rfl, hf6⟩
  cases h5 : risesB ks with
  | true =>
    simp
    exact hK _ _ ⟨by simp [chk, h1, h2, h3, h4, h5], hf05.trans hf6⟩
  | false =>
    simp
    exact hK _ _ ⟨by simp [chk, h1, h2, h3, h4, h5], hf05.trans hf6⟩
theorem Check_spec {w : World} {n : Value} {leaf : Bool} {ks vs : List ByteArray} {ds : List Int} (hn : NodeS w n leaf ks vs ds) :
    Calls Try.prog 14 #[n] w (RetK fun r w' => r = .int .i64 (chk leaf ks vs ds false) ∧ Fr0 w w') := by
  obtain ⟨k, v, d, rfl, hk, hv, hd⟩ := id hn
  refine H14_in _ fun K hK => ?_
  unfold H14
  refine box_new fun b w1 hb1 hf1 hge => ?_
  have hb1 : Blk w1 b 27 [.bool leaf, k, v, d] := hb1
  simp only [ld_27, hb1.cells (n := 4) rfl, Option.map_some, optK_some]
  refine call_33 (check_spec (hn.mono0 hf1)) ?_
  rintro r w2 ⟨rfl, hf2⟩
  exact hK _ _ ⟨rfl, hf1.trans hf2⟩

/-! ### Find -/
/-- How many are less. -/
def lows (xs : List ByteArray) (key : ByteArray) : Nat := (xs.takeWhile fun s => slt s key).length
def lowsLe (xs : List ByteArray) (key : ByteArray) : Nat := (xs.takeWhile fun s => !slt key s).length
theorem takeWhile_len {α : Type} {p : α → Bool} {xs : List α} {k : Nat} (hk : k ≤ xs.length) (h1 : ∀ i (h : i < k), p (xs[i]'(by omega)) = true) (h2 : ∀ (h : k < xs.length), p xs[k] = false) : (xs.takeWhile p).length = k := by
  induction xs generalizing k with
  | nil => simp at hk; simp [hk]
  | cons x xs ih =>
    cases k with
    | zero =>
      have := h2 (by simp)
      simp at this
      simp [this]
    | succ k =>
      have h0 := h1 0 (by omega)
      simp at h0
      simp only [List.takeWhile_cons, h0, if_true, List.length_cons]
      rw [ih (k := k) (by simpa using hk) (fun i hi => by simpa using h1 (i + 1) (by omega)) (fun h => by have := h2 (by simpa using h); simp only [List.getElem_cons_succ] at this; exact this)]
theorem asc_lt {xs : List ByteArray} (h : Asc xs) {i j : Nat} (hj : j < xs.length) (hij : i < j) : slt (xs[i]'(by omega)) xs[j] = true := List.pairwise_iff_getElem.1 h i j (by omega) hj hij
theorem SearchStrings_spec {w : World} {v : Value} {xs : List ByteArray} {key : ByteArray} (hv : StrS w v xs) (ha : Asc xs) :
    Calls Try.prog 29 #[v, .string key] w (RetK fun r w' => r = .int .i64 (lows xs key) ∧ Fr0 w w') := by
  obtain ⟨A, c, rfl, hc, hm, hA⟩ := id hv.out
  refine H29_in _ _ fun K hK => ?_
  unfold H29
  refine box_new fun b1 w1 hb1 hf1 hge1 => ?_
  refine box_new fun b2 w2 hb2 hf2 hge2 => ?_
  have hb1 : Blk w2 b1 24 [.slice A xs.length c] := (show Blk w1 b1 24 [.slice A xs.length c] from hb1).mono hf2 (fun h => h)
  have hb2 : Blk w2 b2 9 [.string key] := hb2
  simp only [ld_24, hb1.cell, List.getElem?_cons_zero, optK_some, ln_24]
  have hf02 := hf1.trans hf2
  refine call_27 (Search_spec (n := xs.length) (fun i => if h : i < xs.length then !slt xs[i] key else true) hm ?_ ?_) ?_
  · intro i j hij hj hi
    have hi' : i < xs.length := by omega
    simp only [hi', hj, dif_pos] at hi ⊢
    rcases Nat.lt_or_ge i j with h | h
    · cases hs : slt xs[j] key with
      | false => rfl
      | true => have := slt_trans (asc_lt ha hj h) hs; rw [this] at hi; cases hi
    · have : i = j := by omega
      subst this; exact hi
  · intro i W K hi hW hK
    refine callv_40 (R := fun r w' => r = .bool (if h : i < xs.length then !slt xs[i] key else true) ∧ Fr0 W w') ?_ (by rintro v w' ⟨rfl, h⟩; exact hK _ h)
    refine H40_in _ _ _ fun K hK => ?_
    unfold H40
    have hbW1 := hb1.mono hW (fun h => h)
    have hbW2 := hb2.mono hW (fun h => h)
    obtain ⟨b, o, rfl, hcA⟩ := hA.resolve_left (by omega)
    have hk1 := (hf02.trans hW).cellS (hcA i hi) (fun h => h)
    simp [hbW1.cell, hbW2.cell, hi, hk1]
    exact hK _ _ ⟨by simp [hi], (Fr.refl _ W).drew⟩
  · rintro r w3 ⟨⟨k, rfl, hk, h1, h2⟩, hf3⟩
    refine hK _ _ ⟨?_, hf02.trans hf3⟩
    have : lows xs key = k := by
      refine takeWhile_len hk (fun i hi => ?_) (fun h => ?_)
      · have := h1 i hi
        simp only [show i < xs.length by omega, dif_pos] at this
        simpa using this
      · have := h2 k (by omega) h
        simp only [h, dif_pos] at this
        simpa using this
    rw [this]
theorem Find_leaf {w : World} {n : Value} {ks vs : List ByteArray} {ds : List Int} {key : ByteArray} (hn : NodeS w n true ks vs ds) (ha : Asc ks) :
    Calls Try.prog 10 #[n, .string key] w (RetK fun r w' => r = .tuple #[.int .i64 (lows ks key), .bool (decide (ks[lows ks key]? = some key))] ∧ Fr0 w w') := by
  obtain ⟨k, v, d, rfl, hk, hv, hd⟩ := id hn
  obtain ⟨A, c, rfl, hc, hm, hA⟩ := id hk.out
  refine H10_in _ _ fun K hK => ?_
  unfold H10
  refine box_new fun b1 w1 hb1 hf1 hge1 => ?_
  refine box_new fun b2 w2 hb2 hf2 hge2 => ?_
  have hb1 : Blk w2 b1 27 [.bool true, .slice A ks.length c, v, d] := (show Blk w1 b1 27 [.bool true, .slice A ks.length c, v, d] from hb1).mono hf2 (fun h => h)
  have hb2 : Blk w2 b2 9 [.string key] := hb2
  have hf02 := hf1.trans hf2
  simp [hb1.cell, hb2.cell]
  refine call_29 (SearchStrings_spec (hk.mono0 hf02) ha) ?_
  rintro r w3 ⟨rfl, hf3⟩
  have hb13 := hb1.mono hf3 (fun h => h)
  have hb23 := hb2.mono hf3 (fun h => h)
  by_cases hl : lows ks key < ks.length
  · obtain ⟨b, o, rfl, hcA⟩ := hA.resolve_left (by omega)
    have hk1 := (hf02.trans hf3).cellS (hcA _ hl) (fun h => h)
    simp [hb13.cell, hb23.cell, hl, hk1]
    exact hK _ _ ⟨by simp [hl], (hf02.trans hf3).drew⟩
  · simp [hb13.cell, hb23.cell, hl]
    refine hK _ _ ⟨?_, (hf02.trans hf3).drew⟩
    simp [List.getElem?_eq_none (show ks.length ≤ lows ks key by omega)]
end Go.Proofs
