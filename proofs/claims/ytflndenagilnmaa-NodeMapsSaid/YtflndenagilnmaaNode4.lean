/-
  node: Put, Remove at leaves. Own work.
-/
import Derived.Test.YtflndenagilnmaaNode3
set_option linter.unusedVariables false
set_option linter.unusedSimpArgs false
set_option maxRecDepth 10000
namespace Go.Proofs
open Go Hx

theorem set_S {K : Value → World → Prop} {w : World} {v : Value} {xs : List ByteArray} {s : ByteArray} {ik : IntKind} {i : Nat} (hO : OwnS w v xs) (hi : i < xs.length) (h : ∀ w', OwnS w' v (xs.set i s) → Fr (isB v) w w' → K undef w') :
    Pu Try.prog (Instr.indexAt 24 v (.int ik i)) (fun p w => Uu Try.prog (Instr.storeAt 9 p (.string s)) K w) w := by
  obtain ⟨hl, ⟨rfl, h0⟩ | ⟨g, cap, cs, rfl, hr, hn, ht⟩⟩ := hO
  · omega
  have hcl : cs.length = cap := by simpa using hr.len
  simp [hi]
  refine stn_9 hr.blk rfl (by intro u hu; have hu : u ∈ [Value.string s] := hu; simp at hu; subst hu; rfl) (by omega) fun w' hb hf => h _ ?_ (hf.mono fun k _ hk => by subst hk; rfl)
  unfold OwnS
  rw [List.length_set]
  refine ⟨by simp, .inr ⟨g, cap, _, rfl, ⟨hb, by rw [setL_length]; exact hr.len, hr.max⟩, hn, ?_⟩⟩
  have : (Value.string s).cells.toList = [Value.string s] := rfl
  rw [this, setL_cons, setL_nil, List.take_set, ht, List.map_set]
theorem bs_one {K : Value → World → Prop} {w : World} {s : ByteArray} (h : ∀ v w', OwnS w' v [s] → Fr0 w w' → NewB w v → K v w') : Rr Try.prog (Instr.buildSlice 24 1 ⟨[(0, .string s)]⟩) K w := by
  rw [bs1_24 rfl]
  exact h _ _ (OwnS.one w s) ((Fr.refl _ w).alloc _) fun k hk => by simp at hk; omega
/-- The node that is none. -/
def zeroN : Value := .agg #[.bool false, .slice none 0 0, .slice none 0 0, .slice none 0 0]
theorem bd_zero {K : Value → World → Prop} {w : World} : Pu Try.prog (Instr.build 27 ⟨[]⟩) K w = K zeroN w := by
  rw [bd_27]
  have hz : (Value.agg #[.bool false, .slice none 0 0, .slice none 0 0, .slice none 0 0]).cells = #[.bool false, .slice none 0 0, .slice none 0 0, .slice none 0 0] := rfl
  simp [Instr.fill, hz, zeroN]
theorem lows_le (xs : List ByteArray) (key : ByteArray) : lows xs key ≤ xs.length := by
  unfold lows
  exact (List.takeWhile_sublist _).length_le
theorem one4 {leaf : Bool} {k v d : Value} (hk : k.oneCell' = true) (hv : v.oneCell' = true) (hd : d.oneCell' = true) : ∀ u ∈ (Value.agg #[.bool leaf, k, v, d]).cells.toList, u.oneCell' = true := by
  intro u hu
  have hu : u ∈ [Value.bool leaf, k, v, d] := hu
  simp only [List.mem_cons, List.not_mem_nil, or_false] at hu
  rcases hu with rfl | rfl | rfl | rfl
  · rfl
  · exact hk
  · exact hv
  · exact hd

theorem Put_bad {w : World} {n : Value} {ks vs : List ByteArray} {key value : ByteArray} (hn : NodeS w n true ks vs []) (hc : chk true ks vs [] false = 0) (hbad : (kr key && vr value) = false) :
    Calls Try.prog 6 #[n, .string key, .string value] w (RetK fun r w' => r = .tuple #[zeroN, .int .i64 91] ∧ Fr0 w w') := by
  obtain ⟨k, v, d, rfl, hk, hv, hd⟩ := id hn
  refine H6_in _ _ _ fun K hK => ?_
  unfold H6
  refine box_new fun b3 w1 hb3 hf1 hge3 => ?_
  have hb3 : Blk w1 b3 27 [.bool true, k, v, d] := hb3
  refine aln_27 fun b6 w2 hb6 hf2 hge6 => ?_
  have hb6 : Blk w2 b6 27 [.bool false, .slice none 0 0, .slice none 0 0, .slice none 0 0] := hb6
  have hb3 := hb3.mono hf2 (fun h => h)
  have hf02 := hf1.trans hf2
  simp only [if_27_0, ld_4, hb3.cell, List.getElem?_cons_zero, optK_some, Pu_not, Bool.not_true, Gd_ff, ld_27, hb3.cells (n := 4) rfl, Option.map_some]
  refine call_14 (Check_spec (hn.mono0 hf02)) ?_
  rintro r w3 ⟨rfl, hf3⟩
  have hb3 := hb3.mono hf3 (fun h => h)
  have hb6 := hb6.mono hf3 (fun h => h)
  simp only [hc, Rd_neq, ne_eq, not_true, decide_false, Gd_ff, Pu_pick_or, Bool.or_self, iteE_false]
  refine call_15 keyRight_spec ?_
  rintro r w4 ⟨rfl, rfl⟩
  have hend : ∀ K' : Value → World → Prop, (∀ w', Fr0 w w' → K' zeroN w') → Uu Try.prog (Instr.storeAt 27 (.pointer (some ⟨b6, 0, none⟩)) zeroN) (fun _ w => optK ((cellsAt w b6 0 4).map fun vs => .agg vs.toArray) K' w) w4 := by
    intro K' hK'
    refine stn_27 hb6 rfl (one4 rfl rfl rfl) (by simp) fun w5 hb hf5 => ?_
    have hb : Blk w5 b6 27 [.bool false, .slice none 0 0, .slice none 0 0, .slice none 0 0] := hb
    simp only [hb.cells (n := 4) rfl, Option.map_some, optK_some]
    have := hf1.size
    exact hK' _ ((hf02.trans hf3).step hf5 fun i hi h => by omega)
  cases h1 : kr key with
  | false =>
    simp only [Pu_not, Bool.not_false, Gd_tf, Pu_pick_t, iteE_true]
    rw [bd_zero]
    refine hend _ ?_
    intro w' hf
    exact hK _ _ ⟨rfl, hf⟩
  | true =>
    have h2 : vr value = false := by rw [h1] at hbad; simpa using hbad
    simp only [Pu_not, Bool.not_true, Gd_ff]
    refine call_16 valueRight_spec ?_
    rintro r w5 ⟨rfl, rfl⟩
    simp only [h2, Pu_not, Gd_ff, Bool.not_false, Pu_pick_or, Bool.false_or, iteE_true]
    rw [bd_zero]
    refine hend _ ?_
    intro w' hf
    exact hK _ _ ⟨rfl, hf⟩

/-- What Put makes of keys and values. -/
def putK (ks : List ByteArray) (key : ByteArray) : List ByteArray := if ks[lows ks key]? = some key then ks else ks.take (lows ks key) ++ [key] ++ ks.drop (lows ks key)
def putV (ks vs : List ByteArray) (key value : ByteArray) : List ByteArray := if ks[lows ks key]? = some key then vs.set (lows ks key) value else vs.take (lows ks key) ++ [value] ++ vs.drop (lows ks key)
theorem Put_spec {w : World} {n : Value} {ks vs : List ByteArray} {key value : ByteArray} (hn : NodeS w n true ks vs []) (hc : chk true ks vs [] false = 0) (ha : Asc ks) (hl : vs.length = ks.length) (hok : (kr key && vr value) = true)
    (hfit : (ks.length + 1) * 16 ≤ 140737488355328) :
    Calls Try.prog 6 #[n, .string key, .string value] w (RetK fun r w' => ∃ m, r = .tuple #[m, .int .i64 0] ∧ OwnN w' m true (putK ks key) (putV ks vs key value) [] ∧ Fr0 w w' ∧ ∀ g, nodeB m g → w.heap.size ≤ g) := by
  obtain ⟨k, v, d, rfl, hk, hv, hd⟩ := id hn
  simp only [Bool.and_eq_true] at hok
  refine H6_in _ _ _ fun K hK => ?_
  unfold H6
  refine box_new fun b3 w1 hb3 hf1 hge3 => ?_
  have hb3 : Blk w1 b3 27 [.bool true, k, v, d] := hb3
  refine aln_27 fun b6 w2 hb6 hf2 hge6 => ?_
  have hb6 : Blk w2 b6 27 [.bool false, .slice none 0 0, .slice none 0 0, .slice none 0 0] := hb6
  have l6 := hb6.lt
  have l3 := hb3.lt
  have hb3 := hb3.mono hf2 (fun h => h)
  have hf02 := hf1.trans hf2
  simp only [if_27_0, ld_4, hb3.cell, List.getElem?_cons_zero, optK_some, Pu_not, Bool.not_true, Gd_ff, ld_27, hb3.cells (n := 4) rfl, Option.map_some]
  refine call_14 (Check_spec (hn.mono0 hf02)) ?_
  rintro r w3 ⟨rfl, hf3⟩
  have hb3 := hb3.mono hf3 (fun h => h)
  have hb6 := hb6.mono hf3 (fun h => h)
  simp only [hc, Rd_neq, ne_eq, not_true, decide_false, Gd_ff, Pu_pick_or, Bool.or_self, iteE_false]
  refine call_15 keyRight_spec ?_
  rintro r w3' ⟨rfl, rfl⟩
  simp only [hok.1, Pu_not, Bool.not_true, Gd_ff]
  refine call_16 valueRight_spec ?_
  rintro r w3'' ⟨rfl, rfl⟩
  simp only [hok.2, Pu_not, Gd_ff, Bool.not_true, Pu_pick_or, Bool.or_self, iteE_false, ld_27, hb3.cells (n := 4) rfl, Option.map_some, optK_some]
  have hf03 := hf02.trans hf3
  refine call_12 (copied_spec (hn.mono0 hf03) (by omega) (by omega) (by simp)) ?_
  rintro r w4 ⟨⟨k', v', d', rfl, hk', hv', hd', hkv, hkd, hvd⟩, hf4, hn4⟩
  have nk : ∀ g, blkOf k' = some g → w3''.heap.size ≤ g ∧ g < w4.heap.size := fun g hg => ⟨hn4 g (nodeB_iff.2 (.inl hg)), hk'.lt hg⟩
  have nv : ∀ g, blkOf v' = some g → w3''.heap.size ≤ g ∧ g < w4.heap.size := fun g hg => ⟨hn4 g (nodeB_iff.2 (.inr (.inl hg))), hv'.lt hg⟩
  have nd : ∀ g, blkOf d' = some g → w3''.heap.size ≤ g ∧ g < w4.heap.size := fun g hg => ⟨hn4 g (nodeB_iff.2 (.inr (.inr hg))), hd'.lt hg⟩
  have hb3 := hb3.mono hf4 (fun h => h)
  have hb6 := hb6.mono hf4 (fun h => h)
  refine aln_27 fun b8 w5 hb8 hf5 hge8 => ?_
  have hb8 : Blk w5 b8 27 [.bool false, .slice none 0 0, .slice none 0 0, .slice none 0 0] := hb8
  have hb3 := hb3.mono hf5 (fun h => h)
  have hb6 := hb6.mono hf5 (fun h => h)
  have s1 := hf1.size
  have s2 := hf2.size
  have s3 := hf3.size
  have s4 := hf4.size
  have s5 := hf5.size
  refine stn_27 hb8 rfl (one4 hk'.cells.2 hv'.cells.2 hd'.cells.2) (by simp) fun w6 hb8 hf6 => ?_
  have hb8 : Blk w6 b8 27 [.bool true, k', v', d'] := hb8
  have l8 := hb8.lt
  have hb3 := hb3.mono hf6 (fun h => by omega)
  have hb6 := hb6.mono hf6 (fun h => by omega)
  have hf06 : Fr0 w w6 := ((hf03.trans hf4).trans hf5).step hf6 (fun i hi h => by omega)
  simp only [ld_27, hb3.cells (n := 4) rfl, Option.map_some, optK_some]
  refine call_10 (Find_leaf (hn.mono0 hf06) ha) ?_
  rintro r w7 ⟨rfl, hf7⟩
  have hb6 := hb6.mono hf7 (fun h => h)
  have hb8 := hb8.mono hf7 (fun h => h)
  have hf07 := hf06.trans hf7
  have hk7 : OwnS w7 k' ks := ((hk'.mono0 hf5).mono hf6 (fun g hg h => by have := nk g hg; omega)).mono0 hf7
  have hv7 : OwnS w7 v' vs := ((hv'.mono0 hf5).mono hf6 (fun g hg h => by have := nv g hg; omega)).mono0 hf7
  have hd7 : OwnI w7 d' [] := ((hd'.mono hf5 (fun _ _ h => h)).mono hf6 (fun g hg h => by have := nd g hg; omega)).mono hf7 (fun _ _ h => h)
  have s6 := hf6.size
  have s7 := hf7.size
  have hll := lows_le ks key
  have hge8' : w3''.heap.size ≤ b8 := by omega
  by_cases his : ks[lows ks key]? = some key
  · have hlt : lows ks key < ks.length := (List.getElem?_eq_some_iff.1 his).1
    simp only [Pu_extract, his, decide_true, List.getElem?_toArray, List.getElem?_cons_zero, List.getElem?_cons_succ, optK_some, iteE_true, if_27_2, ld_24, hb8.cell, Nat.zero_add]
    refine set_S hv7 (by omega) fun w8 hv8 hf8 => ?_
    have hb6 := hb6.mono hf8 (fun h => by have := nv _ h; omega)
    have hb8 := hb8.mono hf8 (fun h => by have := nv _ h; omega)
    simp only [ld_27, hb8.cells (n := 4) rfl, Option.map_some, optK_some]
    refine stn_27 hb6 rfl (one4 hk'.cells.2 hv'.cells.2 hd'.cells.2) (by simp) fun w9 hb9 hf9 => ?_
    have hb9 : Blk w9 b6 27 [.bool true, k', v', d'] := hb9
    simp only [ld_27, hb9.cells (n := 4) rfl, Option.map_some, optK_some]
    refine hK _ _ ⟨_, rfl, ⟨k', v', d', rfl, ?_, ?_, ?_, hkv, hkd, hvd⟩, ?_, ?_⟩
    · rw [putK, if_pos his]
      exact (hk7.mono hf8 fun g hg h => hkv g hg h).mono hf9 fun g hg h => by have := nk g hg; omega
    · rw [putV, if_pos his]
      exact hv8.mono hf9 fun g hg h => by have := nv g hg; omega
    · exact (hd7.mono hf8 fun g hg h => hvd g h hg).mono hf9 fun g hg h => by have := nd g hg; omega
    · exact (hf07.step hf8 fun i hi h => by have := nv _ h; omega).step hf9 fun i hi h => by omega
    · intro g hg
      rcases nodeB_iff.1 hg with h | h | h
      · have := nk g h; omega
      · have := nv g h; omega
      · have := nd g h; omega
  · simp only [Pu_extract, his, decide_false, List.getElem?_toArray, List.getElem?_cons_zero, List.getElem?_cons_succ, optK_some, iteE_false, if_27_1, ld_24, hb8.cell, Nat.zero_add]
    refine bs_one fun c1 w8 hc1 hf8 hnc1 => ?_
    have s8 := hf8.size
    refine call_17 (InsertS (hk7.mono0 hf8) hc1 hll (by simp) (by simpa using hfit) (fun g hg h => by have := nk g hg; have := hnc1 g h; omega)) ?_
    rintro k2 w9 ⟨hk9, hf9, hn9⟩
    have s9 := hf9.size
    have nk2 : ∀ g, blkOf k2 = some g → (blkOf k' = some g ∨ w8.heap.size ≤ g) ∧ g < w9.heap.size := fun g hg => ⟨hn9 g hg, hk9.lt hg⟩
    have hb6 := (hb6.mono hf8 (fun h => h)).mono hf9 (fun h => by have := nk _ h; omega)
    have hb8 := (hb8.mono hf8 (fun h => h)).mono hf9 (fun h => by have := nk _ h; omega)
    refine stn_24 hb8 (by rw [hk9.cells.1]; rfl) (by rw [hk9.cells.1]; intro u hu; simp at hu; subst hu; exact hk9.cells.2) (by simp) fun w10 hb8 hf10 => ?_
    have hb8 : Blk w10 b8 27 [.bool true, k2, v', d'] := by rw [hk9.cells.1] at hb8; exact hb8
    have hb6 := hb6.mono hf10 (fun h => by omega)
    simp only [if_27_2, ld_24, hb8.cell, List.getElem?_cons_zero, List.getElem?_cons_succ, optK_some, Nat.zero_add]
    refine bs_one fun c2 w11 hc2 hf11 hnc2 => ?_
    have s10 := hf10.size
    have s11 := hf11.size
    have hb6 := hb6.mono hf11 (fun h => h)
    have hb8 := hb8.mono hf11 (fun h => h)
    have hv11 : OwnS w11 v' vs := (((hv7.mono0 hf8).mono hf9 fun g hg h => hkv g h hg).mono hf10 fun g hg h => by have := nv g hg; omega).mono0 hf11
    refine call_17 (InsertS (i := lows ks key) hv11 hc2 (by omega) (by simp) (by simp; omega) (fun g hg h => by have := nv g hg; have := hnc2 g h; omega)) ?_
    rintro v2 w12 ⟨hv12, hf12, hn12⟩
    have s12 := hf12.size
    have nv2 : ∀ g, blkOf v2 = some g → (blkOf v' = some g ∨ w11.heap.size ≤ g) ∧ g < w12.heap.size := fun g hg => ⟨hn12 g hg, hv12.lt hg⟩
    have hb6 := hb6.mono hf12 (fun h => by have := nv _ h; omega)
    have hb8 := hb8.mono hf12 (fun h => by have := nv _ h; omega)
    refine stn_24 hb8 (by rw [hv12.cells.1]; rfl) (by rw [hv12.cells.1]; intro u hu; simp at hu; subst hu; exact hv12.cells.2) (by simp) fun w13 hb8 hf13 => ?_
    have hb8 : Blk w13 b8 27 [.bool true, k2, v2, d'] := by rw [hv12.cells.1] at hb8; exact hb8
    have hb6 := hb6.mono hf13 (fun h => by omega)
    simp only [hb8.cells (n := 4) rfl, Option.map_some, optK_some]
    refine stn_27 hb6 rfl (one4 hk9.cells.2 hv12.cells.2 hd'.cells.2) (by simp) fun w14 hb14 hf14 => ?_
    have hb14 : Blk w14 b6 27 [.bool true, k2, v2, d'] := hb14
    simp only [hb14.cells (n := 4) rfl, Option.map_some, optK_some]
    have k2n : ∀ g, blkOf k2 = some g → w3''.heap.size ≤ g ∧ g ≠ b8 ∧ blkOf v' ≠ some g := fun g hg => by
      rcases (nk2 g hg).1 with h | h
      · have := nk g h; exact ⟨by omega, by omega, hkv g h⟩
      · exact ⟨by omega, by omega, fun h' => by have := nv g h'; omega⟩
    have v2n : ∀ g, blkOf v2 = some g → w3''.heap.size ≤ g ∧ g ≠ b8 ∧ blkOf k2 ≠ some g := fun g hg => by
      rcases (nv2 g hg).1 with h | h
      · have := nv g h; exact ⟨by omega, by omega, fun h' => (k2n g h').2.2 h⟩
      · exact ⟨by omega, by omega, fun h' => by have := nk2 g h'; omega⟩
    have k2d : ∀ g, blkOf k2 = some g → blkOf d' ≠ some g := fun g hg hd => by
      have := nd g hd
      rcases (nk2 g hg).1 with h | h
      · exact hkd g h hd
      · omega
    have v2d : ∀ g, blkOf v2 = some g → blkOf d' ≠ some g := fun g hg hd => by
      have := nd g hd
      rcases (nv2 g hg).1 with h | h
      · exact hvd g h hd
      · omega
    refine hK _ _ ⟨_, rfl, ⟨k2, v2, d', rfl, ?_, ?_, ?_, fun g h h' => (v2n g h').2.2 h, k2d, v2d⟩, ?_, ?_⟩
    · rw [putK, if_neg his]
      exact ((((hk9.mono hf10 fun g hg h => (k2n g hg).2.1 h).mono0 hf11).mono hf12 fun g hg h => (k2n g hg).2.2 h).mono hf13 fun g hg h => (k2n g hg).2.1 h).mono hf14 fun g hg h => by have := k2n g hg; omega
    · rw [putV, if_neg his]
      exact (hv12.mono hf13 fun g hg h => (v2n g hg).2.1 h).mono hf14 fun g hg h => by have := v2n g hg; omega
    · exact ((((((hd7.mono hf8 fun _ _ h => h).mono hf9 fun g hg h => hkd g h hg).mono hf10 fun g hg h => by have := nd g hg; omega).mono hf11 fun _ _ h => h).mono hf12 fun g hg h => hvd g h hg).mono hf13 fun g hg h => by have := nd g hg; omega).mono hf14 fun g hg h => by have := nd g hg; omega
    · exact ((((((hf07.trans hf8).step hf9 fun i hi h => by have := nk _ h; omega).step hf10 fun i hi h => by omega).trans hf11).step hf12 fun i hi h => by have := nv _ h; omega).step hf13 fun i hi h => by omega).step hf14 fun i hi h => by omega
    · intro g hg
      rcases nodeB_iff.1 hg with h | h | h
      · have := k2n g h; omega
      · have := v2n g h; omega
      · have := nd g h; omega

/-! ### Remove -/
def remL {α : Type} (ks : List ByteArray) (key : ByteArray) (xs : List α) : List α := if ks[lows ks key]? = some key then xs.take (lows ks key) ++ xs.drop (lows ks key + 1) else xs
theorem Remove_spec {w : World} {n : Value} {ks vs : List ByteArray} {key : ByteArray} (hn : NodeS w n true ks vs []) (ha : Asc ks) (hl : vs.length = ks.length) (hfit : ks.length * 16 ≤ 140737488355328) :
    Calls Try.prog 5 #[n, .string key] w (RetK fun r w' => ∃ m, r = .tuple #[m, .bool (decide (ks[lows ks key]? = some key))] ∧ OwnN w' m true (remL ks key ks) (remL ks key vs) [] ∧ Fr0 w w' ∧ ∀ g, nodeB m g → w.heap.size ≤ g) := by
  obtain ⟨k, v, d, rfl, hk, hv, hd⟩ := id hn
  obtain ⟨Av, cv, rfl, _⟩ := id hv.out
  refine H5_in _ _ fun K hK => ?_
  unfold H5
  refine box_new fun b3 w1 hb3 hf1 hge3 => ?_
  have hb3 : Blk w1 b3 27 [.bool true, k, .slice Av vs.length cv, d] := hb3
  refine aln_27 fun b6 w2 hb6 hf2 hge6 => ?_
  have hb6 : Blk w2 b6 27 [.bool false, .slice none 0 0, .slice none 0 0, .slice none 0 0] := hb6
  have l6 := hb6.lt
  have l3 := hb3.lt
  have hb3 := hb3.mono hf2 (fun h => h)
  have hf02 := hf1.trans hf2
  simp only [ld_27, hb3.cells (n := 4) rfl, Option.map_some, optK_some]
  refine call_12 (copied_spec (hn.mono0 hf02) (by omega) (by omega) (by simp)) ?_
  rintro r w4 ⟨⟨k', v', d', rfl, hk', hv', hd', hkv, hkd, hvd⟩, hf4, hn4⟩
  have nk : ∀ g, blkOf k' = some g → w2.heap.size ≤ g ∧ g < w4.heap.size := fun g hg => ⟨hn4 g (nodeB_iff.2 (.inl hg)), hk'.lt hg⟩
  have nv : ∀ g, blkOf v' = some g → w2.heap.size ≤ g ∧ g < w4.heap.size := fun g hg => ⟨hn4 g (nodeB_iff.2 (.inr (.inl hg))), hv'.lt hg⟩
  have nd : ∀ g, blkOf d' = some g → w2.heap.size ≤ g ∧ g < w4.heap.size := fun g hg => ⟨hn4 g (nodeB_iff.2 (.inr (.inr hg))), hd'.lt hg⟩
  have hb3 := hb3.mono hf4 (fun h => h)
  have hb6 := hb6.mono hf4 (fun h => h)
  refine aln_27 fun b8 w5 hb8 hf5 hge8 => ?_
  have hb8 : Blk w5 b8 27 [.bool false, .slice none 0 0, .slice none 0 0, .slice none 0 0] := hb8
  have hb3 := hb3.mono hf5 (fun h => h)
  have hb6 := hb6.mono hf5 (fun h => h)
  have s1 := hf1.size
  have s2 := hf2.size
  have s4 := hf4.size
  have s5 := hf5.size
  refine stn_27 hb8 rfl (one4 hk'.cells.2 hv'.cells.2 hd'.cells.2) (by simp) fun w6 hb8 hf6 => ?_
  have hb8 : Blk w6 b8 27 [.bool true, k', v', d'] := hb8
  have l8 := hb8.lt
  have hb3 := hb3.mono hf6 (fun h => by omega)
  have hb6 := hb6.mono hf6 (fun h => by omega)
  have hf06 : Fr0 w w6 := ((hf02.trans hf4).trans hf5).step hf6 (fun i hi h => by omega)
  simp only [hb3.cells (n := 4) rfl, Option.map_some, optK_some]
  refine call_10 (Find_leaf (hn.mono0 hf06) ha) ?_
  rintro r w7 ⟨rfl, hf7⟩
  have hb3 := hb3.mono hf7 (fun h => h)
  have hb6 := hb6.mono hf7 (fun h => h)
  have hb8 := hb8.mono hf7 (fun h => h)
  have hf07 := hf06.trans hf7
  have hk7 : OwnS w7 k' ks := ((hk'.mono0 hf5).mono hf6 (fun g hg h => by have := nk g hg; omega)).mono0 hf7
  have hv7 : OwnS w7 v' vs := ((hv'.mono0 hf5).mono hf6 (fun g hg h => by have := nv g hg; omega)).mono0 hf7
  have hd7 : OwnI w7 d' [] := ((hd'.mono hf5 (fun _ _ h => h)).mono hf6 (fun g hg h => by have := nd g hg; omega)).mono hf7 (fun _ _ h => h)
  have s6 := hf6.size
  have s7 := hf7.size
  have hll := lows_le ks key
  by_cases his : ks[lows ks key]? = some key
  · have hlt : lows ks key < ks.length := (List.getElem?_eq_some_iff.1 his).1
    have hlt2 : ¬ ((vs.length : Int) ≤ (lows ks key : Int)) := by omega
    have e1 : IntKind.i64.wrap ((lows ks key : Int) + 1) = ((lows ks key + 1 : Nat) : Int) := by rw [wrap_i64] <;> omega
    simp only [Pu_extract, his, decide_true, List.getElem?_toArray, List.getElem?_cons_zero, List.getElem?_cons_succ, optK_some, Pu_not, Bool.not_true, Gd_ff, if_27_2, if_27_1, ld_24, hb3.cell, hb8.cell, Nat.zero_add, ln_24, Pu_geq, hlt2, decide_false, Pu_pick_or, Bool.or_self, iteE_false, Pu_add, e1]
    refine call_13 (DeleteS hk7 (by omega) (by omega) (by omega)) ?_
    rintro k2 w9 ⟨hk9, hf9, hn9⟩
    have s9 := hf9.size
    have hb6 := hb6.mono hf9 (fun h => by have := nk _ h; omega)
    have hb8 := hb8.mono hf9 (fun h => by have := nk _ h; omega)
    refine stn_24 hb8 (by rw [hk9.cells.1]; rfl) (by rw [hk9.cells.1]; intro u hu; simp at hu; subst hu; exact hk9.cells.2) (by simp) fun w10 hb8 hf10 => ?_
    have hb8 : Blk w10 b8 27 [.bool true, k2, v', d'] := by rw [hk9.cells.1] at hb8; exact hb8
    have hb6 := hb6.mono hf10 (fun h => by omega)
    have s10 := hf10.size
    simp only [hb8.cell, List.getElem?_cons_zero, List.getElem?_cons_succ, optK_some]
    have hv10 : OwnS w10 v' vs := (hv7.mono hf9 fun g hg h => hkv g h hg).mono hf10 fun g hg h => by have := nv g hg; omega
    refine call_13 (DeleteS (i := lows ks key) (j := lows ks key + 1) hv10 (by omega) (by omega) (by omega)) ?_
    rintro v2 w12 ⟨hv12, hf12, hn12⟩
    have s12 := hf12.size
    have hb6 := hb6.mono hf12 (fun h => by have := nv _ h; omega)
    have hb8 := hb8.mono hf12 (fun h => by have := nv _ h; omega)
    refine stn_24 hb8 (by rw [hv12.cells.1]; rfl) (by rw [hv12.cells.1]; intro u hu; simp at hu; subst hu; exact hv12.cells.2) (by simp) fun w13 hb8 hf13 => ?_
    have hb8 : Blk w13 b8 27 [.bool true, k2, v2, d'] := by rw [hv12.cells.1] at hb8; exact hb8
    have hb6 := hb6.mono hf13 (fun h => by omega)
    simp only [ld_27, hb8.cells (n := 4) rfl, Option.map_some, optK_some]
    refine stn_27 hb6 rfl (one4 hk9.cells.2 hv12.cells.2 hd'.cells.2) (by simp) fun w14 hb14 hf14 => ?_
    have hb14 : Blk w14 b6 27 [.bool true, k2, v2, d'] := hb14
    simp only [ld_27, hb14.cells (n := 4) rfl, Option.map_some, optK_some]
    refine hK _ _ ⟨.agg #[.bool true, k2, v2, d'], by simp [his], ⟨k2, v2, d', rfl, ?_, ?_, ?_, fun g h h' => hkv g (hn9 g h) (hn12 g h'), fun g h h' => hkd g (hn9 g h) h', fun g h h' => hvd g (hn12 g h) h'⟩, ?_, ?_⟩
    · rw [remL, if_pos his]
      exact (((hk9.mono hf10 fun g hg h => by have := nk g (hn9 g hg); omega).mono hf12 fun g hg h => hkv g (hn9 g hg) h).mono hf13 fun g hg h => by have := nk g (hn9 g hg); omega).mono hf14 fun g hg h => by have := nk g (hn9 g hg); omega
    · rw [remL, if_pos his]
      exact (hv12.mono hf13 fun g hg h => by have := nv g (hn12 g hg); omega).mono hf14 fun g hg h => by have := nv g (hn12 g hg); omega
    · exact ((((hd7.mono hf9 fun g hg h => hkd g h hg).mono hf10 fun g hg h => by have := nd g hg; omega).mono hf12 fun g hg h => hvd g h hg).mono hf13 fun g hg h => by have := nd g hg; omega).mono hf14 fun g hg h => by have := nd g hg; omega
    · exact ((((hf07.step hf9 fun i hi h => by have := nk _ h; omega).step hf10 fun i hi h => by omega).step hf12 fun i hi h => by have := nv _ h; omega).step hf13 fun i hi h => by omega).step hf14 fun i hi h => by omega
    · intro g hg
      rcases nodeB_iff.1 hg with h | h | h
      · have := nk g (hn9 g h); omega
      · have := nv g (hn12 g h); omega
      · have := nd g h; omega
  · simp only [Pu_extract, his, decide_false, List.getElem?_toArray, List.getElem?_cons_zero, List.getElem?_cons_succ, optK_some, Pu_not, Bool.not_false, Gd_tf, Pu_pick_t, iteE_true, ld_27, hb8.cells (n := 4) rfl, Option.map_some, optK_some]
    refine stn_27 hb6 rfl (one4 hk'.cells.2 hv'.cells.2 hd'.cells.2) (by simp) fun w14 hb14 hf14 => ?_
    have hb14 : Blk w14 b6 27 [.bool true, k', v', d'] := hb14
    simp only [ld_27, hb14.cells (n := 4) rfl, Option.map_some, optK_some]
    refine hK _ _ ⟨.agg #[.bool true, k', v', d'], by simp [his], ⟨k', v', d', rfl, ?_, ?_, ?_, hkv, hkd, hvd⟩, ?_, ?_⟩
    · rw [remL, if_neg his]
      exact hk7.mono hf14 fun g hg h => by have := nk g hg; omega
    · rw [remL, if_neg his]
      exact hv7.mono hf14 fun g hg h => by have := nv g hg; omega
    · exact hd7.mono hf14 fun g hg h => by have := nd g hg; omega
    · exact hf07.step hf14 fun i hi h => by omega
    · intro g hg
      rcases nodeB_iff.1 hg with h | h | h
      · have := nk g h; omega
      · have := nv g h; omega
      · have := nd g h; omega
end Go.Proofs
