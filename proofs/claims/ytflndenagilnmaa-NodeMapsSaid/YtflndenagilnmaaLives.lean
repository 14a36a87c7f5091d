/-
  node.Encode of a leaf, 512 bytes; deduplaw09.two, lives. Own work.
-/
import Derived.Test.YtflndenagilnmaaEncode
set_option linter.unusedVariables false
set_option linter.unusedSimpArgs false
set_option maxRecDepth 10000
namespace Go.Proofs
open Go Hx

theorem sizeRight512 {w : World} : Calls Try.prog 18 #[.int .i64 512] w (RetK fun r w' => r = .bool true ∧ w' = w) := by
  refine H18_in _ fun K hK => ?_
  unfold H18
  have e1 : IntKind.i64.wrap ((512 : Int) - 1) = 511 := by decide
  have e2 : IntKind.i64.wrap (BitVec.ofInt IntKind.i64.bits 512 &&& BitVec.ofInt IntKind.i64.bits 511).toNat = 0 := by decide
  simp only [Pu_geq, Pu_leq, show decide ((512 : Int) ≤ 512) = true from rfl, show decide ((512 : Int) ≤ 4096) = true from rfl, Gd_tt, Pu_pick_and, Bool.and_self, Pu_sub, e1, Pu_and, e2, Rd_eql, show decide ((0 : Int) = 0) = true from rfl]
  exact hK _ _ ⟨rfl, rfl⟩
theorem Encode_leaf {w : World} {n : Value} {ks vs : List ByteArray} (hn : NodeS w n true ks vs []) (hc : chk true ks vs [] false = 0) (hl : vs.length = ks.length) (hks : ∀ s ∈ ks, s.size ≤ 1000000) (hvs : ∀ s ∈ vs, s.size ≤ 1000000) (hfit : 16 + (entL ks vs).sum ≤ 512) :
    Calls Try.prog 8 #[.int .i64 512, n] w (RetK fun r w' => (∃ g c cs, r = .tuple #[.slice (some ⟨g, 0, none⟩) 512 c, .int .i64 0] ∧ Blk w' g 5 cs ∧ cs[0]? = some (.int .u8 68)) ∧ Fr0 w w') := by
  obtain ⟨k, v, d, rfl, hk, hv, hd⟩ := id hn
  obtain ⟨A, c, rfl, hc', hm, hA⟩ := id hk.out
  refine H8_in _ _ fun K hK => ?_
  unfold H8
  refine box_new fun b1 w1 hb1 hf1 hge1 => ?_
  have hb1 : Blk w1 b1 27 [.bool true, .slice A ks.length c, v, d] := hb1
  simp only [ld_27, hb1.cells (n := 4) rfl, Option.map_some, optK_some]
  refine call_14 (Check_spec (hn.mono0 hf1)) ?_
  rintro r w2 ⟨rfl, hf2⟩
  have hb2 := hb1.mono hf2 (fun h => h)
  simp only [hc, Rd_neq, ne_eq, not_true, decide_false, iteE_false]
  refine call_18 sizeRight512 ?_
  rintro r w2' ⟨rfl, rfl⟩
  simp only [Pu_not, Bool.not_true, iteE_false, ld_27, hb2.cells (n := 4) rfl, Option.map_some, optK_some]
  refine call_11 (Size_leaf (hn.mono0 (hf1.trans hf2)) hl hks hvs (by omega)) ?_
  rintro r w3 ⟨rfl, hf3⟩
  have hb3 := hb2.mono hf3 (fun h => h)
  have h512 : ¬ ((512 : Int) < ((16 + (entL ks vs).sum : Nat) : Int)) := by omega
  simp only [Pu_gtr, h512, decide_false, iteE_false, if_27_0, ld_4, hb3.cell, List.getElem?_cons_zero, optK_some, iteE_true]
  unfold H8_1
  simp only [ld_27, hb3.cells (n := 4) rfl, Option.map_some, optK_some]
  have hf03 := (hf1.trans hf2).trans hf3
  refine call_19 (entries_leaf (hn.mono0 hf03) hl hks hvs (by omega)) ?_
  rintro r w4 ⟨⟨body, rfl, hbody⟩, hf4⟩
  have hb4 := hb3.mono hf4 (fun h => h)
  refine call_20 (by simpa using NewWriter_spec (w := w4) (most := 512) (by omega)) ?_
  rintro wr w5 ⟨hw5, hf5⟩
  have hb5 := hb4.mono hf5 (fun h => h)
  have l4 := hb4.lt
  have s1 := hf1.size
  have s2 := hf2.size
  have s3 := hf3.size
  have s4 := hf4.size
  have s5 := hf5.size
  have hf05 := (hf03.trans hf4).trans hf5
  generalize hB : w4.heap.size = B at hw5
  refine call_21 (Raw_spec hw5 (by omega) (by decide)) ?_
  rintro r w6 ⟨rfl, hw6, hf6⟩
  have s6 := hf6.size
  have hb6 := hb5.mono hf6 (fun h => by omega)
  have hlen : (strB { data := #[68, 78, 79, 68] }).length = 4 := by decide
  refine call_22 (U8_spec hw6 (by omega) (by simp [hlen])) ?_
  rintro r w7 ⟨rfl, ⟨x1, hx1, hw7⟩, hf7⟩
  have s7 := hf7.size
  have hb7 := hb6.mono hf7 (fun h => by omega)
  refine call_22 (U8_spec hw7 (by omega) (by simp [hlen, hx1])) ?_
  rintro r w8 ⟨rfl, ⟨x2, hx2, hw8⟩, hf8⟩
  have s8 := hf8.size
  have hb8 := hb7.mono hf8 (fun h => by omega)
  simp only [if_27_1, ld_24, hb8.cell, List.getElem?_cons_zero, List.getElem?_cons_succ, optK_some, Nat.zero_add, ln_24, cv_3_56]
  refine call_23 (U16_spec hw8 (by omega) (by simp [hlen, hx1, hx2])) ?_
  rintro r w9 ⟨rfl, ⟨x3, hx3, hw9⟩, hf9⟩
  have s9 := hf9.size
  simp only [ln_9, cv_3_58]
  refine call_24 (U32_spec hw9 (by omega) (by simp [hlen, hx1, hx2, hx3])) ?_
  rintro r w10 ⟨rfl, ⟨x4, hx4, hw10⟩, hf10⟩
  have s10 := hf10.size
  refine call_25 (Done_spec hw10) ?_
  rintro r w10' ⟨rfl, rfl⟩
  simp only [Pu_extract, List.getElem?_toArray, List.getElem?_cons_zero, List.getElem?_cons_succ, optK_some]
  have hsz : (strOfNums ([] ++ strB { data := #[68, 78, 79, 68] } ++ x1 ++ x2 ++ x3 ++ x4)).size = 12 := by rw [strOfNums_size]; simp [hlen, hx1, hx2, hx3, hx4]
  rw [Pu_sadd (by rw [hsz]; omega)]
  refine call_26 (Crc_spec (by rw [ByteArray.size_append, hsz]; omega)) ?_
  rintro r w11 ⟨⟨crc, rfl⟩, hf11⟩
  have s11 := hf11.size
  refine call_24 (U32_spec (hw10.mono0 hf11) (by omega) (by simp [hlen, hx1, hx2, hx3, hx4])) ?_
  rintro r w12 ⟨rfl, ⟨x5, hx5, hw12⟩, hf12⟩
  have s12 := hf12.size
  refine call_21 (Raw_spec hw12 (by omega) (by simp [hlen, hx1, hx2, hx3, hx4, hx5]; omega)) ?_
  rintro r w13 ⟨rfl, hw13, hf13⟩
  have s13 := hf13.size
  refine call_25 (Done_spec hw13) ?_
  rintro r w13' ⟨rfl, rfl⟩
  simp only [Pu_extract, List.getElem?_toArray, List.getElem?_cons_zero, List.getElem?_cons_succ, optK_some]
  change Rr Try.prog (Instr.makeSlice 37 (.int .i64 ((512 : Nat) : Int)) (.int .i64 ((512 : Nat) : Int))) _ _
  refine mk_B (by omega) fun t w14 ht hf14 hnew htc => ?_
  generalize hall : [] ++ strB { data := #[68, 78, 79, 68] } ++ x1 ++ x2 ++ x3 ++ x4 ++ x5 ++ strB body = all
  have hlall : all.length = 16 + body.size := by rw [← hall]; simp [hlen, hx1, hx2, hx3, hx4, hx5, strB_length]; omega
  have hall0 : all[0]? = some 68 := by
    rw [← hall]
    have : strB { data := #[68, 78, 79, 68] } = [68, 78, 79, 68] := by decide
    simp [this]
  obtain ⟨hl1, ⟨rfl, h0⟩ | ⟨g, cap, cs, rfl, hr, hcap, htk⟩⟩ := ht
  · simp at h0
  have hcl : cs.length = cap := by simpa using hr.len
  have hcap' : 512 ≤ cap := by simpa using hcap
  simp only [List.length_replicate]
  rw [cys_37_9 hr.blk (by rw [strOfNums_size]; omega) (by rw [strOfNums_size]; omega)]
  have hgn : w13'.heap.size ≤ g := hnew g rfl
  refine hK _ _ ⟨⟨g, cap, _, rfl, hr.blk.setCells _ _, ?_⟩, ?_⟩
  · rw [setL_get _ _ _ _ (by rw [byteCells_length, strOfNums_size]; omega), if_pos (by rw [byteCells_length, strOfNums_size]; omega)]
    unfold byteCells
    simp only [Nat.sub_zero, List.getElem?_map, strOfNums_data, hall0, Option.map_some]
    rfl
  · have hBB : FrB B w5 w13' := ((((((hf6.trans hf7).trans hf8).trans hf9).trans hf10).trans (hf11.of0)).trans hf12).trans hf13
    exact ((hf05.step hBB fun i hi h => by omega).trans hf14).step (Fr.setCells (S := fun k => k = g) (.inr rfl) _ _ (Fr.refl _ _)) fun i hi h => by omega
def twoK : List ByteArray := [{ data := #[97] }, { data := #[98, 98] }]
def twoV : List ByteArray := [{ data := #[49] }, { data := #[50, 50] }]
theorem bs_two {K : Value → World → Prop} {w : World} {a b : ByteArray} (h : ∀ v w', OwnS w' v [a, b] → Fr0 w w' → NewB w v → K v w') : Rr Try.prog (Instr.buildSlice 24 2 ⟨[(0, .string a), (1, .string b)]⟩) K w := by
  rw [bs_24 (cells := #[.string a, .string b]) (by decide) (by
    have : ∀ s : ByteArray, (Value.string s).cells = #[.string s] := fun _ => rfl
    simp [Instr.fill, this, Array.range]
    rfl)]
  refine h _ _ ?_ ((Fr.refl _ w).alloc _) fun k hk => by simp at hk; omega
  have := Own.new (w := w) (e := 9) (sz := 1) [.string a, .string b] 2 2 [.string a, .string b] rfl (by omega) (by decide) rfl
  exact this
theorem two_spec {w : World} : Calls Try.prog 9 #[] w (RetK fun r w' => NodeS w' r true twoK twoV [] ∧ Fr0 w w') := by
  refine H9_in fun K hK => ?_
  unfold H9
  refine aln_27 fun b w1 hb hf1 hge => ?_
  have hb : Blk w1 b 27 [.bool false, .slice none 0 0, .slice none 0 0, .slice none 0 0] := hb
  have l1 := hb.lt
  refine bs_two fun k w2 hk hf2 hnk => ?_
  refine bs_two fun v w3 hv hf3 hnv => ?_
  have hk := hk.mono0 hf3
  rw [bd_27]
  have hz : (Value.agg #[.bool false, .slice none 0 0, .slice none 0 0, .slice none 0 0]).cells = #[.bool false, .slice none 0 0, .slice none 0 0, .slice none 0 0] := rfl
  have h0 : (Value.bool true).cells = #[.bool true] := rfl
  simp [Instr.fill, hz, h0, hk.cells.1, hv.cells.1]
  have hb := (hb.mono hf2 (fun h => h)).mono hf3 (fun h => h)
  refine stn_27 hb rfl (one4 hk.cells.2 hv.cells.2 rfl) (by simp) fun w4 hb4 hf4 => ?_
  have hb4 : Blk w4 b 27 [.bool true, k, v, .slice none 0 0] := hb4
  simp only [ld_27, hb4.cells (n := 4) rfl, Option.map_some, optK_some]
  have s1 := hf1.size
  have s2 := hf2.size
  have s3 := hf3.size
  refine hK _ _ ⟨⟨k, v, _, rfl, (hk.mono hf4 fun g hg h => ?_).str (by decide), (hv.mono hf4 fun g hg h => ?_).str (by decide), Sl.nil _ _ _ _⟩, ((hf1.trans hf2).trans hf3).step hf4 fun i hi h => by omega⟩
  · have := hnk g hg; omega
  · have := hnv g hg; omega
theorem slt_eq (x y : ByteArray) : slt x y = Op.bytesLess x.data.toList y.data.toList := by unfold slt; rw [Go.ByteArray.toList_eq, Go.ByteArray.toList_eq]
theorem twoRises : risesB twoK = true := by simp only [twoK, risesB, slt_eq]; decide
theorem twoChk : chk true twoK twoV [] false = 0 := by unfold chk; rw [twoRises]; decide
theorem twoLow : lows twoK { data := #[98] } = 1 := by
  have h1 : slt { data := #[97] } { data := #[98] } = true := by rw [slt_eq]; decide
  have h2 : slt { data := #[98, 98] } { data := #[98] } = false := by rw [slt_eq]; decide
  simp [lows, twoK, List.takeWhile, h1, h2]
theorem lives_spec {w : World} : Calls Try.prog 4 #[] w (RetK fun r w' => r = .bool true ∧ Fr0 w w') := by
  refine H4_in fun K hK => ?_
  unfold H4
  have hsz : ∀ s ∈ twoK ++ twoV, s.size ≤ 1000000 := by decide
  refine call_9 two_spec ?_
  rintro r w1 ⟨hn1, hf1⟩
  refine call_8 (Encode_leaf hn1 twoChk rfl (fun s h => hsz s (List.mem_append_left _ h)) (fun s h => hsz s (List.mem_append_right _ h)) (by decide)) ?_
  rintro r w2 ⟨⟨g, c, cs, rfl, hb, hc0⟩, hf2⟩
  simp only [Pu_extract, List.getElem?_toArray, List.getElem?_cons_zero, List.getElem?_cons_succ, optK_some]
  refine call_9 two_spec ?_
  rintro r w3 ⟨hn3, hf3⟩
  refine call_10 (Find_leaf hn3 (risesB_asc.1 twoRises)) ?_
  rintro r w4 ⟨rfl, hf4⟩
  have hlow := twoLow
  have hno : decide (twoK[1]? = some { data := #[98] }) = false := by decide
  simp only [Pu_extract, List.getElem?_toArray, List.getElem?_cons_zero, List.getElem?_cons_succ, optK_some]
  refine call_9 two_spec ?_
  rintro r w5 ⟨hn5, hf5⟩
  refine call_11 (Size_leaf hn5 rfl (fun s h => hsz s (List.mem_append_left _ h)) (fun s h => hsz s (List.mem_append_right _ h)) (by decide)) ?_
  rintro r w6 ⟨rfl, hf6⟩
  have hb6 := (((hb.mono hf3 (fun h => h)).mono hf4 (fun h => h)).mono hf5 (fun h => h)).mono hf6 (fun h => h)
  have h26 : ((16 + (entL twoK twoV).sum : Nat) : Int) = 26 := by decide
  simp [h26, hb6.cell, hc0, hlow, hno]
  exact hK _ _ ⟨rfl, ((((hf1.trans hf2).trans hf3).trans hf4).trans hf5).trans hf6⟩
end Go.Proofs
