/-
  deduplaw09.NodeMaps: the loops. Own work.
-/
import Derived.Test.YtflndenagilnmaaNodeMaps3
set_option linter.unusedVariables false
set_option linter.unusedSimpArgs false
set_option maxRecDepth 10000
namespace Go.Proofs
open Go Hx

section
variable {K : Value → World → Prop} {w0 w : World} {b3 i b o c : Nat} {t4 t5 n : Value} {ks vs : List ByteArray} {ops : List OpV} {nx : Inv}
theorem OwnN.c4 {w : World} {m : Value} {leaf : Bool} {ks vs : List ByteArray} {ds : List Int} (h : OwnN w m leaf ks vs ds) : m.cells.size = 4 ∧ (∀ u ∈ m.cells.toList, u.oneCell' = true) ∧ m.cells.toList.length = 4 ∧ (∀ cs : List Value, cs.length = 4 → setL cs 0 m.cells.toList = m.cells.toList) := by
  obtain ⟨k, v, d, rfl, hk, hv, hd, _⟩ := h
  refine ⟨rfl, one4 hk.cells.2 hv.cells.2 hd.cells.2, rfl, fun cs hcs => ?_⟩
  match cs, hcs with
  | [a, b, c, d], _ => rfl
theorem zeroN_c4 : zeroN.cells.size = 4 ∧ (∀ u ∈ zeroN.cells.toList, u.oneCell' = true) := ⟨rfl, one4 rfl rfl rfl⟩
/-- The old node's facts against what is new. -/
theorem St.new (h : St w0 w b3 t4 t5 n ks vs) {m : Value} (hm : ∀ g, nodeB m g → w.heap.size ≤ g) : ∀ g, nodeB m g → w0.heap.size ≤ g ∧ g ≠ b3 ∧ blkOf t4 ≠ some g ∧ blkOf t5 ≠ some g := fun g hg => by
  have h1 := hm g hg
  have h2 := h.blk.lt
  have h3 := h.fr.size
  exact ⟨by omega, by omega, fun h' => by have := h.keys.lt h'; omega, fun h' => by have := h.vals.lt h'; omega⟩
theorem st_gone (h : St w0 w b3 t4 t5 n ks vs) (hk : ks.length * 16 ≤ 140737488355328) (hi64 : i < 140737488355328) (hi : i < ops.length)
    (hc : ∀ i (hi : i < ops.length), w0.cell? ⟨b, o + i * 3, none⟩ = some (.string ops[i].1) ∧ w0.cell? ⟨b, o + i * 3 + 1, none⟩ = some (.string ops[i].2.1) ∧ w0.cell? ⟨b, o + i * 3 + 2, none⟩ = some (.bool ops[i].2.2))
    {m : Value} {b9 : Nat} {w3 : World} {cs : List Value} (hb9 : Blk w3 b9 27 cs) (hcs : cs.length = 4) (hf : Fr0 w w3) (h9 : w.heap.size ≤ b9) (hm : OwnN w3 m true (remL ks ops[i].1 ks) (remL ks ops[i].1 vs) []) (hmn : ∀ g, nodeB m g → w.heap.size ≤ g ∧ g ≠ b9)
    (hnx : ∀ w' t4' t5' n' ks' vs', St w0 w' b3 t4' t5' n' ks' vs' → ks'.length ≤ ks.length + 1 → nx (vec [t4', t5', .int .i64 ((i + 1 : Nat) : Int)]) [] w') :
    Uu Try.prog (Instr.storeAt 27 (.pointer (some ⟨b9, 0, none⟩)) m) (fun _ w => H3_3 (.pointer (some ⟨b3, 0, none⟩)) t4 t5 (.int .i64 i) (.int .i64 (lows ks ops[i].1)) (.bool (decide (ks[lows ks ops[i].1]? = some ops[i].1))) (.pointer (some ⟨b9, 0, none⟩)) (.bool (decide (ks[lows ks ops[i].1]? = some ops[i].1))) K nx [] w) w3 := by
  obtain ⟨c1, c2, c3, c4⟩ := hm.c4
  refine stn_27 hb9 c1 c2 (by omega) fun w4 hb4 hf4 => ?_
  rw [c4 _ hcs] at hb4
  have hf04 : Fr0 w w4 := hf.step hf4 fun i hi h => by omega
  have h4 := h.mono0 hf04
  have l3 := h.blk.lt
  exact st_step3 h4 hk hi64 (hm.mono hf4 fun g hg h => (hmn g hg).2 h) hb4 (by omega) (h.new fun g hg => (hmn g hg).1) fun w' t4' t5' ks' vs' h5 hl => hnx w' t4' t5' m ks' vs' h5 (by omega)
theorem st_puts (h : St w0 w b3 t4 t5 n ks vs) (hk : (ks.length + 1) * 16 ≤ 140737488355328) (hi64 : i < 140737488355328) (hi : i < ops.length)
    (hc : ∀ i (hi : i < ops.length), w0.cell? ⟨b, o + i * 3, none⟩ = some (.string ops[i].1) ∧ w0.cell? ⟨b, o + i * 3 + 1, none⟩ = some (.string ops[i].2.1) ∧ w0.cell? ⟨b, o + i * 3 + 2, none⟩ = some (.bool ops[i].2.2))
    {m : Value} {e : Int} {b9 : Nat} {w3 : World} {cs : List Value} (hb9 : Blk w3 b9 27 cs) (hcs : cs.length = 4) (hf : Fr0 w w3) (h9 : w.heap.size ≤ b9)
    (hbad : (kr ops[i].1 && vr ops[i].2.1) = false → e = 91 ∧ m = zeroN)
    (hgood : (kr ops[i].1 && vr ops[i].2.1) = true → e = 0 ∧ OwnN w3 m true (putK ks ops[i].1) (putV ks vs ops[i].1 ops[i].2.1) [] ∧ (∀ g, nodeB m g → w.heap.size ≤ g ∧ g ≠ b9))
    (hnx : ∀ w' t4' t5' n' ks' vs', St w0 w' b3 t4' t5' n' ks' vs' → ks'.length ≤ ks.length + 1 → nx (vec [t4', t5', .int .i64 ((i + 1 : Nat) : Int)]) [] w') :
    Uu Try.prog (Instr.storeAt 27 (.pointer (some ⟨b9, 0, none⟩)) m) (fun _ w => H3_6 (.slice (some ⟨b, o, none⟩) ops.length c) (.pointer (some ⟨b3, 0, none⟩)) t4 t5 (.int .i64 i) (.int .i64 (lows ks ops[i].1)) (.bool (decide (ks[lows ks ops[i].1]? = some ops[i].1))) (.pointer (some ⟨b9, 0, none⟩)) (.int .i64 e) K nx [] w) w3 := by
  have hc4 : m.cells.size = 4 ∧ (∀ u ∈ m.cells.toList, u.oneCell' = true) := by
    cases hq : (kr ops[i].1 && vr ops[i].2.1) with
    | false => obtain ⟨_, rfl⟩ := hbad hq; exact zeroN_c4
    | true => obtain ⟨_, hm, _⟩ := hgood hq; exact ⟨hm.c4.1, hm.c4.2.1⟩
  refine stn_27 hb9 hc4.1 hc4.2 (by omega) fun w4 hb4 hf4 => ?_
  have hf04 : Fr0 w w4 := hf.step hf4 fun i hi h => by omega
  have h4 := h.mono0 hf04
  have l3 := h.blk.lt
  refine st_step6 (m := m) h4 hk hi64 hi hc (fun hq => (hbad hq).1) (fun hq => ?_) hnx
  obtain ⟨he, hm, hmn⟩ := hgood hq
  rw [hm.c4.2.2.2 _ hcs] at hb4
  exact ⟨he, hm.mono hf4 fun g hg h => (hmn g hg).2 h, hb4, by omega, h.new fun g hg => (hmn g hg).1⟩
theorem g_cmp {Kc : Value → World → Prop} {xo yo : Operand} {a : Nat} {r : ByteArray → ByteArray → Bool} {F : Value → Value → (Value → World → Prop) → World → Prop} (hF : ∀ x y K w, F (.string x) (.string y) K w = K (.bool (r x y)) w)
    (h4 : StrS w t4 ks) (hi : i < ops.length) (hck : w.cell? ⟨b, o + i * 3, none⟩ = some (.string ops[i].1)) {q : Bool} (hq : q = if ha : a < ks.length then r ks[a] ops[i].1 else false) (hKc : Kc (.bool q) w) :
    Rd Try.prog (Builtin.len_ #[24] 3 ⟨[t4]⟩) (fun t24 w =>
    Pu Try.prog (binS .lss 3 xo yo (.int .i64 a) t24) (fun t25 w =>
    Gd t25 true (fun K w => K t4 w) (fun t27 w =>
    Gd t25 true (fun K w => K (.int .i64 a) w) (fun t28 w =>
    Gd t25 true (Pu Try.prog (Instr.indexAt 24 t27 t28)) (fun t29 w =>
    Gd t25 true (Rd Try.prog (Instr.loadAt 9 t29)) (fun t30 w =>
    Gd t25 true (fun K w => K (.slice (some ⟨b, o, none⟩) ops.length c) w) (fun t31 w =>
    Gd t25 true (fun K w => K (.int .i64 i) w) (fun t32 w =>
    Gd t25 true (Pu Try.prog (Instr.indexAt 22 t31 t32)) (fun t33 w =>
    Gd t25 true (Pu Try.prog (Instr.fieldAt 29 t33 0)) (fun t34 w =>
    Gd t25 true (Rd Try.prog (Instr.loadAt 9 t34)) (fun t35 w =>
    Gd t25 true (F t30 t35) (fun t36 w =>
    Pu Try.prog (pickS t25 t36 (.bool false)) Kc w) w) w) w) w) w) w) w) w) w) w) w) w := by
  obtain ⟨A, c', rfl, _, _, hA⟩ := id h4.out
  by_cases ha : a < ks.length
  · obtain ⟨bk, ok, rfl, hcell⟩ := hA.resolve_left (by omega)
    have h1 := hcell a ha
    rw [dif_pos ha] at hq
    simp only [ln_24, Pu_lss, Int.ofNat_lt, ha, decide_true, Gd_tt, ixn_24, ld_9, h1, optK_some, ixn_22, hi, if_29_0, hck, hF, Pu_pick_and, Bool.true_and, ← hq]
    exact hKc
  · rw [dif_neg ha] at hq
    subst hq
    simp only [ln_24, Pu_lss, Int.ofNat_lt, ha, decide_false, Gd_ft, Pu_pick_f]
    exact hKc
theorem st_round (h : St w0 w b3 t4 t5 n ks vs) (hk : (ks.length + 1) * 16 ≤ 140737488355328) (hi64 : i < 140737488355328) (hi : i < ops.length)
    (hc : ∀ i (hi : i < ops.length), w0.cell? ⟨b, o + i * 3, none⟩ = some (.string ops[i].1) ∧ w0.cell? ⟨b, o + i * 3 + 1, none⟩ = some (.string ops[i].2.1) ∧ w0.cell? ⟨b, o + i * 3 + 2, none⟩ = some (.bool ops[i].2.2))
    (hnx : ∀ w' t4' t5' n' ks' vs', St w0 w' b3 t4' t5' n' ks' vs' → ks'.length ≤ ks.length + 1 → nx (vec [t4', t5', .int .i64 ((i + 1 : Nat) : Int)]) [] w') :
    loopH (vec [.int .i64 0]) [] (H3_2 (.slice (some ⟨b, o, none⟩) ops.length c) (.pointer (some ⟨b3, 0, none⟩)) t4 t5 (.int .i64 i) K nx) w := by
  refine loopN (fun u w' => ∃ a : Nat, u 0 = .int .i64 a ∧ a ≤ lows ks ops[i].1 ∧ Fr0 w w') (fun u _ => lows ks ops[i].1 - natOf (u 0)) ⟨0, rfl, by omega, Fr.refl _ _⟩ ?_
  rintro u junk w1 nx2 ⟨a, hu, ha, hf⟩ hnx2
  unfold H3_2
  have hll := lows_le ks ops[i].1
  have h1 := (h.mono0 hf).drew
  rw [drw_eq, hu]
  refine g_cmp (r := fun x y => slt x y) (q := decide (a < lows ks ops[i].1)) (fun x y K w => Pu_slss) (h1.keys.str (by omega)) hi (h1.fr.cellS (hc i hi).1 fun h => h) ?_ ?_
  · by_cases hal : a < ks.length
    · rw [dif_pos hal]
      by_cases hlt : a < lows ks ops[i].1
      · rw [lows_lt hlt hal]; simp [hlt]
      · have : a = lows ks ops[i].1 := by omega
        subst this
        rw [lows_stop hal]; simp
    · rw [dif_neg hal]; simp; omega
  by_cases hlt : a < lows ks ops[i].1
  · have e1 : IntKind.i64.wrap ((a : Int) + 1) = ((a + 1 : Nat) : Int) := by rw [wrap_i64] <;> omega
    rw [decide_eq_true hlt, iteE_true, Pu_add, e1]
    exact hnx2 _ _ ⟨a + 1, rfl, by omega, hf.drew⟩ (by simp [hu]; omega)
  have hal : a = lows ks ops[i].1 := by omega
  subst hal
  rw [decide_eq_false hlt, iteE_false, drw_eq]
  clear hnx2 hu hf
  have h1 := h1.drew
  generalize w1.drew.drew = w1 at h1 ⊢
  refine g_cmp (r := fun x y => decide (x = y)) (q := decide (ks[lows ks ops[i].1]? = some ops[i].1)) (fun x y K w => Rd_seql) (h1.keys.str (by omega)) hi (h1.fr.cellS (hc i hi).1 fun h => h) ?_ ?_
  · by_cases hal : lows ks ops[i].1 < ks.length
    · rw [dif_pos hal]; simp [hal]
    · rw [dif_neg hal]; simp [List.getElem?_eq_none (show ks.length ≤ lows ks ops[i].1 by omega)]
  have hl := h.good.len
  rw [ixn_22 hi, if_29_2, ld_4, h1.fr.cellS (hc i hi).2.2 (fun h => h), optK_some]
  have hn1 := h1.own.node (by omega) (by omega) (by simp)
  obtain ⟨k, v, d, hne, hks, hvs, hds⟩ := id hn1
  cases hg : ops[i].2.2 with
  | true =>
    rw [iteE_true, drw_eq]
    have h1 := h1.drew
    have hn1 := hn1.mono0 (Fr.refl none' w1).drew
    generalize w1.drew = w1 at h1 hn1 ⊢
    have hb1 : Blk w1 b3 27 [.bool true, k, v, d] := by have := h1.blk; rw [hne] at this; exact this
    rw [ld_27, hb1.cells (n := 4) rfl, Option.map_some, optK_some, ixn_22 hi, if_29_0]
    have hck := h1.fr.cellS (hc i hi).1 (fun h => h)
    refine ldS hck ?_
    rw [hne] at hn1
    refine ⟨?_, ?_⟩
    · refine call_5 (Remove_spec hn1 h1.good.asc h1.good.len (by omega)) ?_
      rintro r w2 ⟨m, rfl, hm, hf2, hmn⟩
      simp only [Pu_extract, List.getElem?_toArray, List.getElem?_cons_zero, List.getElem?_cons_succ, optK_some]
      refine aln_27 fun b9 w3 hb9 hf3 hge9 => ?_
      have s2 := hf2.size
      exact st_gone h1 (by omega) hi64 hi hc hb9 rfl (hf2.trans hf3) (by omega) (hm.mono hf3 fun _ _ h => h) (fun g hg => ⟨hmn g hg, by have := hm.lt hg; omega⟩) hnx
    · refine aln_27 fun b9 w2 hb9 hf2 hge9 => ⟨ldS (hf2.cellS hck fun h => h) ⟨rfl, rfl⟩, ?_, ?_⟩
      · rw [ld_27, (hb1.mono hf2 fun h => h).cells (n := 4) rfl]
        exact ⟨rfl, rfl⟩
      · refine call_5 (Remove_spec (hn1.mono0 hf2) h1.good.asc h1.good.len (by omega)) ?_
        rintro r w3 ⟨m, rfl, hm, hf3, hmn⟩
        simp only [Pu_extract, List.getElem?_toArray, List.getElem?_cons_zero, List.getElem?_cons_succ, optK_some]
        have s2 := hf2.size
        have l9 := hb9.lt
        exact st_gone h1 (by omega) hi64 hi hc (hb9.mono hf3 fun h => h) rfl (hf2.trans hf3) hge9 hm (fun g hg => by have := hmn g hg; exact ⟨by omega, by omega⟩) hnx
  | false =>
    rw [iteE_false, drw_eq]
    have h1 := h1.drew
    have hn1 := hn1.mono0 (Fr.refl none' w1).drew
    generalize w1.drew = w1 at h1 hn1 ⊢
    have hb1 : Blk w1 b3 27 [.bool true, k, v, d] := by have := h1.blk; rw [hne] at this; exact this
    rw [ld_27, hb1.cells (n := 4) rfl, Option.map_some, optK_some, ixn_22 hi, if_29_0]
    have hck := h1.fr.cellS (hc i hi).1 (fun h => h)
    have hcv := h1.fr.cellS (hc i hi).2.1 (fun h => h)
    refine ldS hck ?_
    rw [ixn_22 hi, if_29_1]
    refine ldS hcv ?_
    rw [hne] at hn1
    have hput : ∀ {W : World}, Fr0 w1 W → Calls Try.prog 6 #[.agg #[.bool true, k, v, d], .string ops[i].1, .string ops[i].2.1] W (RetK fun r w' => ∃ m e, r = .tuple #[m, .int .i64 e] ∧ Fr0 W w' ∧ ((kr ops[i].1 && vr ops[i].2.1) = false → e = 91 ∧ m = zeroN) ∧
        ((kr ops[i].1 && vr ops[i].2.1) = true → e = 0 ∧ OwnN w' m true (putK ks ops[i].1) (putV ks vs ops[i].1 ops[i].2.1) [] ∧ ∀ g, nodeB m g → W.heap.size ≤ g)) := by
      intro W hW
      cases hq : (kr ops[i].1 && vr ops[i].2.1) with
      | false =>
        refine (Put_bad (hn1.mono0 hW) h1.good.chk hq).mono ?_
        rintro e w' ⟨r, rfl, rfl, hf⟩
        exact ⟨_, rfl, _, _, rfl, hf, fun _ => ⟨rfl, rfl⟩, fun h => by cases h⟩
      | true =>
        refine (Put_spec (hn1.mono0 hW) h1.good.chk h1.good.asc h1.good.len hq hk).mono ?_
        rintro e w' ⟨r, rfl, m, rfl, hm, hf, hmn⟩
        exact ⟨_, rfl, _, _, rfl, hf, (fun h => by cases h), fun _ => ⟨rfl, hm, hmn⟩⟩
    refine ⟨?_, ?_⟩
    · refine call_6 (hput (Fr.refl _ _)) ?_
      rintro r w2 ⟨m, e, rfl, hf2, hbad, hgood⟩
      simp only [Pu_extract, List.getElem?_toArray, List.getElem?_cons_zero, List.getElem?_cons_succ, optK_some]
      refine aln_27 fun b9 w3 hb9 hf3 hge9 => ?_
      have s2 := hf2.size
      exact st_puts h1 hk hi64 hi hc hb9 rfl (hf2.trans hf3) (by omega) hbad (fun hq => by
        obtain ⟨he, hm, hmn⟩ := hgood hq
        exact ⟨he, hm.mono hf3 fun _ _ h => h, fun g hg => ⟨hmn g hg, by have := hm.lt hg; omega⟩⟩) hnx
    · refine aln_27 fun b9 w2 hb9 hf2 hge9 => ⟨ldS (hf2.cellS hcv fun h => h) ⟨rfl, rfl⟩, ldS (hf2.cellS hck fun h => h) ⟨rfl, rfl⟩, ?_, ?_⟩
      · rw [ld_27, (hb1.mono hf2 fun h => h).cells (n := 4) rfl]
        exact ⟨rfl, rfl⟩
      · refine call_6 (hput hf2) ?_
        rintro r w3 ⟨m, e, rfl, hf3, hbad, hgood⟩
        simp only [Pu_extract, List.getElem?_toArray, List.getElem?_cons_zero, List.getElem?_cons_succ, optK_some]
        have s2 := hf2.size
        have l9 := hb9.lt
        exact st_puts h1 hk hi64 hi hc (hb9.mono hf3 fun h => h) rfl (hf2.trans hf3) hge9 hbad (fun hq => by
          obtain ⟨he, hm, hmn⟩ := hgood hq
          exact ⟨he, hm, fun g hg => by have := hmn g hg; exact ⟨by omega, by omega⟩⟩) hnx
end
/-- The law: true, whatever the operations; what was there stays. -/
theorem NodeMaps_spec {w : World} {v : Value} {ops : List OpV} (hv : OpS w v ops) (hfit : ops.length * 40 ≤ 140737488355328) :
    Calls Try.prog 3 #[v] w (RetK fun r w' => r = .bool true ∧ Fr0 w w') := by
  obtain ⟨A, c, rfl, hA⟩ := hv
  refine H3_in _ fun K hK => ?_
  unfold H3
  refine call_4 lives_spec ?_
  rintro r w1 ⟨rfl, hf1⟩
  simp only [Pu_not, Bool.not_true, iteE_false]
  rw [bd_27]
  have hz : (Value.agg #[.bool false, .slice none 0 0, .slice none 0 0, .slice none 0 0]).cells = #[.bool false, .slice none 0 0, .slice none 0 0, .slice none 0 0] := rfl
  have h0 : (Value.bool true).cells = #[.bool true] := rfl
  simp [Instr.fill, hz, h0]
  refine aln_27 fun b3 w2 hb2 hf2 hge => ?_
  refine stn_27 hb2 rfl (one4 rfl rfl rfl) (by decide) fun w3 hb3 hf3 => ?_
  have s1 := hf1.size
  have hf03 : Fr0 w w3 := (hf1.trans hf2).step hf3 fun i hi h => by omega
  have hst : St w w3 b3 (.slice none 0 0) (.slice none 0 0) (.agg #[.bool true, .slice none 0 0, .slice none 0 0, .slice none 0 0]) [] [] :=
    ⟨Good.nil, by omega, hb3, ⟨_, _, _, rfl, OwnS.nil _, OwnS.nil _, Own.nil _ _ _, fun g h => by simp at h, fun g h => by simp at h, fun g h => by simp at h⟩, OwnS.nil _, OwnS.nil _,
      fun g h => by rcases nodeB_iff.1 h with h | h | h <;> simp at h, fun g h => by simp at h, fun g h => by simp at h, hf03⟩
  refine loopN (fun u w' => ∃ (i : Nat) (n : Value) (ks vs : List ByteArray), u 2 = .int .i64 i ∧ i ≤ ops.length ∧ ks.length ≤ i ∧ St w w' b3 (u 0) (u 1) n ks vs) (fun u _ => ops.length - natOf (u 2)) ⟨0, _, [], [], rfl, by omega, by simp, hst⟩ ?_
  rintro u junk w4 nx ⟨i, n, ks, vs, hu, hi, hki, h⟩ hnx
  unfold H3_1
  rw [ln_22, hu, Pu_lss]
  by_cases hlt : i < ops.length
  · have hlt' : (i : Int) < (ops.length : Int) := by omega
    rw [decide_eq_true hlt', iteE_true]
    obtain ⟨b, o, rfl, hc⟩ := hA.resolve_left (by omega)
    refine st_round h (by omega) (by omega) hlt hc fun w' t4' t5' n' ks' vs' h' hl => ?_
    exact hnx _ _ ⟨i + 1, n', ks', vs', rfl, by omega, by omega, h'⟩ (by simp [hu]; omega)
  · have hlt' : ¬ (i : Int) < (ops.length : Int) := by omega
    rw [decide_eq_false hlt', iteE_false, retH_nil]
    exact hK _ _ ⟨rfl, h.fr⟩
end Go.Proofs
