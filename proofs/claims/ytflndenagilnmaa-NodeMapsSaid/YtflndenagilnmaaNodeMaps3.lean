/-
  deduplaw09.NodeMaps: a round that puts; the loops. Own work.
-/
import Derived.Test.YtflndenagilnmaaNodeMaps2
set_option linter.unusedVariables false
set_option linter.unusedSimpArgs false
set_option maxRecDepth 10000
namespace Go.Proofs
open Go Hx

theorem st_step6 {K : Value → World → Prop} {w0 w : World} {b3 b11 i b o c : Nat} {t4 t5 n m : Value} {ks vs : List ByteArray} {ops : List OpV} {e : Int} {nx : Inv} (h : St w0 w b3 t4 t5 n ks vs) (hk : (ks.length + 1) * 16 ≤ 140737488355328) (hi64 : i < 140737488355328)
    (hi : i < ops.length)
    (hc : ∀ i (hi : i < ops.length), w0.cell? ⟨b, o + i * 3, none⟩ = some (.string ops[i].1) ∧ w0.cell? ⟨b, o + i * 3 + 1, none⟩ = some (.string ops[i].2.1) ∧ w0.cell? ⟨b, o + i * 3 + 2, none⟩ = some (.bool ops[i].2.2))
    (hbad : (kr ops[i].1 && vr ops[i].2.1) = false → e = 91)
    (hgood : (kr ops[i].1 && vr ops[i].2.1) = true → e = 0 ∧ OwnN w m true (putK ks ops[i].1) (putV ks vs ops[i].1 ops[i].2.1) [] ∧ Blk w b11 27 m.cells.toList ∧ b11 ≠ b3 ∧ (∀ g, nodeB m g → w0.heap.size ≤ g ∧ g ≠ b3 ∧ blkOf t4 ≠ some g ∧ blkOf t5 ≠ some g))
    (hnx : ∀ w' t4' t5' n' ks' vs', St w0 w' b3 t4' t5' n' ks' vs' → ks'.length ≤ ks.length + 1 → nx (vec [t4', t5', .int .i64 ((i + 1 : Nat) : Int)]) [] w') :
    H3_6 (.slice (some ⟨b, o, none⟩) ops.length c) (.pointer (some ⟨b3, 0, none⟩)) t4 t5 (.int .i64 i) (.int .i64 (lows ks ops[i].1)) (.bool (decide (ks[lows ks ops[i].1]? = some ops[i].1))) (.pointer (some ⟨b11, 0, none⟩)) (.int .i64 e) K nx [] w := by
  unfold H3_6
  have hck := h.fr.cellS (hc i hi).1 (fun h => h)
  have hcv := h.fr.cellS (hc i hi).2.1 (fun h => h)
  have e1 : IntKind.i64.wrap ((i : Int) + 1) = ((i + 1 : Nat) : Int) := by rw [wrap_i64] <;> omega
  have hl := h.good.len
  have hll := lows_le ks ops[i].1
  have bad : (kr ops[i].1 && vr ops[i].2.1) = false → H3_5 t4 t5 (.int .i64 i) nx [] w := fun _ => by
    unfold H3_5
    simp only [Pu_add, e1]
    exact hnx _ _ _ _ _ _ h (by omega)
  rw [ixn_22 hi, if_29_0]
  refine ldS hck ?_
  rw [ln_9, Pu_lss]
  by_cases h1 : 1 ≤ ops[i].1.size
  · have h1' : ¬ ((ops[i].1.size : Int) < 1) := by omega
    simp only [h1', decide_false, Gd_ff]
    rw [ixn_22 hi, if_29_0]
    refine ldS hck ?_
    rw [ln_9, Pu_gtr]
    by_cases h2 : ops[i].1.size ≤ 64
    · have h2' : ¬ ((64 : Int) < (ops[i].1.size : Int)) := by omega
      simp only [h2', decide_false, Pu_pick_or, Bool.or_self, Gd_ff]
      rw [ixn_22 hi, if_29_1]
      refine ldS hcv ?_
      rw [ln_9, Pu_gtr]
      have hkr : kr ops[i].1 = true := by simp [kr, h1, h2]
      by_cases h3 : ops[i].2.1.size ≤ 64
      · have h3' : ¬ ((64 : Int) < (ops[i].2.1.size : Int)) := by omega
        have hvr : vr ops[i].2.1 = true := by simp [vr, h3]
        obtain ⟨rfl, hm, hb11, h11, nb⟩ := hgood (by rw [hkr, hvr]; rfl)
        have hgp := h.good.put hkr hvr
        have lm : ∀ g, nodeB m g → g < w.heap.size := fun g hg => hm.lt hg
        have l3 := h.blk.lt
        have sf := h.fr.size
        have hpl := putK_length (ks := ks) (key := ops[i].1)
        simp only [h3', decide_false, Pu_pick_or, Bool.or_self, iteE_false, Rd_neq, ne_eq, not_true]
        by_cases his : ks[lows ks ops[i].1]? = some ops[i].1
        · have hlt : lows ks ops[i].1 < ks.length := (List.getElem?_eq_some_iff.1 his).1
          have eK : putK ks ops[i].1 = ks := by rw [putK, if_pos his]
          have eV : putV ks vs ops[i].1 ops[i].2.1 = vs.set (lows ks ops[i].1) ops[i].2.1 := by rw [putV, if_pos his]
          obtain ⟨mk, mv, md, rfl, hmk, hmv, hmd, x1, x2, x3⟩ := id hm
          obtain ⟨k0, v0, d0, rfl, _⟩ := id h.own
          have hb3 : Blk w b3 27 [.bool true, k0, v0, d0] := h.blk
          have hb11' : Blk w b11 27 [.bool true, mk, mv, md] := hb11
          simp only [ld_27, hb11'.cells (n := 4) rfl, Option.map_some, optK_some]
          refine stn_27 hb3 rfl (one4 hmk.cells.2 hmv.cells.2 hmd.cells.2) (by simp) fun w2 hb2 hf2 => ?_
          have hb2 : Blk w2 b3 27 [.bool true, mk, mv, md] := hb2
          have hf02 := h.fr.step hf2 fun i hi h' => by have := h.ge; omega
          have hcv2 := hf02.cellS (hc i hi).2.1 (fun h => h)
          rw [his]
          simp only [decide_true, iteE_true, ixn_22, hi, if_29_1, ld_9, hcv2, optK_some]
          refine set_S (h.vals.mono hf2 fun g hg h' => (h.vb g hg).2 h') (by omega) fun w3 hv3 hf3 => ?_
          refine st_step4 (w0 := w0) (ks := ks) (vs := vs.set (lows ks ops[i].1) ops[i].2.1) (n := .agg #[.bool true, mk, mv, md]) ?_ (by omega) hi64 fun w4 h4 => hnx w4 _ _ _ _ _ h4 (by omega)
          rw [eK, eV] at hm hgp
          refine ⟨hgp, h.ge, hb2.mono hf3 fun hg => (h.vb _ hg).2 rfl, (hm.mono hf2 fun g hg h' => (nb g hg).2.1 h').mono hf3 fun g hg h' => (nb g hg).2.2.2 h', (h.keys.mono hf2 fun g hg h' => (h.kb g hg).2.1 h').mono hf3 fun g hg h' => (h.kb g hg).2.2 h', hv3, nb, h.kb, h.vb, hf02.step hf3 fun i hi h' => by have := h.vb i h'; omega⟩
        · have eK : putK ks ops[i].1 = ks.take (lows ks ops[i].1) ++ [ops[i].1] ++ ks.drop (lows ks ops[i].1) := by rw [putK, if_neg his]
          have eV : putV ks vs ops[i].1 ops[i].2.1 = vs.take (lows ks ops[i].1) ++ [ops[i].2.1] ++ vs.drop (lows ks ops[i].1) := by rw [putV, if_neg his]
          obtain ⟨mk, mv, md, rfl, hmk, hmv, hmd, x1, x2, x3⟩ := id hm
          obtain ⟨k0, v0, d0, rfl, _⟩ := id h.own
          have hb3 : Blk w b3 27 [.bool true, k0, v0, d0] := h.blk
          have hb11' : Blk w b11 27 [.bool true, mk, mv, md] := hb11
          simp only [ld_27, hb11'.cells (n := 4) rfl, Option.map_some, optK_some]
          refine stn_27 hb3 rfl (one4 hmk.cells.2 hmv.cells.2 hmd.cells.2) (by simp) fun w2 hb2 hf2 => ?_
          have hb2 : Blk w2 b3 27 [.bool true, mk, mv, md] := hb2
          have hf02 := h.fr.step hf2 fun i hi h' => by have := h.ge; omega
          rw [show decide (ks[lows ks ops[i].1]? = some ops[i].1) = false by simp [his]]
          rw [iteE_false, drw_eq]
          have hk2 : OwnS w2.drew t4 ks := (h.keys.mono hf2 fun g hg h' => (h.kb g hg).2.1 h').drew
          have hv2 : OwnS w2 t5 vs := h.vals.mono hf2 fun g hg h' => (h.vb g hg).2 h'
          have hf02d : Fr0 w0 w2.drew := hf02.drew
          have hm2 := hm.mono hf2 fun g hg h' => (nb g hg).2.1 h'
          have s2 := hf2.size
          have sd2 : w2.drew.heap.size = w2.heap.size := rfl
          refine to_S (hk2.str (by omega)) rfl hll fun y1 hy1 _ => ?_
          rw [ixn_22 hi, if_29_0]
          refine ldS (hf02d.cellS (hc i hi).1 fun h => h) ?_
          refine from_S (hk2.str (by omega)) rfl hll fun y2 hy2 _ => ?_
          refine ins3 hy1 hy2 (fun W K' hW hk => ldS ((hf02d.trans hW).cellS (hc i hi).1 fun h => h) hk) (by simp; omega) fun k5 w3 hk5 hf3 hn5 => ?_
          unfold H3_7
          rw [drw_eq]
          have s3 := hf3.size
          have sd3 : w3.drew.heap.size = w3.heap.size := rfl
          have hf23 : Fr0 w2 w3.drew := ((Fr.refl none' w2).drew.trans hf3).drew
          have hf03 : Fr0 w0 w3.drew := hf02.trans hf23
          have hv3 : OwnS w3.drew t5 vs := hv2.mono0 hf23
          have lk5 : ∀ g, blkOf k5 = some g → g < w3.heap.size := fun g hg => hk5.lt hg
          refine to_S (hv3.str (by omega)) rfl (by omega) fun z1 hz1 _ => ?_
          rw [ixn_22 hi, if_29_1]
          refine ldS (hf03.cellS (hc i hi).2.1 fun h => h) ?_
          refine from_S (hv3.str (by omega)) rfl (by omega) fun z2 hz2 _ => ?_
          refine ins3 hz1 hz2 (fun W K' hW hk => ldS ((hf03.trans hW).cellS (hc i hi).2.1 fun h => h) hk) (by simp; omega) fun v5 w4 hv5 hf4 hn6 => ?_
          unfold H3_8
          have hf24 := hf23.trans hf4
          refine st_step4 (w0 := w0) (ks := putK ks ops[i].1) (vs := putV ks vs ops[i].1 ops[i].2.1) (n := .agg #[.bool true, mk, mv, md]) ?_ (by omega) hi64 fun w5 h5 => hnx w5 _ _ _ _ _ h5 (by omega)
          refine ⟨hgp, h.ge, hb2.mono hf24 fun h => h, hm2.mono hf24 fun _ _ h => h, ?_, ?_, ?_, ?_, ?_, hf02.trans hf24⟩
          · rw [eK]; exact (hk5.drew).mono0 hf4
          · rw [eV]; exact hv5
          · intro g hg
            have := lm g hg
            exact ⟨(nb g hg).1, (nb g hg).2.1, fun h => by have := hn5 g h; omega, fun h => by have := hn6 g h; omega⟩
          · intro g hg
            have := hn5 g hg
            have := lk5 g hg
            exact ⟨by omega, by omega, fun h => by have := hn6 g h; omega⟩
          · intro g hg
            have := hn6 g hg
            exact ⟨by omega, by omega⟩
      · have h3' : ((64 : Int) < (ops[i].2.1.size : Int)) := by omega
        have hb : (kr ops[i].1 && vr ops[i].2.1) = false := by simp [vr, h3]
        obtain rfl := hbad hb
        simp only [h3', decide_true, Pu_pick_or, Bool.or_true, iteE_true, Rd_neq, ne_eq, not_true, decide_false, iteE_false]
        exact bad hb
    · have h2' : ((64 : Int) < (ops[i].1.size : Int)) := by omega
      have hb : (kr ops[i].1 && vr ops[i].2.1) = false := by simp [kr, h2]
      obtain rfl := hbad hb
      simp only [h2', decide_true, Pu_pick_or, Bool.or_true, Gd_tf, Pu_pick_t, iteE_true, Rd_neq, ne_eq, not_true, decide_false, iteE_false]
      exact bad hb
  · have h1' : ((ops[i].1.size : Int) < 1) := by omega
    have hb : (kr ops[i].1 && vr ops[i].2.1) = false := by simp [kr, h1]
    obtain rfl := hbad hb
    simp only [h1', decide_true, Gd_tf, Pu_pick_t, iteE_true, Rd_neq, ne_eq, not_true, decide_false, iteE_false]
    exact bad hb
end Go.Proofs
