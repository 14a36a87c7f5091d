/-
  deduplaw09.NodeMaps: one round. Own work.
-/
import Derived.Test.YtflndenagilnmaaNodeMaps
set_option linter.unusedVariables false
set_option linter.unusedSimpArgs false
set_option maxRecDepth 10000
namespace Go.Proofs
open Go Hx

structure St (w0 w : World) (b3 : Nat) (t4 t5 n : Value) (ks vs : List ByteArray) : Prop where
  good : Good ks vs
  ge : w0.heap.size ≤ b3
  blk : Blk w b3 27 n.cells.toList
  own : OwnN w n true ks vs []
  keys : OwnS w t4 ks
  vals : OwnS w t5 vs
  nb : ∀ g, nodeB n g → w0.heap.size ≤ g ∧ g ≠ b3 ∧ blkOf t4 ≠ some g ∧ blkOf t5 ≠ some g
  kb : ∀ g, blkOf t4 = some g → w0.heap.size ≤ g ∧ g ≠ b3 ∧ blkOf t5 ≠ some g
  vb : ∀ g, blkOf t5 = some g → w0.heap.size ≤ g ∧ g ≠ b3
  fr : Fr0 w0 w
theorem St.mono0 {w0 w w' : World} {b3 : Nat} {t4 t5 n : Value} {ks vs : List ByteArray} (h : St w0 w b3 t4 t5 n ks vs) (hf : Fr0 w w') : St w0 w' b3 t4 t5 n ks vs :=
  ⟨h.good, h.ge, h.blk.mono hf (fun h => h), h.own.mono hf (fun _ _ h => h), h.keys.mono0 hf, h.vals.mono0 hf, h.nb, h.kb, h.vb, h.fr.trans hf⟩
theorem St.drew {w0 w : World} {b3 : Nat} {t4 t5 n : Value} {ks vs : List ByteArray} (h : St w0 w b3 t4 t5 n ks vs) : St w0 w.drew b3 t4 t5 n ks vs := h.mono0 (Fr.refl none' w).drew
theorem st_step4 {K : Value → World → Prop} {w0 w : World} {b3 i : Nat} {t4 t5 n : Value} {ks vs : List ByteArray} {nx : Inv} (h : St w0 w b3 t4 t5 n ks vs) (hk : ks.length ≤ 140737488355328) (hi : i < 140737488355328)
    (hnx : ∀ w', St w0 w' b3 t4 t5 n ks vs → nx (vec [t4, t5, .int .i64 ((i + 1 : Nat) : Int)]) [] w') : H3_4 (.pointer (some ⟨b3, 0, none⟩)) t4 t5 (.int .i64 i) K nx [] w := by
  unfold H3_4
  have hl := h.good.len
  have hn := h.own.node hk (by omega) (by simp)
  obtain ⟨k, v, d, rfl, hks, hvs, hds⟩ := hn
  have hb : Blk w b3 27 [.bool true, k, v, d] := h.blk
  simp only [if_27_0, ld_4, hb.cell, List.getElem?_cons_zero, optK_some, Pu_not, Bool.not_true, Gd_ff, if_27_1, ld_24, List.getElem?_cons_succ, Nat.zero_add]
  refine call_7 (sameTexts_spec hks (h.keys.str hk)) ?_
  rintro r w2 ⟨rfl, hf2⟩
  have hb2 := hb.mono hf2 (fun h => h)
  simp only [decide_true, Pu_not, Bool.not_true, Pu_pick_or, Bool.or_self, Gd_ff, if_27_2, ld_24, hb2.cell, List.getElem?_cons_zero, optK_some, List.getElem?_cons_succ, Nat.zero_add]
  refine call_7 (sameTexts_spec (hvs.mono0 hf2) ((h.vals.mono0 hf2).str (by omega))) ?_
  rintro r w3 ⟨rfl, hf3⟩
  simp only [decide_true, Pu_not, Bool.not_true, Pu_pick_or, Bool.or_self, iteE_false]
  unfold H3_5
  have e1 : IntKind.i64.wrap ((i : Int) + 1) = ((i + 1 : Nat) : Int) := by rw [wrap_i64] <;> omega
  simp only [Pu_add, e1]
  exact hnx _ (h.mono0 (hf2.trans hf3))
/-- A node that takes the place of the old one. -/
theorem st_take {K : Value → World → Prop} {w0 w : World} {b3 b9 : Nat} {t4 t5 t4' t5' n m : Value} {ks vs ks' vs' : List ByteArray} (h : St w0 w b3 t4 t5 n ks vs) (hg : Good ks' vs') (hm : OwnN w m true ks' vs' []) (hb9 : Blk w b9 27 m.cells.toList) (h9 : b9 ≠ b3)
    (hk : OwnS w t4' ks') (hv : OwnS w t5' vs')
    (nb : ∀ g, nodeB m g → w0.heap.size ≤ g ∧ g ≠ b3 ∧ blkOf t4' ≠ some g ∧ blkOf t5' ≠ some g) (kb : ∀ g, blkOf t4' = some g → w0.heap.size ≤ g ∧ g ≠ b3 ∧ blkOf t5' ≠ some g) (vb : ∀ g, blkOf t5' = some g → w0.heap.size ≤ g ∧ g ≠ b3)
    (hK : ∀ w', St w0 w' b3 t4' t5' m ks' vs' → K undef w') :
    Rd Try.prog (Instr.loadAt 27 (.pointer (some ⟨b9, 0, none⟩))) (fun t95 w => Uu Try.prog (Instr.storeAt 27 (.pointer (some ⟨b3, 0, none⟩)) t95) K w) w := by
  obtain ⟨k, v, d, rfl, hmk, hmv, hmd, x1, x2, x3⟩ := id hm
  have hb9' : Blk w b9 27 [.bool true, k, v, d] := hb9
  obtain ⟨k0, v0, d0, rfl, _⟩ := id h.own
  have hb3 : Blk w b3 27 [.bool true, k0, v0, d0] := h.blk
  simp only [ld_27, hb9'.cells (n := 4) rfl, Option.map_some, optK_some]
  refine stn_27 hb3 rfl (one4 hmk.cells.2 hmv.cells.2 hmd.cells.2) (by simp) fun w' hb hf => hK w' ?_
  exact ⟨hg, h.ge, hb, hm.mono hf fun g hg h => (nb g hg).2.1 h, hk.mono hf fun g hg h => (kb g hg).2.1 h, hv.mono hf fun g hg h => (vb g hg).2 h, nb, kb, vb, h.fr.step hf fun i hi h' => by have := h.ge; omega⟩
theorem st_step3 {K : Value → World → Prop} {w0 w : World} {b3 b9 i : Nat} {t4 t5 n m : Value} {ks vs : List ByteArray} {key : ByteArray} {nx : Inv} (h : St w0 w b3 t4 t5 n ks vs) (hk : ks.length * 16 ≤ 140737488355328) (hi : i < 140737488355328)
    (hm : OwnN w m true (remL ks key ks) (remL ks key vs) []) (hb9 : Blk w b9 27 m.cells.toList) (h9 : b9 ≠ b3)
    (nb : ∀ g, nodeB m g → w0.heap.size ≤ g ∧ g ≠ b3 ∧ blkOf t4 ≠ some g ∧ blkOf t5 ≠ some g)
    (hnx : ∀ w' t4' t5' ks' vs', St w0 w' b3 t4' t5' m ks' vs' → ks'.length ≤ ks.length → nx (vec [t4', t5', .int .i64 ((i + 1 : Nat) : Int)]) [] w') :
    H3_3 (.pointer (some ⟨b3, 0, none⟩)) t4 t5 (.int .i64 i) (.int .i64 (lows ks key)) (.bool (decide (ks[lows ks key]? = some key))) (.pointer (some ⟨b9, 0, none⟩)) (.bool (decide (ks[lows ks key]? = some key))) K nx [] w := by
  unfold H3_3
  have hl := h.good.len
  have hll := lows_le ks key
  have hkl : (remL ks key ks).length ≤ ks.length := remL_length
  rw [nb_4]
  simp only [beq_self_eq_true, Bool.not_true, iteE_false]
  by_cases his : ks[lows ks key]? = some key
  · have hlt : lows ks key < ks.length := (List.getElem?_eq_some_iff.1 his).1
    have e1 : IntKind.i64.wrap ((lows ks key : Int) + 1) = ((lows ks key + 1 : Nat) : Int) := by rw [wrap_i64] <;> omega
    rw [his]
    simp only [decide_true, iteE_true, drw_eq]
    have h1 := h.drew
    refine to_S (h1.keys.str (by omega)) rfl (by omega) fun x1 hx1 _ => ?_
    rw [Pu_add, e1]
    refine from_S (h1.keys.str (by omega)) rfl (by omega) fun x2 hx2 _ => ?_
    refine cut2 hx1 hx2 (by simp; omega) fun k2 w2 ok fk nk => ?_
    have h2 := (h1.mono0 fk).drew
    have ok := ok.drew
    have lk : ∀ g, blkOf k2 = some g → g < w2.heap.size := fun g hg => ok.lt hg
    refine to_S (h2.vals.str (by omega)) rfl (by omega) fun y1 hy1 _ => ?_
    rw [Pu_add, e1]
    refine from_S (h2.vals.str (by omega)) rfl (by omega) fun y2 hy2 _ => ?_
    refine cut2 hy1 hy2 (by simp; omega) fun v2 w3 ov fv nv => ?_
    have h3 := h2.mono0 fv
    have s0 : w.drew.heap.size = w.heap.size := rfl
    have s2 : w2.drew.heap.size = w2.heap.size := rfl
    have sk := fk.size
    have sf := h.fr.size
    have hf : Fr0 w w3 := ((Fr.refl none' w).drew.trans fk).drew.trans fv
    have lm : ∀ g, nodeB m g → g < w.heap.size := fun g hg => hm.lt hg
    have l3 := h.blk.lt
    refine st_take h3 h.good.rem (hm.mono hf fun _ _ h => h) (hb9.mono hf fun h => h) h9 (t4' := k2) (t5' := v2) ?_ ?_ ?_ ?_ ?_ ?_
    · rw [remL, if_pos his]; exact ok.mono0 fv
    · rw [remL, if_pos his]; exact ov
    · intro g hg
      have := lm g hg
      refine ⟨(nb g hg).1, (nb g hg).2.1, fun h => by have := nk g h; omega, fun h => by have := nv g h; omega⟩
    · intro g hg
      have := nk g hg
      have := lk g hg
      exact ⟨by omega, by omega, fun h => by have := nv g h; omega⟩
    · intro g hg
      have := nv g hg
      exact ⟨by omega, by omega⟩
    · intro w4 h4
      refine st_step4 h4 (by omega) hi fun w5 h5 => hnx w5 _ _ _ _ h5 (by omega)
  · simp only [his, decide_false, iteE_false]
    have e2 : remL ks key ks = ks := by rw [remL, if_neg his]
    have e3 : remL ks key vs = vs := by rw [remL, if_neg his]
    rw [e2, e3] at hm
    refine st_take h h.good hm hb9 h9 (t4' := t4) (t5' := t5) h.keys h.vals nb h.kb h.vb ?_
    intro w4 h4
    exact st_step4 h4 (by omega) hi fun w5 h5 => hnx w5 _ _ _ _ h5 (by omega)
end Go.Proofs
