/-
  node: copied, on leaves and inner nodes. Own work.
-/
import Derived.Test.YtflndenagilnmaaNode2
set_option linter.unusedVariables false
set_option linter.unusedSimpArgs false
set_option maxRecDepth 10000
namespace Go.Proofs
open Go Hx

def OwnI (w : World) (v : Value) (xs : List Int) : Prop := Own w 3 1 xs.length v (xs.map (.int .i64))
theorem one_int (xs : List Int) : ∀ u ∈ xs.map (Value.int .i64), u.oneCell' = true := by
  intro u hu
  obtain ⟨s, _, rfl⟩ := List.mem_map.1 hu
  rfl
theorem OwnI.int {w : World} {v : Value} {xs : List Int} (h : OwnI w v xs) (hm : xs.length ≤ 140737488355328) : IntS w v xs := Own.sl h hm
theorem OwnI.mono {S : Nat → Prop} {w w' : World} {v : Value} {xs : List Int} (h : OwnI w v xs) (hf : Fr S w w') (hs : ∀ g, blkOf v = some g → ¬ S g) : OwnI w' v xs := Own.mono h hf hs
theorem OwnI.lt {w : World} {v : Value} {xs : List Int} (h : OwnI w v xs) {g : Nat} (hg : blkOf v = some g) : g < w.heap.size := Own.lt h hg
theorem cells_sl {A : Option Addr} {n c : Nat} : (Value.slice A n c).cells = #[.slice A n c] := rfl
theorem OwnS.cells {w : World} {v : Value} {xs : List ByteArray} (h : OwnS w v xs) : v.cells = #[v] ∧ v.oneCell' = true := by
  obtain ⟨A, c, rfl, _⟩ := Own.shape h; exact ⟨rfl, rfl⟩
theorem OwnI.cells {w : World} {v : Value} {xs : List Int} (h : OwnI w v xs) : v.cells = #[v] ∧ v.oneCell' = true := by
  obtain ⟨A, c, rfl, _⟩ := Own.shape h; exact ⟨rfl, rfl⟩
theorem CloneI {w : World} {v : Value} {xs : List Int} (hv : IntS w v xs) (hfit : xs.length * 8 ≤ 140737488355328) :
    Calls Try.prog 32 #[v] w (RetK fun r w' => OwnI w' r xs ∧ Fr0 w w' ∧ NewB w r) := by
  obtain ⟨A, c, rfl, hc, hm, hA⟩ := hv.out
  refine H32_in _ fun K hK => ?_
  unfold H32
  cases A with
  | none =>
    have : xs = [] := by
      rcases hA with h | ⟨b, o, h, _⟩
      · exact List.length_eq_zero_iff.1 h
      · cases h
    subst this
    simp
    exact hK _ _ ⟨Own.nil _ _ _, Fr.refl _ _, fun k hk => by simp at hk⟩
  | some a =>
    simp
    have hf0 : Fr0 w (w.alloc (.cells #[] 3)) := (Fr.refl _ w).alloc _
    have hE : Own (w.alloc (.cells #[] 3)) 3 1 0 (.slice (some ⟨w.heap.size, 0, none⟩) 0 0) [] := Own.new (w := w) (e := 3) (sz := 1) [] 0 0 [] rfl (by omega) (by decide) rfl
    refine ap_25_25 hE (hv.mono0 hf0) (m := xs.length) (by simp) (one_int xs) (by simpa using hfit) (by omega) fun v' w' h1 h2 h3 => ?_
    refine hK _ _ ⟨by simpa [OwnI] using h1, ?_, ?_⟩
    · refine hf0.step h2 fun k hk hb => ?_
      simp at hb; omega
    · intro k hk
      have hs := hf0.size
      rcases h3 k hk with h | h
      · simp at h; omega
      · omega

/-- A node that owns its slices, apart. -/
def OwnN (w : World) (n : Value) (leaf : Bool) (ks vs : List ByteArray) (ds : List Int) : Prop :=
  ∃ k v d, n = .agg #[.bool leaf, k, v, d] ∧ OwnS w k ks ∧ OwnS w v vs ∧ OwnI w d ds ∧ (∀ g, blkOf k = some g → blkOf v ≠ some g) ∧ (∀ g, blkOf k = some g → blkOf d ≠ some g) ∧ (∀ g, blkOf v = some g → blkOf d ≠ some g)
theorem OwnN.node {w : World} {n : Value} {leaf : Bool} {ks vs : List ByteArray} {ds : List Int} (h : OwnN w n leaf ks vs ds) (h1 : ks.length ≤ 140737488355328) (h2 : vs.length ≤ 140737488355328) (h3 : ds.length ≤ 140737488355328) : NodeS w n leaf ks vs ds := by
  obtain ⟨k, v, d, rfl, hk, hv, hd, _⟩ := h
  exact ⟨k, v, d, rfl, hk.str h1, hv.str h2, hd.int h3⟩
/-- Its blocks. -/
def nodeB (n : Value) (g : Nat) : Prop := match n with
  | .agg cs => ∃ (i : Nat) (v : Value), cs[i]? = some v ∧ blkOf v = some g
  | _ => False
theorem nodeB_iff {leaf : Bool} {k v d : Value} {g : Nat} : nodeB (.agg #[.bool leaf, k, v, d]) g ↔ blkOf k = some g ∨ blkOf v = some g ∨ blkOf d = some g := by
  unfold nodeB
  constructor
  · rintro ⟨i, x, h, hb⟩
    match i, h with
    | 0, h => simp at h; subst h; cases hb
    | 1, h => simp at h; subst h; exact .inl hb
    | 2, h => simp at h; subst h; exact .inr (.inl hb)
    | 3, h => simp at h; subst h; exact .inr (.inr hb)
    | i + 4, h => simp at h
  · rintro (h | h | h)
    · exact ⟨1, k, rfl, h⟩
    · exact ⟨2, v, rfl, h⟩
    · exact ⟨3, d, rfl, h⟩
theorem OwnN.mono {S : Nat → Prop} {w w' : World} {n : Value} {leaf : Bool} {ks vs : List ByteArray} {ds : List Int} (h : OwnN w n leaf ks vs ds) (hf : Fr S w w') (hs : ∀ g, nodeB n g → ¬ S g) : OwnN w' n leaf ks vs ds := by
  obtain ⟨k, v, d, rfl, hk, hv, hd, h1, h2, h3⟩ := h
  exact ⟨k, v, d, rfl, hk.mono hf fun g hg => hs g (nodeB_iff.2 (.inl hg)), hv.mono hf fun g hg => hs g (nodeB_iff.2 (.inr (.inl hg))), hd.mono hf fun g hg => hs g (nodeB_iff.2 (.inr (.inr hg))), h1, h2, h3⟩
theorem OwnN.lt {w : World} {n : Value} {leaf : Bool} {ks vs : List ByteArray} {ds : List Int} (h : OwnN w n leaf ks vs ds) {g : Nat} (hg : nodeB n g) : g < w.heap.size := by
  obtain ⟨k, v, d, rfl, hk, hv, hd, _⟩ := h
  rcases nodeB_iff.1 hg with h | h | h
  · exact hk.lt h
  · exact hv.lt h
  · exact hd.lt h
theorem fillNode {K : Value → World → Prop} {w : World} {leaf : Bool} {k v d : Value} (hk : k.cells = #[k]) (hv : v.cells = #[v]) (hd : d.cells = #[d]) :
    Pu Try.prog (Instr.build 27 ⟨[(0, .bool leaf), (1, k), (2, v), (3, d)]⟩) K w = K (.agg #[.bool leaf, k, v, d]) w := by
  rw [bd_27]
  have h0 : (Value.bool leaf).cells = #[.bool leaf] := rfl
  have hz : (Value.agg #[.bool false, .slice none 0 0, .slice none 0 0, .slice none 0 0]).cells = #[.bool false, .slice none 0 0, .slice none 0 0, .slice none 0 0] := rfl
  simp [Instr.fill, h0, hz, hk, hv, hd]
theorem copied_spec {w : World} {n : Value} {leaf : Bool} {ks vs : List ByteArray} {ds : List Int} (hn : NodeS w n leaf ks vs ds) (h1 : ks.length * 16 ≤ 140737488355328) (h2 : vs.length * 16 ≤ 140737488355328) (h3 : ds.length * 8 ≤ 140737488355328) :
    Calls Try.prog 12 #[n] w (RetK fun r w' => OwnN w' r leaf ks vs ds ∧ Fr0 w w' ∧ ∀ g, nodeB r g → w.heap.size ≤ g) := by
  obtain ⟨k, v, d, rfl, hk, hv, hd⟩ := id hn
  refine H12_in _ fun K hK => ?_
  unfold H12
  refine box_new fun b1 w1 hb1 hf1 hge1 => ?_
  have hb1 : Blk w1 b1 27 [.bool leaf, k, v, d] := hb1
  refine aln_27 fun b2 w2 hb2 hf2 hge2 => ?_
  have hb2 : Blk w2 b2 27 [.bool false, .slice none 0 0, .slice none 0 0, .slice none 0 0] := hb2
  have hb1 := (hb1.mono hf2 (fun h => h)).drew
  have hb2 := hb2.drew
  have hf02 := (hf1.trans hf2).drew
  simp only [drw_eq]
  generalize w2.drew = w2 at *
  have l2 := hb2.lt
  simp only [if_27_0, if_27_1, if_27_2, if_27_3, ld_4, ld_24, ld_25, hb1.cell, List.getElem?_cons_zero, List.getElem?_cons_succ, optK_some, Nat.zero_add]
  refine call_31 (CloneS (hk.mono0 hf02) h1) ?_
  rintro k' w3 ⟨hk', hf3, hn3⟩
  have hb1 := hb1.mono hf3 (fun h => h)
  have hb2 := hb2.mono hf3 (fun h => h)
  simp only [hb1.cell, List.getElem?_cons_zero, List.getElem?_cons_succ, optK_some, and_self, true_and]
  refine call_31 (CloneS (hv.mono0 (hf02.trans hf3)) h2) ?_
  rintro v' w4 ⟨hv', hf4, hn4⟩
  have hb1 := hb1.mono hf4 (fun h => h)
  have hb2 := hb2.mono hf4 (fun h => h)
  simp only [hb1.cell, List.getElem?_cons_zero, List.getElem?_cons_succ, optK_some, and_self, true_and]
  refine call_32 (CloneI (hd.mono0 ((hf02.trans hf3).trans hf4)) h3) ?_
  rintro d' w5 ⟨hd', hf5, hn5⟩
  have hb1 := hb1.mono hf5 (fun h => h)
  have hb2 := hb2.mono hf5 (fun h => h)
  simp only [hb1.cell, List.getElem?_cons_zero, List.getElem?_cons_succ, optK_some, and_self, true_and]
  rw [fillNode hk'.cells.1 hv'.cells.1 hd'.cells.1]
  refine stn_27 hb2 rfl (by
    intro u hu
    have hu : u ∈ [Value.bool leaf, k', v', d'] := hu
    simp only [List.mem_cons, List.not_mem_nil, or_false] at hu
    rcases hu with rfl | rfl | rfl | rfl
    · rfl
    · exact hk'.cells.2
    · exact hv'.cells.2
    · exact hd'.cells.2) (by simp) fun w6 hb6 hf6 => ?_
  have hb6 : Blk w6 b2 27 [.bool leaf, k', v', d'] := hb6
  simp only [ld_27, hb6.cells (n := 4) rfl, Option.map_some, optK_some]
  have hf05 := ((hf02.trans hf3).trans hf4).trans hf5
  have hs1 := hf1.size
  have hs02 := hf02.size
  have hs3 := hf3.size
  have hs4 := hf4.size
  have hs5 := hf5.size
  have nk : ∀ g, blkOf k' = some g → w2.heap.size ≤ g ∧ g < w3.heap.size := fun g hg => ⟨hn3 g hg, hk'.lt hg⟩
  have nv : ∀ g, blkOf v' = some g → w3.heap.size ≤ g ∧ g < w4.heap.size := fun g hg => ⟨hn4 g hg, hv'.lt hg⟩
  have nd : ∀ g, blkOf d' = some g → w4.heap.size ≤ g := fun g hg => hn5 g hg
  refine hK _ _ ⟨⟨k', v', d', rfl, ?_, ?_, ?_, ?_, ?_, ?_⟩, ?_, ?_⟩
  · exact ((hk'.mono0 hf4).mono0 hf5).mono hf6 fun g hg h => by have := nk g hg; omega
  · exact (hv'.mono0 hf5).mono hf6 fun g hg h => by have := nv g hg; omega
  · exact hd'.mono hf6 fun g hg h => by have := nd g hg; omega
  · intro g hg h; have := nk g hg; have := nv g h; omega
  · intro g hg h; have := nk g hg; have := nd g h; omega
  · intro g hg h; have := nv g hg; have := nd g h; omega
  · exact hf05.step hf6 fun i hi h => by omega
  · intro g hg
    rcases nodeB_iff.1 hg with h | h | h
    · have := nk g h; omega
    · have := nv g h; omega
    · have := nd g h; omega
end Go.Proofs
