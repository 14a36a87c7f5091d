/-
  ENGINE, part 7: worlds: what stays ('Fr'), blocks ('Blk'), slices that are read ('Sl').
-/
import Derived.Test.YtflndenagilnmaaEng6
set_option linter.unusedVariables false
set_option linter.unusedSimpArgs false
namespace Go.Hx
open Go Go.RowKit

/-- Of what was there only the blocks of S may have turned. -/
structure Fr (S : Nat → Prop) (w w' : World) : Prop where
  os : w'.os = w.os
  tape : w'.tape = w.tape
  output : w'.output = w.output
  size : w.heap.size ≤ w'.heap.size
  block : ∀ k, k < w.heap.size → ¬ S k → w'.heap[k]? = w.heap[k]?
def none' : Nat → Prop := fun _ => False
abbrev Fr0 (w w' : World) : Prop := Fr none' w w'
theorem Fr.refl (S : Nat → Prop) (w : World) : Fr S w w := ⟨rfl, rfl, rfl, Nat.le_refl _, fun _ _ _ => rfl⟩
theorem Fr.trans {S : Nat → Prop} {a b c : World} (h : Fr S a b) (k : Fr S b c) : Fr S a c :=
  ⟨k.os.trans h.os, k.tape.trans h.tape, k.output.trans h.output, Nat.le_trans h.size k.size, fun i hi hs => (k.block i (Nat.lt_of_lt_of_le hi h.size) hs).trans (h.block i hi hs)⟩
theorem Fr.mono {S T : Nat → Prop} {a b : World} (h : Fr S a b) (hST : ∀ k, k < a.heap.size → S k → T k) : Fr T a b := ⟨h.os, h.tape, h.output, h.size, fun i hi hs => h.block i hi fun hS => hs (hST i hi hS)⟩
/-- A second step that touches, of old blocks, none but those of S. -/
theorem Fr.step {S T : Nat → Prop} {a b c : World} (h : Fr S a b) (k : Fr T b c) (hT : ∀ i, i < a.heap.size → T i → S i) : Fr S a c :=
  ⟨k.os.trans h.os, k.tape.trans h.tape, k.output.trans h.output, Nat.le_trans h.size k.size, fun i hi hs => (k.block i (Nat.lt_of_lt_of_le hi h.size) fun hT' => hs (hT i hi hT')).trans (h.block i hi hs)⟩
theorem Fr.of0 {S : Nat → Prop} {a b : World} (h : Fr0 a b) : Fr S a b := h.mono fun _ _ h => h.elim
theorem Fr.step0 {S : Nat → Prop} {a b c : World} (h : Fr S a b) (k : Fr0 b c) : Fr S a c := h.step k fun _ _ h => h.elim
theorem Fr.drew {S : Nat → Prop} {a b : World} (h : Fr S a b) : Fr S a b.drew := ⟨h.os, h.tape, h.output, h.size, h.block⟩
theorem Fr.alloc {S : Nat → Prop} {a b : World} (h : Fr S a b) (o : Obj) : Fr S a (b.alloc o) :=
  ⟨h.os, h.tape, h.output, by have := h.size; simp; omega, fun k hk hs => by rw [← h.block k hk hs, Below.heap_alloc]; exact Nat.lt_of_lt_of_le hk h.size⟩
theorem Fr.setCell {S : Nat → Prop} {a b : World} (h : Fr S a b) {p : Addr} (hp : a.heap.size ≤ p.block ∨ S p.block) (u : Value) : Fr S a (b.setCell p u) :=
  ⟨h.os, h.tape, h.output, by have := h.size; simp; omega, fun k hk hs => by
    rw [← h.block k hk hs, Below.heap_setCell]
    rintro rfl
    rcases hp with hp | hp
    · omega
    · exact hs hp⟩
theorem Fr.setCells {S : Nat → Prop} {a : World} {b : Nat} (hp : a.heap.size ≤ b ∨ S b) : ∀ (vs : List Value) (o : Nat) {w : World}, Fr S a w → Fr S a (w.setCells b o vs)
  | [], _, _, h => h
  | v :: vs, o, w, h => Fr.setCells hp vs (o + 1) (h.setCell (p := ⟨b, o, none⟩) hp v)
theorem Fr.below {w w' : World} (h : Fr0 w w') : Below w.heap.size w w' := ⟨h.os, h.tape, h.output, h.size, fun k hk => h.block k hk fun h => h⟩
theorem Fr.ofBelow {w w' : World} (h : Below w.heap.size w w') : Fr0 w w' := ⟨h.os, h.tape, h.output, h.size, fun k hk _ => h.block k hk⟩
theorem Fr.cell {S : Nat → Prop} {w w' : World} (h : Fr S w w') {b o : Nat} (hb : b < w.heap.size) (hs : ¬ S b) : w'.cell? ⟨b, o, none⟩ = w.cell? ⟨b, o, none⟩ := World.cell?_of_block (w := w) (h.block b hb hs)
theorem Fr.cell0 {w w' : World} (h : Fr0 w w') {b o : Nat} (hb : b < w.heap.size) : w'.cell? ⟨b, o, none⟩ = w.cell? ⟨b, o, none⟩ := h.cell hb fun h => h
theorem Fr.cellS {S : Nat → Prop} {w w' : World} (h : Fr S w w') {b o : Nat} {v : Value} (hc : w.cell? ⟨b, o, none⟩ = some v) (hs : ¬ S b) : w'.cell? ⟨b, o, none⟩ = some v :=
  (h.cell (World.block_lt_of_cell? w ⟨b, o, none⟩ hc) hs).trans hc

/-! ### A whole block of cells, none of them frozen -/
def Blk (w : World) (b : Nat) (E : TypeId) (cs : List Value) : Prop := w.heap[b]? = some (.cells cs.toArray E (0, 0))
theorem Blk.lt {w : World} {b : Nat} {E : TypeId} {cs : List Value} (h : Blk w b E cs) : b < w.heap.size := (Array.getElem?_eq_some_iff.1 h).1
theorem Blk.cell {w : World} {b : Nat} {E : TypeId} {cs : List Value} (h : Blk w b E cs) (o : Nat) : w.cell? ⟨b, o, none⟩ = cs[o]? := by
  unfold Blk at h
  simp [World.cell?, h]
theorem Blk.frozen {w : World} {b : Nat} {E : TypeId} {cs : List Value} (h : Blk w b E cs) (o : Nat) : w.frozen? ⟨b, o, none⟩ = false := by
  unfold Blk at h
  simp [World.frozen?, h]
theorem Blk.can {w : World} {b : Nat} {E : TypeId} {cs : List Value} (h : Blk w b E cs) {o n : Nat} (hn : o + n ≤ cs.length) : canStore w b o n := fun j hj => by
  refine ⟨?_, h.frozen _⟩
  rw [h.cell]
  have : o + j < cs.length := by omega
  simp [this]
theorem Blk.mono {S : Nat → Prop} {w w' : World} {b : Nat} {E : TypeId} {cs : List Value} (h : Blk w b E cs) (hf : Fr S w w') (hs : ¬ S b) : Blk w' b E cs := (hf.block b h.lt hs).trans h
theorem Blk.new (w : World) (E : TypeId) (cs : Array Value) : Blk (w.alloc (.cells cs E)) w.heap.size E cs.toList := by
  unfold Blk
  show (w.heap.push _)[w.heap.size]? = _
  simp
theorem Blk.drew {w : World} {b : Nat} {E : TypeId} {cs : List Value} (h : Blk w b E cs) : Blk w.drew b E cs := h
theorem Blk.setCell {w : World} {b : Nat} {E : TypeId} {cs : List Value} (h : Blk w b E cs) (o : Nat) (v : Value) : Blk (w.setCell ⟨b, o, none⟩ v) b E (cs.set o v) := by
  unfold Blk at *
  simp [World.setCell, Array.getElem?_modify, h]
def setL (cs : List Value) : Nat → List Value → List Value
  | _, [] => cs
  | o, v :: vs => setL (cs.set o v) (o + 1) vs
@[simp] theorem setL_nil (cs : List Value) (o : Nat) : setL cs o [] = cs := rfl
@[simp] theorem setL_cons (cs : List Value) (o : Nat) (v : Value) (vs : List Value) : setL cs o (v :: vs) = setL (cs.set o v) (o + 1) vs := rfl
theorem Blk.setCells {b : Nat} {E : TypeId} : ∀ (vs : List Value) (o : Nat) {w : World} {cs : List Value}, Blk w b E cs → Blk (w.setCells b o vs) b E (setL cs o vs)
  | [], _, _, _, h => h
  | v :: vs, o, w, cs, h => Blk.setCells vs (o + 1) (h.setCell o v)

/-! ### A slice that is read: sz cells an element -/
def Sl (w : World) (sz : Nat) (v : Value) (cs : List Value) : Prop :=
  ∃ A n c, v = .slice A n c ∧ cs.length = n * sz ∧ n ≤ c ∧ n ≤ 140737488355328 ∧ (n = 0 ∨ ∃ b o, A = some ⟨b, o, none⟩ ∧ ∀ j u, cs[j]? = some u → w.cell? ⟨b, o + j, none⟩ = some u)
theorem Sl.mono {S : Nat → Prop} {w w' : World} {sz : Nat} {v : Value} {cs : List Value} (h : Sl w sz v cs) (hf : Fr S w w') (hs : ∀ a n c, v = .slice (some a) n c → ¬ S a.block) : Sl w' sz v cs := by
  obtain ⟨A, n, c, rfl, hl, hc, hm, h⟩ := h
  refine ⟨A, n, c, rfl, hl, hc, hm, ?_⟩
  rcases h with h | ⟨b, o, rfl, h⟩
  · exact .inl h
  · exact .inr ⟨b, o, rfl, fun j u hu => hf.cellS (h j u hu) (hs _ _ _ rfl)⟩
theorem Sl.mono0 {w w' : World} {sz : Nat} {v : Value} {cs : List Value} (h : Sl w sz v cs) (hf : Fr0 w w') : Sl w' sz v cs := h.mono hf fun _ _ _ _ h => h
theorem Sl.nil (w : World) (sz c : Nat) (A : Option Addr) : Sl w sz (.slice A 0 c) [] := ⟨A, 0, c, rfl, by simp, by omega, by omega, .inl rfl⟩

/-! ### Loops -/
theorem loop0 {v0 : Nat → Value} {B : (u junk : Nat → Value) → Inv → List Nat → World → Prop} {w : World} (I : (Nat → Value) → World → Prop) (μ : (Nat → Value) → World → Nat) (h0 : I v0 w)
    (h : ∀ u junk w, I u w → B u junk (fun v ds' w' => (ds' = [] ∧ I v w') ∧ μ v w' < μ u w) [] w) : loopH v0 [] B w :=
  ⟨fun u ds w => ds = [] ∧ I u w, μ, ⟨rfl, h0⟩, fun u junk ds w hI => by obtain ⟨rfl, hi⟩ := hI; exact h u junk w hi⟩
/-- The same, what comes next behind a name. -/
theorem loopN {v0 : Nat → Value} {B : (u junk : Nat → Value) → Inv → List Nat → World → Prop} {w : World} (I : (Nat → Value) → World → Prop) (μ : (Nat → Value) → World → Nat) (h0 : I v0 w)
    (h : ∀ u junk w (nx : Inv), I u w → (∀ v w', I v w' → μ v w' < μ u w → nx v [] w') → B u junk nx [] w) : loopH v0 [] B w :=
  loop0 I μ h0 fun u junk w hi => h u junk w _ hi fun v w' h1 h2 => ⟨⟨rfl, h1⟩, h2⟩
def natOf : Value → Nat
  | .int _ n => n.toNat
  | _ => 0
@[simp] theorem natOf_int {k : IntKind} {n : Int} : natOf (.int k n) = n.toNat := rfl
@[simp] theorem vec_0 {a : Value} {l : List Value} : vec (a :: l) 0 = a := rfl
@[simp] theorem vec_1 {a b : Value} {l : List Value} : vec (a :: b :: l) 1 = b := rfl
@[simp] theorem vec_2 {a b c : Value} {l : List Value} : vec (a :: b :: c :: l) 2 = c := rfl
@[simp] theorem vec_3 {a b c d : Value} {l : List Value} : vec (a :: b :: c :: d :: l) 3 = d := rfl
@[simp] theorem vec_4 {a b c d e : Value} {l : List Value} : vec (a :: b :: c :: d :: e :: l) 4 = e := rfl
@[simp] theorem vec_5 {a b c d e f : Value} {l : List Value} : vec (a :: b :: c :: d :: e :: f :: l) 5 = f := rfl
attribute [simp] Int.natCast_inj

/-! ### Types, as the generated instances tell them -/
def TyI (P : Program) (t : TypeId) (z : Value) (sz by' : Nat) : Prop := ∃ i, P.info? t = some i ∧ i.zero = some z ∧ i.size = sz ∧ i.bytes = by'
theorem tyI {P : Program} {t : TypeId} {z : Value} {sz by' : Nat} (h : (P.info? t).map (fun i => (i.zero, i.size, i.bytes)) = some (some z, sz, by')) : TyI P t z sz by' := by
  cases hi : P.info? t with
  | none => rw [hi] at h; cases h
  | some i =>
    rw [hi] at h
    simp only [Option.map_some, Option.some.injEq, Prod.mk.injEq] at h
    exact ⟨i, hi, h.1, h.2.1, h.2.2⟩
section inst
variable {P : Program} {K : Value → World → Prop} {w : World}
theorem i_field {s ft off : Nat} {fs : Array Field} {i : Nat} {z : Value} {sz by' : Nat} (h : P.underlying s = some (.struct fs)) (hf : (fs[i]?).map (fun f => (f.type, f.offset)) = some (ft, off)) (hi : TyI P ft z (sz + 1) by') {b o : Nat} :
    Pu P (Instr.fieldAt s (.pointer (some ⟨b, o, none⟩)) i) K w = K (.pointer (some ⟨b, o + off, none⟩)) w := by
  obtain ⟨inf, h1, h2, h3, h4⟩ := hi
  cases hx : fs[i]? with
  | none => rw [hx] at hf; cases hf
  | some f =>
    rw [hx] at hf
    simp only [Option.map_some, Option.some.injEq, Prod.mk.injEq] at hf
    obtain ⟨rfl, rfl⟩ := hf
    exact Pu_field h hx h1 (by omega)
theorem i_index {t e : TypeId} {z : Value} {sz by' : Nat} (h : P.underlying t = some (.slice e)) (hi : TyI P e z sz by') {k : IntKind} {i : Int} {b o n c : Nat} (h0 : 0 ≤ i) (h1 : i < n) :
    Pu P (Instr.indexAt t (.slice (some ⟨b, o, none⟩) n c) (.int k i)) K w = K (.pointer (some ⟨b, o + i.toNat * sz, none⟩)) w := by
  obtain ⟨inf, h2, h3, rfl, h4⟩ := hi
  exact Pu_indexAddr h h2 h0 h1
theorem i_loadAgg {t : TypeId} {fs : Array Field} {z : Value} {sz by' : Nat} (h : P.underlying t = some (.struct fs)) (hi : TyI P t z sz by') {b o : Nat} :
    Rd P (Instr.loadAt t (.pointer (some ⟨b, o, none⟩))) K w = optK ((cellsAt w b o sz).map fun vs => .agg vs.toArray) K w := by
  obtain ⟨inf, h2, h3, rfl, h4⟩ := hi
  exact Rd_loadAgg h h2
theorem i_store {t : TypeId} {z : Value} {sz by' : Nat} (hi : TyI P t z sz by') {b o : Nat} {v : Value} (hz : v.cells.size = sz) (h1 : ∀ u ∈ v.cells.toList, u.oneCell' = true) (h : canStore w b o sz) :
    Uu P (Instr.storeAt t (.pointer (some ⟨b, o, none⟩)) v) K w = K undef (w.setCells b o v.cells.toList) := by
  obtain ⟨inf, h2, h3, rfl, h4⟩ := hi
  exact Uu_store h2 hz h1 h
theorem i_alloc {t : TypeId} {z : Value} {sz by' : Nat} (hi : TyI P t z sz by') :
    Rr P (Instr.alloc t true (.tuple #[])) K w = K (.pointer (some ⟨w.heap.size, 0, none⟩)) (w.alloc (.cells z.cells t)) := by
  obtain ⟨inf, h2, h3, rfl, h4⟩ := hi
  exact Rr_alloc h2 h3
end inst
end Go.Hx
