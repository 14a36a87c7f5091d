/-
  ENGINE, part 8: slices of slices, append, copy, make, clear, structs.
-/
import Derived.Test.YtflndenagilnmaaEng7
import Derived.Laws.MakeOwn
import Derived.Laws.CopyRow
set_option linter.unusedVariables false
set_option linter.unusedSimpArgs false
namespace Go.Hx
open Go Go.RowKit

variable {P : Program} {K : Value → World → Prop} {w : World}

/-! ### Slices of slices -/
theorem pureOf_bind {α β : Type} : ∀ (s : Sem α) (f : α → Sem β), pureOf P (s.bind f) = (pureOf P s).bind fun a => pureOf P (f a)
  | .pure a, f => rfl
  | .program k, f => pureOf_bind (k P) f
  | .load .., f => rfl
  | .shape .., f => rfl
  | .frozen .., f => rfl
  | .getObj .., f => rfl
  | .store .., f => rfl
  | .new .., f => rfl
  | .freeze .., f => rfl
  | .setObj .., f => rfl
  | .choose .., f => rfl
  | .sys .., f => rfl
  | .mark .., f => rfl
  | .halt .., f => rfl
/-- A bound that is written, or not. -/
def BdV (v : Option Value) (n d top : Nat) : Prop := (v = none ∧ n = d) ∨ ∃ k, v = some (.int k (n : Int)) ∧ n ≤ top
theorem BdV.none (n top : Nat) : BdV none n n top := .inl ⟨rfl, rfl⟩
theorem BdV.some {k : IntKind} {i : Int} {n d top : Nat} (h : i = n) (ht : n ≤ top) : BdV (some (.int k i)) n d top := .inr ⟨k, by rw [h], ht⟩
theorem sliceBound_of {k : IntKind} {n top : Nat} {c : BoundsCode} (h : n ≤ top) : Instr.sliceBound (.int k (n : Int)) top c = pure n := by
  simp [Instr.sliceBound, asIntOf, h]
theorem sliceBounds_of {s : Bool} {lo hi mx : Option Value} {len cap l h m : Nat} (hm : BdV mx m cap cap) (hh : BdV hi h len m) (hl : BdV lo l 0 h) (hx : mx = none ∨ hi ≠ none) :
    Instr.sliceBounds s len cap lo hi mx = pure (l, h, m) := by
  unfold Instr.sliceBounds
  rcases hm with ⟨rfl, rfl⟩ | ⟨k1, rfl, hm⟩ <;> rcases hh with ⟨rfl, rfl⟩ | ⟨k2, rfl, hh⟩ <;> rcases hl with ⟨rfl, rfl⟩ | ⟨k3, rfl, hl⟩ <;>
    simp_all [sliceBound_of]
theorem i_slice {t e : TypeId} {z : Value} {sz by' : Nat} (ht : P.underlying t = some (.slice e)) (hi : TyI P e z sz by') {A : Option Addr} {lo hi' mx : Option Value} {len cap : Nat} (l h m : Nat)
    (hm : BdV mx m cap cap) (hh : BdV hi' h len m) (hl : BdV lo l 0 h) (hx : mx = none ∨ hi' ≠ none) :
    Pu P (Instr.sliceAt t (.slice A len cap) lo hi' mx) K w = K (.slice (if m = l then A else A.map (·.add (l * sz))) (h - l) (m - l)) w := by
  obtain ⟨inf, h1, h2, h3, h4⟩ := hi
  have : Instr.sliceBounds true len cap lo hi' mx = pure (l, h, m) := sliceBounds_of hm hh hl hx
  have hs : pureOf P (Instr.slice t (.slice A len cap) lo hi' mx) = some (.slice (if m = l then A else A.map (·.add (l * sz))) (h - l) (m - l)) := by
    simp only [Instr.slice, underlying, program, ht, bind, Sem.bind, pureOf, pure, this, sizeOf, typeInfo, h1, h3]
  have hs2 : pureOf P (Instr.sliceAt t (.slice A len cap) lo hi' mx) = some (.slice (if m = l then A else A.map (·.add (l * sz))) (h - l) (m - l)) := by
    rw [← hs]
    simp only [Instr.sliceAt, underlying, program, ht, bind, Sem.bind, pureOf, pure]
  unfold Pu
  rw [hs2]
theorem i_sslice {t : TypeId} (ht : P.underlying t = some .string) {x : ByteArray} {lo hi' : Option Value} (l h : Nat) (hh : BdV hi' h x.size x.size) (hl : BdV lo l 0 h) :
    Pu P (Instr.sliceAt t (.string x) lo hi' none) K w = K (.string (x.extract l h)) w := by
  have : Instr.sliceBounds false x.size x.size lo hi' none = pure (l, h, x.size) := sliceBounds_of (.none _ _) hh hl (.inl rfl)
  have hs : pureOf P (Instr.sliceAt t (.string x) lo hi' none) = some (.string (x.extract l h)) := by
    simp only [Instr.sliceAt, Instr.slice, underlying, program, ht, bind, Sem.bind, pureOf, pure, this]
    simp [pureOf, pure, Sem.bind]
  unfold Pu
  rw [hs]

/-! ### Slices at the head of a block of their own -/
def blkOf : Value → Option Nat
  | .slice (some a) _ _ => some a.block
  | .pointer (some a) => some a.block
  | .map (some r) => some r
  | _ => none
@[simp] theorem blkOf_slice {a : Addr} {n c : Nat} : blkOf (.slice (some a) n c) = some a.block := rfl
@[simp] theorem blkOf_slice_nil {n c : Nat} : blkOf (.slice none n c) = none := rfl
@[simp] theorem blkOf_ptr {a : Addr} : blkOf (.pointer (some a)) = some a.block := rfl
structure Row (w : World) (e : TypeId) (sz g cap : Nat) (cs : List Value) : Prop where
  blk : Blk w g e cs
  len : cs.length = cap * sz
  max : cap ≤ maxLen
def Own (w : World) (e : TypeId) (sz n : Nat) (v : Value) (xs : List Value) : Prop :=
  xs.length = n * sz ∧ ((v = .slice none 0 0 ∧ n = 0) ∨ ∃ g cap cs, v = .slice (some ⟨g, 0, none⟩) n cap ∧ Row w e sz g cap cs ∧ n ≤ cap ∧ cs.take (n * sz) = xs)
theorem Row.mono {S : Nat → Prop} {w w' : World} {e : TypeId} {sz g cap : Nat} {cs : List Value} (h : Row w e sz g cap cs) (hf : Fr S w w') (hs : ¬ S g) : Row w' e sz g cap cs := ⟨h.blk.mono hf hs, h.len, h.max⟩
theorem Row.drew {w : World} {e : TypeId} {sz g cap : Nat} {cs : List Value} (h : Row w e sz g cap cs) : Row w.drew e sz g cap cs := ⟨h.blk, h.len, h.max⟩
theorem Own.mono {S : Nat → Prop} {w w' : World} {e : TypeId} {sz n : Nat} {v : Value} {xs : List Value} (h : Own w e sz n v xs) (hf : Fr S w w') (hs : ∀ g, blkOf v = some g → ¬ S g) : Own w' e sz n v xs := by
  obtain ⟨hl, h⟩ := h
  refine ⟨hl, ?_⟩
  rcases h with h | ⟨g, cap, cs, rfl, hr, hn, ht⟩
  · exact .inl h
  · exact .inr ⟨g, cap, cs, rfl, hr.mono hf (hs g rfl), hn, ht⟩
theorem Own.mono0 {w w' : World} {e : TypeId} {sz n : Nat} {v : Value} {xs : List Value} (h : Own w e sz n v xs) (hf : Fr0 w w') : Own w' e sz n v xs := h.mono hf fun _ _ h => h
theorem Own.drew {w : World} {e : TypeId} {sz n : Nat} {v : Value} {xs : List Value} (h : Own w e sz n v xs) : Own w.drew e sz n v xs := h.mono0 (Fr.refl _ w).drew
theorem Own.nil (w : World) (e : TypeId) (sz : Nat) : Own w e sz 0 (.slice none 0 0) [] := ⟨by simp, .inl ⟨rfl, rfl⟩⟩
theorem Own.lt {w : World} {e : TypeId} {sz n : Nat} {v : Value} {xs : List Value} (h : Own w e sz n v xs) {g : Nat} (hg : blkOf v = some g) : g < w.heap.size := by
  obtain ⟨hl, ⟨rfl, _⟩ | ⟨g', cap, cs, rfl, hr, hn, ht⟩⟩ := h
  · simp at hg
  · simp at hg; subst hg; exact hr.blk.lt
theorem Own.sl {w : World} {e : TypeId} {sz n : Nat} {v : Value} {xs : List Value} (h : Own w e sz n v xs) (hm : n ≤ 140737488355328) : Sl w sz v xs := by
  obtain ⟨hl, ⟨rfl, rfl⟩ | ⟨g, cap, cs, rfl, hr, hn, ht⟩⟩ := h
  · exact ⟨none, 0, 0, rfl, hl, by omega, by omega, .inl rfl⟩
  · refine ⟨_, n, cap, rfl, hl, hn, hm, .inr ⟨g, 0, rfl, fun j u hu => ?_⟩⟩
    rw [hr.blk.cell]
    rw [← ht, List.getElem?_take] at hu
    split at hu
    · simpa using hu
    · cases hu
theorem Own.new {w : World} {e : TypeId} {sz : Nat} (cs : List Value) (n cap : Nat) (xs : List Value) (hl : cs.length = cap * sz) (hn : n ≤ cap) (hm : cap ≤ maxLen) (hx : cs.take (n * sz) = xs) :
    Own (w.alloc (.cells cs.toArray e)) e sz n (.slice (some ⟨w.heap.size, 0, none⟩) n cap) xs := by
  refine ⟨?_, .inr ⟨_, cap, cs, rfl, ⟨by simpa using Blk.new w e cs.toArray, hl, hm⟩, hn, hx⟩⟩
  rw [← hx, List.length_take, hl]
  have := Nat.mul_le_mul_right sz hn
  omega

theorem setL_length : ∀ (vs : List Value) (cs : List Value) (o : Nat), (setL cs o vs).length = cs.length
  | [], cs, o => rfl
  | v :: vs, cs, o => by simp [setL_length vs]
theorem setL_get : ∀ (vs : List Value) (cs : List Value) (o j : Nat), o + vs.length ≤ cs.length → (setL cs o vs)[j]? = if o ≤ j ∧ j < o + vs.length then vs[j - o]? else cs[j]?
  | [], cs, o, j, h => by
    rw [if_neg (by simp only [List.length_nil]; omega)]; rfl
  | v :: vs, cs, o, j, h => by
    simp only [List.length_cons] at h
    rw [setL_cons, setL_get vs _ _ _ (by simp; omega)]
    by_cases h1 : j = o
    · subst h1
      rw [if_neg (by omega), if_pos (by simp)]
      rw [List.getElem?_set]
      simp; omega
    · by_cases h2 : o + 1 ≤ j ∧ j < o + 1 + vs.length
      · rw [if_pos h2, if_pos (by simp; omega), show j - o = (j - (o + 1)) + 1 by omega, List.getElem?_cons_succ]
      · rw [if_neg h2, if_neg (by simp; omega), List.getElem?_set, if_neg (by omega)]
theorem setL_take {cs vs : List Value} {o : Nat} (h : o + vs.length ≤ cs.length) : setL cs o vs = cs.take o ++ vs ++ cs.drop (o + vs.length) := by
  apply List.ext_getElem?
  intro j
  rw [setL_get _ _ _ _ h]
  simp only [List.getElem?_append, List.length_append, List.length_take, List.getElem?_take, List.getElem?_drop, show min o cs.length = o by omega]
  by_cases h1 : j < o
  · simp [h1, show j < o + vs.length by omega, show ¬ o ≤ j by omega]
  · by_cases h2 : j < o + vs.length
    · simp [h1, h2, show o ≤ j by omega]
    · simp [h1, h2, show o + vs.length + (j - (o + vs.length)) = j by omega]

/-! ### append -/
theorem run_append_none0 {t tx ty e : TypeId} {i : TypeInfo} (ht : P.underlying t = some (.slice e)) (hi : P.info? e = some i) {x : Value} {news : List Value} (hs : Src P i.size tx x 0 news w) :
    (Builtin.append_ #[t, tx] ty #[.slice none 0 0, x]).run P w = .ok (.slice none 0 0) w := by
  rcases hs.kind with ⟨e', hk⟩ | hk <;> simp [Builtin.append_, run_underlying ht, run_underlying hk, sizeOf, typeInfo, hi, hs.len, hs.cells]
theorem append_own {t tx ty e : TypeId} {z : Value} {sz by' n m : Nat} (ht : P.underlying t = some (.slice e)) (hi : TyI P e z sz by') (hz : z.cells.size = sz) {v x : Value} {xs news : List Value} (hO : Own w e sz n v xs)
    (hS : Src P sz tx x m news w) (hfit : (n + m) * by' ≤ 140737488355328) (hmax : n + m ≤ maxLen)
    (h : ∀ v' w', Own w' e sz (n + m) v' (xs ++ news) → Fr (fun k => blkOf v = some k) w w' → (∀ k, blkOf v' = some k → blkOf v = some k ∨ w.heap.size ≤ k) → K v' w') :
    Rr P (Builtin.append_ #[t, tx] ty ⟨[v, x]⟩) K w := by
  obtain ⟨inf, h1, h2, rfl, rfl⟩ := hi
  obtain ⟨hl, hO⟩ := hO
  have h63 : ((n + m : Nat) : Int) ≤ 9223372036854775807 := by unfold maxLen at hmax; omega
  have grow : ∀ (A : Option Addr) (cap : Nat), v = .slice A n cap → cap < n + m → (Builtin.firstCells inf.size n (.slice A n cap)).run P w.drew = .ok xs.toArray w.drew → Rr P (Builtin.append_ #[t, tx] ty ⟨[v, x]⟩) K w := by
    rintro A cap rfl hg hold
    refine Rr_iff.2 ⟨_, _, run_append_grow_src w t tx ty e inf z ht h1 h2 A n cap xs hold x m news hS hg h63 (growslice_fits hg hfit), h _ _ ?_ ?_ ?_⟩
    · have hgc := grownCap_ge w (n + m) cap e
      have hgm := grownCap_le_maxLen w (n + m) cap e hmax
      have hzl : (Builtin.zeroCells z.cells (grownCap w (n + m) cap e - (n + m))).size = (grownCap w (n + m) cap e - (n + m)) * inf.size := by simp [Builtin.zeroCells, hz]
      have hmul : (n + m) * inf.size ≤ grownCap w (n + m) cap e * inf.size := Nat.mul_le_mul_right _ hgc
      have := Own.new (w := w.drew) (e := e) (sz := inf.size) ((xs ++ news) ++ (Builtin.zeroCells z.cells (grownCap w (n + m) cap e - (n + m))).toList) (n + m) (grownCap w (n + m) cap e) (xs ++ news)
        (by
          simp only [List.length_append, hl, hS.newsLen, Array.length_toList, hzl, Nat.sub_mul, Nat.add_mul] at *
          omega) hgc hgm (by
          rw [List.take_append_of_le_length (by simp [hl, hS.newsLen, Nat.add_mul]), List.take_of_length_le (by simp [hl, hS.newsLen, Nat.add_mul])])
      have he : ((xs ++ news) ++ (Builtin.zeroCells z.cells (grownCap w (n + m) cap e - (n + m))).toList).toArray = (xs ++ news).toArray ++ Builtin.zeroCells z.cells (grownCap w (n + m) cap e - (n + m)) := by
        apply Array.ext'; simp
      rw [he] at this
      exact this
    · exact (Fr.refl _ w).drew.alloc _
    · intro k hk; simp at hk; right; omega
  rcases hO with ⟨rfl, rfl⟩ | ⟨g, cap, cs, rfl, hr, hn, htk⟩
  · have hx0 : xs = [] := by simpa using hl
    subst hx0
    rcases Nat.eq_zero_or_pos m with rfl | hm
    · refine Rr_iff.2 ⟨_, _, run_append_none0 ht h1 hS, h _ _ ?_ (Fr.refl _ _) fun k hk => by simp at hk⟩
      have : news = [] := by have := hS.newsLen; simpa using this
      subst this
      exact Own.nil _ _ _
    · exact grow none 0 rfl (by omega) (run_firstCells_none w.drew inf.size 0 0 0)
  · by_cases hroom : n + m ≤ cap
    · have hb : n * inf.size + m * inf.size ≤ cap * inf.size := by rw [← Nat.add_mul]; exact Nat.mul_le_mul_right _ hroom
      have hfits : 0 + n * inf.size + news.length ≤ cs.length := by rw [hr.len, hS.newsLen]; omega
      have hcan := hr.blk.can hfits
      refine Rr_iff.2 ⟨_, _, run_append_room_src w t tx ty e inf ht h1 g 0 n cap x m news hS hroom (fun j hj => (hcan j hj).1) (fun j hj => (hcan j hj).2), h _ _ ?_ ?_ ?_⟩
      · refine ⟨by simp [hl, hS.newsLen, Nat.add_mul], .inr ⟨g, cap, _, rfl, ⟨hr.blk.setCells news _, by rw [setL_length]; exact hr.len, hr.max⟩, hroom, ?_⟩⟩
        rw [setL_take hfits, Nat.zero_add, htk, List.take_append_of_le_length (by simp [hl, hS.newsLen, Nat.add_mul]), List.take_of_length_le (by simp [hl, hS.newsLen, Nat.add_mul])]
      · exact Fr.setCells (S := fun k => blkOf (.slice (some ⟨g, 0, none⟩) n cap) = some k) (.inr rfl) _ _ (Fr.refl _ _)
      · intro k hk; exact .inl hk
    · refine grow _ cap rfl (by omega) ?_
      refine run_firstCells_some w.drew inf.size n _ n cap xs hl fun j u hu => ?_
      rw [add_none]
      have : w.cell? ⟨g, 0 + j, none⟩ = some u := by
        rw [hr.blk.cell]
        rw [← htk, List.getElem?_take] at hu
        split at hu
        · simpa using hu
        · cases hu
      simpa using this
theorem append_room {t tx ty e : TypeId} {z : Value} {sz by' n m g cap : Nat} (ht : P.underlying t = some (.slice e)) (hi : TyI P e z sz by') {x : Value} {cs news : List Value} (hr : Row w e sz g cap cs) (hn : n + m ≤ cap) (hS : Src P sz tx x m news w) :
    Rr P (Builtin.append_ #[t, tx] ty ⟨[.slice (some ⟨g, 0, none⟩) n cap, x]⟩) K w = K (.slice (some ⟨g, 0, none⟩) (n + m) cap) (w.setCells g (n * sz) news) := by
  obtain ⟨inf, h1, h2, rfl, rfl⟩ := hi
  have hb : n * inf.size + m * inf.size ≤ cap * inf.size := by rw [← Nat.add_mul]; exact Nat.mul_le_mul_right _ hn
  have hfits : 0 + n * inf.size + news.length ≤ cs.length := by rw [hr.len, hS.newsLen]; omega
  have hcan := hr.blk.can hfits
  have := run_append_room_src w t tx ty e inf ht h1 g 0 n cap x m news hS hn (fun j hj => (hcan j hj).1) (fun j hj => (hcan j hj).2)
  rw [Nat.zero_add] at this
  unfold Rr
  rw [this]
theorem Sl.src {t e : TypeId} {sz n : Nat} {v : Value} {xs : List Value} (ht : P.underlying t = some (.slice e)) (h : Sl w sz v xs) (hl : xs.length = n * sz) (hsz : 0 < sz) (h1 : ∀ u ∈ xs, u.oneCell' = true) : Src P sz t v n xs w := by
  obtain ⟨A, n', c, rfl, hl', hc, hm, h⟩ := h
  have hn : n' = n := by
    have : n' * sz = n * sz := by omega
    exact Nat.eq_of_mul_eq_mul_right hsz this
  subst hn
  rcases A with _ | a
  · have h0 : n' = 0 := by
      rcases h with h | ⟨b, o, h, _⟩
      · exact h
      · cases h
    subst h0
    have : xs = [] := by simpa using hl
    subst this
    exact ⟨.inl ⟨e, ht⟩, fun _ => rfl, run_firstCells_none w sz 0 0 c, run_firstCells_none w.drew sz 0 0 c, by simp, fun _ h => by cases h⟩
  · refine Src.ofSlice w ht a n' c xs hl (fun j u hu => ?_) h1
    rcases h with rfl | ⟨b, o, hA, h⟩
    · have : xs = [] := by simpa using hl
      subst this; simp at hu
    · cases hA; rw [add_none]; exact h j u hu

/-! ### Literals and make -/
theorem buildSlice_new {t e : TypeId} {z : Value} {sz by' n : Nat} {parts : List (Nat × Value)} {cells : Array Value} (ht : P.underlying t = some (.slice e)) (hi : TyI P e z sz by') (h24 : n * sz ≤ 16777216)
    (hf : Instr.fill (fun i => some (i * sz, sz)) (if n * sz = 0 then #[] else (Array.range (n * sz)).map (z.cells[· % z.cells.size]!)) parts = some cells) :
    Rr P (Instr.buildSlice t n ⟨parts⟩) K w = K (.slice (some ⟨w.heap.size, 0, none⟩) n n) (w.alloc (.cells cells e)) := by
  obtain ⟨inf, h1, h2, rfl, rfl⟩ := hi
  have h24' : ¬ (16777216 < n * inf.size) := by omega
  have : (Instr.buildSlice t n ⟨parts⟩).run P w = .ok (.slice (some ⟨w.heap.size, 0, none⟩) n n) (w.alloc (.cells cells e)) := by
    by_cases h0 : n * inf.size = 0
    · simp only [h0, if_true] at hf
      have hr : ∀ f : Nat → Value, Array.map f (Array.range 0) = #[] := fun f => by simp [Array.range]
      have hf' : Instr.fill (fun i => some (i * inf.size, inf.size)) (Array.map (fun _ => (default : Value)) (Array.range 0)) parts = some cells := by rw [hr]; exact hf
      simp [Instr.buildSlice, run_underlying ht, sizeOf, typeInfo, h1, h24', h0, newRow, newObj]
      rw [hf']
      rfl
    · simp only [h0, if_false] at hf
      simp [Instr.buildSlice, run_underlying ht, sizeOf, typeInfo, zeroValue, h1, h2, h24', h0, newRow, newObj, hf]
      rfl
  unfold Rr
  rw [this]
theorem makeSlice_new {t e : TypeId} {z : Value} {sz by' : Nat} (ht : P.underlying t = some (.slice e)) (hi : TyI P e z sz by') {kl kc : IntKind} {l c : Nat} (hlc : l ≤ c) (hb : by' * c ≤ 281474976710656) (h63 : c ≤ maxLen) :
    Rr P (Instr.makeSlice t (.int kl (l : Int)) (.int kc (c : Int))) K w = K (.slice (some ⟨w.heap.size, 0, none⟩) l c) (w.alloc (.cells (madeCells z.cells (c * sz)) e)) := by
  obtain ⟨inf, h1, h2, rfl, rfl⟩ := hi
  have hb' : (inf.bytes : Int) * (c : Int) ≤ 281474976710656 := by
    have h : ((inf.bytes * c : Nat) : Int) ≤ 281474976710656 := by omega
    rwa [Int.natCast_mul] at h
  have := run_make (P := P) w t e inf z ht h1 h2 kl kc l c (by omega) (by omega) hb' (by unfold maxLen at h63; omega)
  unfold Rr
  rw [this]
  simp

end Go.Hx
