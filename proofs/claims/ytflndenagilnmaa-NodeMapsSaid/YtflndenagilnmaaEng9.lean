/-
  ENGINE, part 9: copy, clear, append of make, bytes and strings, structs.
-/
import Derived.Test.YtflndenagilnmaaEng8
import Derived.Laws.BytesArg
import Derived.Laws.IdiomStrings
set_option linter.unusedVariables false
set_option linter.unusedSimpArgs false
namespace Go.Hx
open Go Go.RowKit

variable {P : Program} {K : Value → World → Prop} {w : World}

/-! ### copy, clear -/
theorem firstCells_of {sz n : Nat} {A : Option Addr} {m c : Nat} {xs : List Value} (hl : xs.length = n * sz) (h : n = 0 ∨ ∃ b o, A = some ⟨b, o, none⟩ ∧ ∀ j u, xs[j]? = some u → w.cell? ⟨b, o + j, none⟩ = some u) :
    (Builtin.firstCells sz n (.slice A m c)).run P w = .ok xs.toArray w := by
  rcases h with rfl | ⟨b, o, rfl, h⟩
  · have : xs = [] := by simpa using hl
    subst this
    cases A with
    | none => exact run_firstCells_none w sz 0 m c
    | some a => exact run_firstCells_some w sz 0 a m c [] (by simp) (by simp)
  · exact run_firstCells_some w sz n _ m c xs hl fun j u hu => by rw [add_none]; exact h j u hu
theorem copy_to {t tx ty e : TypeId} {z : Value} {sz by' : Nat} (ht : P.underlying t = some (.slice e)) (hi : TyI P e z sz by') {g o dn dc sn sc k : Nat} {cs : List Value} {E : TypeId} {A : Option Addr} {xs : List Value} (hb : Blk w g E cs)
    (hk : k = Nat.min sn dn) (hfit : o + k * sz ≤ cs.length) (hl : xs.length = k * sz) (h1 : ∀ u ∈ xs, u.oneCell' = true)
    (h : k = 0 ∨ ∃ b o, A = some ⟨b, o, none⟩ ∧ ∀ j u, xs[j]? = some u → w.cell? ⟨b, o + j, none⟩ = some u) :
    Rr P (Builtin.copy_ #[t, tx] ty ⟨[.slice (some ⟨g, o, none⟩) dn dc, .slice A sn sc]⟩) K w = K (.int .i64 k) (w.setCells g o xs) := by
  obtain ⟨inf, h2, h3, rfl, h4⟩ := hi
  subst hk
  have hf := firstCells_of (P := P) (m := sn) (c := sc) hl h
  have hcan := hb.can (o := o) (n := xs.length) (by omega)
  have hst := run_storeCells_cells (P := P) g o xs 0 w (fun j hj => by simpa using (hcan j hj).1) (fun j hj => by simpa using (hcan j hj).2) h1
  simp only [Nat.add_zero] at hst
  have : (Builtin.copy_ #[t, tx] ty ⟨[.slice (some ⟨g, o, none⟩) dn dc, .slice A sn sc]⟩).run P w = .ok (.int .i64 (Nat.min sn dn)) (w.setCells g o xs) := by
    simp only [Builtin.copy_, Sem.run_bind]
    simp [run_underlying ht, Builtin.lenOf, sizeOf, typeInfo, h2, hf, hst, goInt]
  unfold Rr
  rw [this]
theorem copy_none {t tx ty e : TypeId} {z : Value} {sz by' : Nat} (ht : P.underlying t = some (.slice e)) (hi : TyI P e z sz by') {dc sn sc : Nat} {A : Option Addr} :
    Rr P (Builtin.copy_ #[t, tx] ty ⟨[.slice none 0 dc, .slice A sn sc]⟩) K w = K (.int .i64 0) w := by
  obtain ⟨inf, h2, h3, rfl, h4⟩ := hi
  have hf := firstCells_of (P := P) (w := w) (sz := inf.size) (n := 0) (m := sn) (c := sc) (A := A) (xs := []) (by simp) (.inl rfl)
  have : (Builtin.copy_ #[t, tx] ty ⟨[.slice none 0 dc, .slice A sn sc]⟩).run P w = .ok (.int .i64 0) w := by
    simp only [Builtin.copy_, Sem.run_bind]
    simp [run_underlying ht, Builtin.lenOf, sizeOf, typeInfo, h2, hf, goInt]
  unfold Rr
  rw [this]
theorem clear_to {t ty e : TypeId} {z : Value} {sz by' : Nat} (ht : P.underlying t = some (.slice e)) (hi : TyI P e z sz by') {g o n c : Nat} {cs : List Value} {E : TypeId} (hb : Blk w g E cs) (hz : z.cells.size = sz)
    (hfit : o + n * sz ≤ cs.length) (h1 : ∀ u ∈ z.cells.toList, u.oneCell' = true) :
    Rr P (Builtin.clear_ #[t] ty ⟨[.slice (some ⟨g, o, none⟩) n c]⟩) K w = K (.tuple #[]) (w.setCells g o (Builtin.zeroCells z.cells n).toList) := by
  obtain ⟨inf, h2, h3, rfl, h4⟩ := hi
  have hzl : (Builtin.zeroCells z.cells n).toList.length = n * inf.size := by simp [Builtin.zeroCells, hz]
  have hcan := hb.can (o := o) (n := (Builtin.zeroCells z.cells n).toList.length) (by omega)
  have hone : ∀ u ∈ (Builtin.zeroCells z.cells n).toList, u.oneCell' = true := by
    intro u hu
    simp only [Builtin.zeroCells, Array.toList_map, List.mem_map, Array.toList_range, List.mem_range] at hu
    obtain ⟨i, hi, rfl⟩ := hu
    have hpos : 0 < z.cells.size := by
      rcases Nat.eq_zero_or_pos z.cells.size with h0 | h0
      · rw [h0] at hi; simp at hi
      · exact h0
    have hlt := Nat.mod_lt i hpos
    rw [getElem!_pos z.cells _ hlt]
    exact h1 _ (by simp)
  have hst := run_storeCells_cells (P := P) g o (Builtin.zeroCells z.cells n).toList 0 w (fun j hj => by simpa using (hcan j hj).1) (fun j hj => by simpa using (hcan j hj).2) hone
  simp only [Nat.add_zero] at hst
  have : (Builtin.clear_ #[t] ty ⟨[.slice (some ⟨g, o, none⟩) n c]⟩).run P w = .ok (.tuple #[]) (w.setCells g o (Builtin.zeroCells z.cells n).toList) := by
    rcases Nat.eq_zero_or_pos n with rfl | hn
    · have : (Builtin.zeroCells z.cells 0).toList = [] := by simp [Builtin.zeroCells, Array.range]
      rw [this]
      simp [Builtin.clear_, run_underlying ht]
      rfl
    · have hn' : n ≠ 0 := by omega
      simp only [Builtin.clear_, Sem.run_bind]
      simp [run_underlying ht, zeroValue, typeInfo, h2, h3, hn', hst]
  unfold Rr
  rw [this]
theorem clear_none {t ty e : TypeId} (ht : P.underlying t = some (.slice e)) {A : Option Addr} {c : Nat} : Rr P (Builtin.clear_ #[t] ty ⟨[.slice A 0 c]⟩) K w = K (.tuple #[]) w := by
  have : (Builtin.clear_ #[t] ty ⟨[.slice A 0 c]⟩).run P w = .ok (.tuple #[]) w := by
    cases A <;> simp [Builtin.clear_, run_underlying ht]
  unfold Rr
  rw [this]
theorem zeroCells_one {z : Value} (n : Nat) : (Builtin.zeroCells #[z] n).toList = List.replicate n z := by
  apply List.ext_getElem?
  intro j
  by_cases hj : j < n
  · simp [Builtin.zeroCells, hj, Nat.mod_one]
  · simp [Builtin.zeroCells, hj]

/-! ### append(s, make(..)...) that does not fit -/
theorem append_make {t tn ty e : TypeId} {z : Value} {sz by' n m : Nat} (ht : P.underlying t = some (.slice e)) {kn : IntKind} (htn : P.underlying tn = some (.int kn)) (hi : TyI P e z sz by') (hz : z.cells.size = sz) (hsz : 0 < sz) {k : IntKind} {v : Value} {xs : List Value} (hO : Own w e sz n v xs)
    (hm : 0 < m) {cap : Nat} {A : Option Addr} (hv : v = .slice A n cap) (hg : cap < n + m) (hfit : (n + m) * by' ≤ 140737488355328) (hmax : n + m ≤ maxLen)
    (h : ∀ g cap' rest w', Own w' e sz (n + m) (.slice (some ⟨g, 0, none⟩) (n + m) cap') (xs ++ rest) → rest.length = m * sz → Fr0 w w' → w.heap.size ≤ g → K (.slice (some ⟨g, 0, none⟩) (n + m) cap') w') :
    Rr P (Builtin.append_ #[t, tn] ty ⟨[v, .int k (m : Int)]⟩) K w := by
  obtain ⟨inf, h1, h2, rfl, rfl⟩ := hi
  obtain ⟨hl, hO⟩ := hO
  have h63' : ((n + m : Nat) : Int) ≤ 9223372036854775807 := by unfold maxLen at hmax; omega
  have hw : IntKind.i64.wrap (m : Int) = m := by rw [IntKind.wrap_i64]; omega
  have hneg : ¬ ((m : Int) < 0) := by omega
  have hns : ¬ (m * inf.size = 0) := Nat.mul_ne_zero (by omega) (by omega)
  have hle : m * inf.bytes ≤ (n + m) * inf.bytes := Nat.mul_le_mul_right _ (by omega)
  have h48i : ¬ (281474976710656 < (m : Int) * (inf.bytes : Int)) := by rw [← Int.natCast_mul]; omega
  have h48' : ¬ (281474976710656 < Builtin.nextslicecap (n + m) cap * inf.bytes) := by have := growslice_fits hg hfit; omega
  have h63 : ¬ (9223372036854775807 < ((n : Int) + (m : Int))) := by omega
  have hroom : ¬ (n + m ≤ cap) := by omega
  have hold : (Builtin.firstCells inf.size n v).run P w.drew = .ok xs.toArray w.drew := by
    rcases hO with ⟨rfl, rfl⟩ | ⟨g, cap', cs, rfl, hr, hn, htk⟩
    · have : xs = [] := by simpa using hl
      subst this
      exact run_firstCells_none w.drew inf.size 0 0 0
    · refine run_firstCells_some w.drew inf.size n _ n cap' xs hl fun j u hu => ?_
      rw [add_none]
      have : w.cell? ⟨g, 0 + j, none⟩ = some u := by
        rw [hr.blk.cell]
        rw [← htk, List.getElem?_take] at hu
        split at hu
        · simpa using hu
        · cases hu
      simpa using this
  subst hv
  have hgc := grownCap_ge w (n + m) cap e
  have hgm := grownCap_le_maxLen w (n + m) cap e hmax
  have hrun : (Builtin.append_ #[t, tn] ty ⟨[.slice A n cap, .int k (m : Int)]⟩).run P w = .ok (.slice (some ⟨w.heap.size, 0, none⟩) (n + m) (grownCap w (n + m) cap e))
      (w.drew.alloc (.cells (xs ++ ((Builtin.zeroCells z.cells m).toList ++ (Builtin.zeroCells z.cells (grownCap w (n + m) cap e - (n + m))).toList)).toArray e)) := by
    simp [Builtin.append_, run_underlying ht, run_underlying htn, sizeOf, typeInfo, zeroValue, h1, h2, asInt, asIntOf, hw, hneg, hns, h63, h48', h48i, hroom, Question.forced, hold, newRow, grownCap]
    congr 2
    apply Array.ext'
    simp [List.append_assoc]
  refine Rr_iff.2 ⟨_, _, hrun, h _ _ (Builtin.zeroCells z.cells m).toList _ ?_ (by simp [Builtin.zeroCells, hz]) ((Fr.refl _ w).drew.alloc _) (by simp)⟩
  have hzl : ∀ q, (Builtin.zeroCells z.cells q).size = q * inf.size := fun q => by simp [Builtin.zeroCells, hz]
  have hmul : (n + m) * inf.size ≤ grownCap w (n + m) cap e * inf.size := Nat.mul_le_mul_right _ hgc
  have := Own.new (w := w.drew) (e := e) (sz := inf.size) (xs ++ ((Builtin.zeroCells z.cells m).toList ++ (Builtin.zeroCells z.cells (grownCap w (n + m) cap e - (n + m))).toList)) (n + m) (grownCap w (n + m) cap e) (xs ++ (Builtin.zeroCells z.cells m).toList)
    (by
      simp only [List.length_append, hl, Array.length_toList, hzl, Nat.sub_mul, Nat.add_mul] at *
      omega) hgc hgm (by
      rw [← List.append_assoc, List.take_append_of_le_length (by simp [hl, hzl, Nat.add_mul]), List.take_of_length_le (by simp [hl, hzl, Nat.add_mul])])
  exact this

/-! ### Bytes and strings -/
theorem readOf_forIn_bytes {f : Value → ByteArray → Sem (ForInStep ByteArray)} (hf : ∀ (n : Int) (r : ByteArray), readOf P w (f (.int .u8 n) r) = some (.yield (r.push (UInt8.ofNat n.toNat)))) :
    ∀ (ns : List Int) (s : ByteArray), readOf P w (forIn (ns.map (Value.int .u8)) s f) = some (ns.foldl (fun r n => r.push (UInt8.ofNat n.toNat)) s)
  | [], s => rfl
  | n :: ns, s => by
    simp only [List.map_cons, List.forIn_cons, bind, readOf_bind, hf, Option.bind_some, List.foldl_cons, readOf_forIn_bytes hf ns _]
theorem bytes_string {s d e : TypeId} (hs : P.underlying s = some (.slice e)) (he : P.underlying e = some (.int .u8)) (hd : P.underlying d = some .string) {v : Value} {ns : List Int} (h : Sl w 1 v (ns.map (.int .u8))) :
    Rd P (convert s d v) K w = K (.string (strOfNums ns)) w := by
  obtain ⟨A, n, c, rfl, hl, hc, hm, h⟩ := h
  have hn : n = ns.length := by simpa using hl.symm
  subst hn
  have hconv : readOf P w (convert s d (.slice A ns.length c)) = readOf P w (Conv.bytesToString (.slice A ns.length c)) := by
    simp only [convert, underlying, program, hs, hd, he, bind, Sem.bind, readOf, pure]
  have : readOf P w (Conv.bytesToString (.slice A ns.length c)) = some (.string (strOfNums ns)) := by
    rcases A with _ | a
    · have h0 : ns.length = 0 := by
        rcases h with h | ⟨b, o, h, _⟩
        · exact h
        · cases h
      have : ns = [] := List.length_eq_zero_iff.1 h0
      subst this
      rfl
    · have hload : readOf P w (loadCells a ns.length) = some (ns.map (Value.int .u8)).toArray := by
        rcases h with h | ⟨b, o, hA, h⟩
        · have : ns = [] := List.length_eq_zero_iff.1 h
          subst this
          rfl
        · cases hA
          have := readOf_loadCells (P := P) (w := w) (b := b) (o := o) ns.length 0 #[]
          rw [Nat.add_zero, (cellsAt_iff (n := ns.length) (vs := ns.map (Value.int .u8))).2 ⟨by simp, h⟩] at this
          simpa [loadCells] using this
      unfold Conv.bytesToString
      simp only [bind, readOf_bind, hload, Option.bind_some, List.forIn_toArray]
      rw [readOf_forIn_bytes (fun n r => rfl)]
      simp only [Option.bind_some, foldl_push_bytes, strOfNums]
      simp [readOf, pure, ByteArray.empty, ByteArray.emptyWithCapacity]
      rfl
  unfold Rd
  rw [hconv, this]
theorem string_bytes {s d e : TypeId} (hs : P.underlying s = some .string) (hd : P.underlying d = some (.slice e)) (he : P.underlying e = some (.int .u8)) {x : ByteArray} (hx : x.size ≤ 140737488355328)
    (h : ∀ v w', Sl w' 1 v (byteCells x) → Fr0 w w' → (∀ k, blkOf v = some k → w.heap.size ≤ k) → K v w') : Rr P (convert s d (.string x)) K w := by
  have hrun := run_bytes_of_string (P := P) w s d e x hs hd he
  have hge := grownCap_ge w x.size 0 e
  refine Rr_iff.2 ⟨_, _, hrun, h _ _ ?_ ((Fr.refl _ w).drew.alloc _) ?_⟩
  · refine ⟨_, x.size, grownCap w x.size 0 e, rfl, by rw [byteCells_length, Nat.mul_one], hge, hx, .inr ⟨w.heap.size, 0, rfl, fun j u hu => ?_⟩⟩
    have hlen : j < (byteCells x).length := (List.getElem?_eq_some_iff.1 hu).1
    have hheap : (w.drew.alloc (.cells (bytesRow x (grownCap w x.size 0 e)) e ((bytesRow x (grownCap w x.size 0 e)).size, (bytesRow x (grownCap w x.size 0 e)).size + 1))).heap[w.heap.size]? =
        some (.cells (bytesRow x (grownCap w x.size 0 e)) e ((bytesRow x (grownCap w x.size 0 e)).size, (bytesRow x (grownCap w x.size 0 e)).size + 1)) := by
      show (w.heap.push _)[w.heap.size]? = _
      simp
    rw [Nat.zero_add]
    unfold World.cell?
    rw [hheap]
    rw [byteCells_length] at hlen
    have hd : j < x.data.size := hlen
    have hd' : j < x.size := hlen
    unfold byteCells at hu
    simp [bytesRow, Array.getElem?_append, hd, hd'] at hu ⊢
    exact hu
  · intro k hk; simp at hk; omega

/-! ### Structs -/
theorem i_build {t : TypeId} {fs : Array Field} {z : Value} {sz by' : Nat} (h : P.underlying t = some (.struct fs)) (hi : TyI P t z sz by') (places : Array (Nat × Nat))
    (hp : fs.toList.map (fun f => (P.info? f.type).map fun i => (f.offset, i.size)) = places.toList.map some) {parts : List (Nat × Value)} :
    Pu P (Instr.build t ⟨parts⟩) K w = optK ((Instr.fill (places[·]?) z.cells parts).map .agg) K w := by
  obtain ⟨inf, h1, h2, rfl, h4⟩ := hi
  have hmap : ∀ (l : List Field) (ps acc : List (Nat × Nat)), l.map (fun f => (P.info? f.type).map fun i => (f.offset, i.size)) = ps.map some →
      pureOf P (List.mapM.loop (fun f : Field => (do pure (f.offset, ← sizeOf f.type) : Sem (Nat × Nat))) l acc) = some (acc.reverse ++ ps) := by
    intro l
    induction l with
    | nil => intro ps acc hps; cases ps <;> simp at hps; simp [List.mapM.loop, pureOf, pure]
    | cons f l ih =>
      intro ps acc hps
      cases ps with
      | nil => simp at hps
      | cons p ps =>
        simp only [List.map_cons, List.cons.injEq] at hps
        cases hx : P.info? f.type with
        | none => rw [hx] at hps; simp at hps
        | some i =>
          rw [hx] at hps
          simp only [Option.map_some, Option.some.injEq] at hps
          have hone : pureOf P (do pure (f.offset, ← sizeOf f.type) : Sem (Nat × Nat)) = some (f.offset, i.size) := by
            simp [bind, sizeOf, typeInfo, program, Sem.bind, pureOf, hx, pure]
          rw [List.mapM.loop]
          simp only [bind] at hone ⊢
          rw [pureOf_bind, hone, Option.bind_some]
          refine (ih ps _ hps.2).trans ?_
          rw [← hps.1]
          simp
  have hpl : pureOf P (fs.mapM fun f => (do pure (f.offset, ← sizeOf f.type) : Sem (Nat × Nat))) = some places := by
    have := hmap fs.toList places.toList [] hp
    rw [Array.mapM_eq_mapM_toList]
    simp only [Functor.map, pureOf_bind, List.mapM, this]
    simp [pureOf]
  have : pureOf P (Instr.build t ⟨parts⟩) = (Instr.fill (places[·]?) z.cells parts).map .agg := by
    simp only [Instr.build, zeroValue, typeInfo, underlying, program, h, h1, h2, bind, Sem.bind, pureOf, pure, pureOf_bind] at hpl ⊢
    rw [hpl]
    simp only [Option.bind_some]
    cases Instr.fill (places[·]?) z.cells parts <;> simp [pureOf, stuck, pure]
  unfold Pu optK
  rw [this]
  generalize (Instr.fill (places[·]?) z.cells parts).map Value.agg = r
  cases r <;> rfl
theorem i_part {s ft off : Nat} {fs : Array Field} {i : Nat} {d : TypeDesc} (h : P.underlying s = some (.struct fs)) (hf : (fs[i]?).map (fun f => (f.type, f.offset)) = some (ft, off)) (hd : P.underlying ft = some d) (hp : plainT d = true) {cs : Array Value} :
    Pu P (Instr.field s (.agg cs) i) K w = optK cs[off]? K w := by
  cases hx : fs[i]? with
  | none => rw [hx] at hf; cases hf
  | some f =>
    rw [hx] at hf
    simp only [Option.map_some, Option.some.injEq, Prod.mk.injEq] at hf
    obtain ⟨rfl, rfl⟩ := hf
    have hagg : ∀ (k : Bool → Sem Value), pureOf P ((isAgg f.type).bind k) = pureOf P (k false) := by
      intro k
      cases d <;> simp [plainT] at hp <;> simp [isAgg, underlying, program, hd, bind, Sem.bind, pureOf, pure]
    have : pureOf P (Instr.field s (.agg cs) i) = cs[f.offset]? := by
      simp only [Instr.field, underlying, program, h, bind, Sem.bind, pureOf, pure, hx, asAgg, part]
      rw [hagg]
      cases hc : cs[f.offset]? <;> simp [pureOf, pure, stuck]
    unfold Pu optK
    rw [this]
    cases cs[f.offset]? <;> rfl
theorem i_partAgg {s ft off sz : Nat} {fs : Array Field} {i : Nat} {gs : Array Field} {z : Value} {by' : Nat} (h : P.underlying s = some (.struct fs)) (hf : (fs[i]?).map (fun f => (f.type, f.offset)) = some (ft, off)) (hd : P.underlying ft = some (.struct gs)) (hi : TyI P ft z sz by') {cs : Array Value} :
    Pu P (Instr.field s (.agg cs) i) K w = K (.agg (cs.extract off (off + sz))) w := by
  obtain ⟨inf, h1, h2, rfl, h4⟩ := hi
  cases hx : fs[i]? with
  | none => rw [hx] at hf; cases hf
  | some f =>
    rw [hx] at hf
    simp only [Option.map_some, Option.some.injEq, Prod.mk.injEq] at hf
    obtain ⟨rfl, rfl⟩ := hf
    have : pureOf P (Instr.field s (.agg cs) i) = some (.agg (cs.extract f.offset (f.offset + inf.size))) := by
      simp [Instr.field, underlying, program, h, bind, Sem.bind, pureOf, pure, hx, asAgg, part, isAgg, hd, sizeOf, typeInfo, h1]
    unfold Pu
    rw [this]

/-! ### Parts of slices -/
theorem Sl.sub {sz : Nat} {A : Option Addr} {n c : Nat} {xs : List Value} (h : Sl w sz (.slice A n c) xs) {l k : Nat} (hlk : l ≤ k) (hk : k ≤ n) :
    Sl w sz (.slice (if c = l then A else A.map (·.add (l * sz))) (k - l) (c - l)) ((xs.take (k * sz)).drop (l * sz)) := by
  obtain ⟨A', n', c', he, hl, hc, hm, h⟩ := h
  cases he
  have hks : k * sz ≤ n * sz := Nat.mul_le_mul_right _ hk
  have hls : l * sz ≤ k * sz := Nat.mul_le_mul_right _ hlk
  refine ⟨_, _, _, rfl, ?_, by omega, by omega, ?_⟩
  · rw [List.length_drop, List.length_take, hl, Nat.sub_mul]; omega
  · by_cases h0 : k - l = 0
    · exact .inl h0
    · rcases h with h | ⟨b, o, rfl, h⟩
      · omega
      · have hcl : ¬ (c = l) := by omega
        rw [if_neg hcl]
        refine .inr ⟨b, o + l * sz, by simp, fun j u hu => ?_⟩
        rw [List.getElem?_drop, List.getElem?_take] at hu
        split at hu
        · have := h _ u hu
          rw [Nat.add_assoc]; exact this
        · cases hu
theorem Own.shape {e : TypeId} {sz n : Nat} {v : Value} {xs : List Value} (h : Own w e sz n v xs) : ∃ A c, v = .slice A n c ∧ n ≤ c ∧ (A = none → n = 0 ∧ c = 0) ∧ (∀ a, A = some a → ∃ g, a = ⟨g, 0, none⟩) := by
  obtain ⟨hl, ⟨rfl, rfl⟩ | ⟨g, cap, cs, rfl, hr, hn, ht⟩⟩ := h
  · exact ⟨none, 0, rfl, by omega, fun _ => ⟨rfl, rfl⟩, fun a ha => by cases ha⟩
  · exact ⟨_, cap, rfl, hn, (fun h => by cases h), fun a ha => ⟨g, by cases ha; rfl⟩⟩
/-- The first k of them, as a slice that may be appended to. -/
theorem Own.take {e : TypeId} {sz n c : Nat} {A : Option Addr} {xs : List Value} (h : Own w e sz n (.slice A n c) xs) {k : Nat} (hk : k ≤ n) :
    Own w e sz k (.slice (if c = 0 then A else A.map (·.add (0 * sz))) (k - 0) (c - 0)) (xs.take (k * sz)) := by
  have hks : k * sz ≤ n * sz := Nat.mul_le_mul_right _ hk
  obtain ⟨hl, ⟨he, rfl⟩ | ⟨g, cap, cs, he, hr, hn, ht⟩⟩ := h
  · cases he
    have : k = 0 := by omega
    subst this
    have : xs = [] := by simpa using hl
    subst this
    exact ⟨by simp, .inl ⟨by simp, rfl⟩⟩
  · cases he
    refine ⟨by rw [List.length_take, hl]; omega, .inr ⟨g, c, cs, by simp, hr, by omega, ?_⟩⟩
    rw [← ht, List.take_take, Nat.min_eq_left hks]

/-! ### slices.overlaps -/
theorem overlaps_apart {ps rs : Array TypeId} {t e : TypeId} {i : TypeInfo} (hp : ps[0]? = some t) (ht : P.underlying t = some (.slice e)) (hi : P.info? e = some i) {a b o o' la lb ca cb : Nat} {E E' : TypeId} {cs cs' : List Value}
    (ha : Blk w a E cs) (hb : Blk w b E' cs') (hne : a ≠ b) :
    (Extern.SlicesOverlaps.overlaps ps rs #[.slice (some ⟨a, o, none⟩) la ca, .slice (some ⟨b, o', none⟩) lb cb]).run P w = .ok (.bool false) w := by
  have hfa : ∀ o, w.frozen? ⟨a, o, none⟩ = false := ha.frozen
  have hfb : ∀ o, w.frozen? ⟨b, o, none⟩ = false := hb.frozen
  have hsa : w.shape? a = some (E, cs.length) := by
    have := ha; unfold Blk at this; simp [World.shape?, this]
  have hsb : w.shape? b = some (E', cs'.length) := by
    have := hb; unfold Blk at this; simp [World.shape?, this]
  conv => lhs; arg 2; whnf

  by_cases h0 : la = 0 ∨ lb = 0 ∨ i.size = 0
  · simp [hp, run_underlying ht, sizeOf, typeInfo, hi, h0]
  · simp [hp, run_underlying ht, sizeOf, typeInfo, hi, h0, hne, hfa, hfb, noView, viewAt, mayBeOne, stringish, hsa, hsb]
theorem overlaps_nil {ps rs : Array TypeId} {t e : TypeId} {i : TypeInfo} (hp : ps[0]? = some t) (ht : P.underlying t = some (.slice e)) (hi : P.info? e = some i) {A : Option Addr} {la lb ca cb : Nat} :
    (Extern.SlicesOverlaps.overlaps ps rs #[.slice A la ca, .slice none lb cb]).run P w = .ok (.bool false) w := by
  conv => lhs; arg 2; whnf
  cases A <;> simp [hp, run_underlying ht, sizeOf, typeInfo, hi]
theorem Cf_extern {f : FuncId} {fn : Func} {args : Array Value} {s : Array Value → Sem Value} (hf : P.funcs[f]? = some fn) (hb : fn.body = none) (hn : (fn.name == "runtime.NumGoroutine") = false) (h1 : Extern.findNext fn = none) (h2 : Extern.find fn = some s)
    {v : Value} {w' : World} (hr : (s args).run P w = .ok v w') (hk : K v w') : Cf P f args K w := by
  unfold Cf
  have : (callFunc f args).run P w = .ok (.value v) w' := by
    have hn' : ¬ fn.name = "runtime.NumGoroutine" := by simpa using hn
    simp [callFunc, program, Sem.run, bind, Sem.bind, hf, hn', hb, h1, h2, pure, Sem.run_bind, mark]
    have := Sem.run_bind (P := P) (w := w) (s args) (fun v => Sem.pure (Next.value v))
    simp [bind, hr, Sem.run] at this
    exact this
  rw [this]
  exact hk
theorem fill_1 {z v : Value} {sz : Nat} (hs : 1 * sz = 1) (hv : v.cells = #[v]) : Instr.fill (fun i => some (i * sz, sz)) (if 1 * sz = 0 then #[] else (Array.range (1 * sz)).map (z.cells[· % z.cells.size]!)) [(0, v)] = some #[v] := by
  have : sz = 1 := by omega
  subst this
  simp [Instr.fill, hv, Array.range]
  apply Array.ext
  · simp
  · intro i h1 h2
    have : i = 0 := by simp at h2; omega
    subst this
    simp

/-! ### New blocks, and stores into blocks, the world behind a name -/
theorem box_new {t : TypeId} {v : Value} (h : ∀ b w', Blk w' b t v.cells.toList → Fr0 w w' → w.heap.size ≤ b → K (.pointer (some ⟨b, 0, none⟩)) w') : Rr P (Instr.box t v) K w := by
  rw [Rr_box]
  exact h _ _ (Blk.new w t v.cells) ((Fr.refl _ w).alloc _) (Nat.le_refl _)
theorem alloc_new {t : TypeId} {z : Value} {sz by' : Nat} (hi : TyI P t z sz by') (h : ∀ b w', Blk w' b t z.cells.toList → Fr0 w w' → w.heap.size ≤ b → K (.pointer (some ⟨b, 0, none⟩)) w') : Rr P (Instr.alloc t true (.tuple #[])) K w := by
  rw [i_alloc hi]
  exact h _ _ (Blk.new w t z.cells) ((Fr.refl _ w).alloc _) (Nat.le_refl _)
theorem store_blk {t : TypeId} {z : Value} {sz by' : Nat} (hi : TyI P t z sz by') {b o : Nat} {v : Value} {E : TypeId} {cs : List Value} (hb : Blk w b E cs) (hz : v.cells.size = sz) (h1 : ∀ u ∈ v.cells.toList, u.oneCell' = true) (hfit : o + sz ≤ cs.length)
    (h : ∀ w', Blk w' b E (setL cs o v.cells.toList) → Fr (fun k => k = b) w w' → K undef w') : Uu P (Instr.storeAt t (.pointer (some ⟨b, o, none⟩)) v) K w := by
  rw [i_store hi hz h1 (hb.can hfit)]
  exact h _ (hb.setCells _ _) (Fr.setCells (S := fun k => k = b) (.inr rfl) _ _ (Fr.refl _ _))
theorem Blk.cells {b n : Nat} {E : TypeId} {cs : List Value} (h : Blk w b E cs) (hn : cs.length = n) : cellsAt w b 0 n = some cs :=
  cellsAt_iff.2 ⟨hn, fun j v hv => by rw [h.cell, Nat.zero_add]; exact hv⟩
@[simp] theorem Pu_max2 {ts : Array TypeId} {ty : TypeId} {k k' : IntKind} {a b : Int} : Pu P (Builtin.max_ ts ty ⟨[.int k a, .int k' b]⟩) K w = K (.int k (if a < b then b else a)) w := by
  simp [Pu, Builtin.max_, Builtin.max2, pureOf, pure, List.foldlM, bind, Sem.bind]
@[simp] theorem Pu_min2 {ts : Array TypeId} {ty : TypeId} {k k' : IntKind} {a b : Int} : Pu P (Builtin.min_ ts ty ⟨[.int k a, .int k' b]⟩) K w = K (.int k (if b < a then b else a)) w := by
  simp [Pu, Builtin.min_, Builtin.min2, pureOf, pure, List.foldlM, bind, Sem.bind]
theorem Pu_bitnot {k : IntKind} {n : Int} : ∃ m, ∀ K w, Pu P (Op.unary .xor (.int k n)) K w = K (.int k m) w := ⟨_, fun K w => rfl⟩
theorem copy_str {t tx ty e : TypeId} {z : Value} {by' : Nat} (ht : P.underlying t = some (.slice e)) (hi : TyI P e z 1 by') {g o dn dc : Nat} {cs : List Value} {E : TypeId} {s : ByteArray} (hb : Blk w g E cs)
    (hs : s.size ≤ dn) (hfit : o + s.size ≤ cs.length) :
    Rr P (Builtin.copy_ #[t, tx] ty ⟨[.slice (some ⟨g, o, none⟩) dn dc, .string s]⟩) K w = K (.int .i64 s.size) (w.setCells g o (byteCells s)) := by
  obtain ⟨inf, h2, h3, h5, h4⟩ := hi
  have hf := firstCells_string (P := P) s w
  have hone : ∀ u ∈ byteCells s, u.oneCell' = true := fun u hu => by
    obtain ⟨_, _, rfl⟩ := List.mem_map.1 hu
    rfl
  have hcan := hb.can (o := o) (n := (byteCells s).length) (by rw [byteCells_length]; omega)
  have hst := run_storeCells_cells (P := P) g o (byteCells s) 0 w (fun j hj => by simpa using (hcan j hj).1) (fun j hj => by simpa using (hcan j hj).2) hone
  simp only [Nat.add_zero] at hst
  have hmin : Nat.min s.size dn = s.size := Nat.min_eq_left hs
  have : (Builtin.copy_ #[t, tx] ty ⟨[.slice (some ⟨g, o, none⟩) dn dc, .string s]⟩).run P w = .ok (.int .i64 s.size) (w.setCells g o (byteCells s)) := by
    simp only [Builtin.copy_, Sem.run_bind]
    simp [run_underlying ht, Builtin.lenOf, sizeOf, typeInfo, h2, h5, hmin, hf, hst, goInt]
  unfold Rr
  rw [this]
end Go.Hx
