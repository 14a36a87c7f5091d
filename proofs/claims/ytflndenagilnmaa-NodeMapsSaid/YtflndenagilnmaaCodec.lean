/-
  codec: the Writer, while there is room. Own work.
-/
import Derived.Test.YtflndenagilnmaaOwn
set_option linter.unusedVariables false
set_option linter.unusedSimpArgs false
set_option maxRecDepth 10000
namespace Go.Proofs
open Go Hx

/-- Bytes of one's own; bytes that are read. -/
def OwnB (w : World) (v : Value) (xs : List Int) : Prop := Own w 5 1 xs.length v (xs.map (.int .u8))
def BytS (w : World) (v : Value) (xs : List Int) : Prop := Sl w 1 v (xs.map (.int .u8))
theorem one_byte (xs : List Int) : ∀ u ∈ xs.map (Value.int .u8), u.oneCell' = true := by
  intro u hu
  obtain ⟨s, _, rfl⟩ := List.mem_map.1 hu
  rfl
theorem OwnB.byt {w : World} {v : Value} {xs : List Int} (h : OwnB w v xs) (hm : xs.length ≤ 140737488355328) : BytS w v xs := Own.sl h hm
theorem OwnB.mono {S : Nat → Prop} {w w' : World} {v : Value} {xs : List Int} (h : OwnB w v xs) (hf : Fr S w w') (hs : ∀ g, blkOf v = some g → ¬ S g) : OwnB w' v xs := Own.mono h hf hs
theorem OwnB.lt {w : World} {v : Value} {xs : List Int} (h : OwnB w v xs) {g : Nat} (hg : blkOf v = some g) : g < w.heap.size := Own.lt h hg
theorem OwnB.cells {w : World} {v : Value} {xs : List Int} (h : OwnB w v xs) : v.cells = #[v] ∧ v.oneCell' = true := by
  obtain ⟨A, c, rfl, _⟩ := Own.shape h; exact ⟨rfl, rfl⟩
theorem BytS.mono {S : Nat → Prop} {w w' : World} {v : Value} {xs : List Int} (h : BytS w v xs) (hf : Fr S w w') (hs : ∀ g, blkOf v = some g → ¬ S g) : BytS w' v xs := Sl.mono h hf fun a n c hv => hs _ (by rw [hv]; rfl)
theorem BytS.out {w : World} {v : Value} {xs : List Int} (h : BytS w v xs) : ∃ A c, v = .slice A xs.length c ∧ xs.length ≤ c ∧ xs.length ≤ 140737488355328 ∧ (xs.length = 0 ∨ ∃ b o, A = some ⟨b, o, none⟩ ∧ ∀ j (hj : j < xs.length), w.cell? ⟨b, o + j, none⟩ = some (.int .u8 xs[j])) := by
  obtain ⟨A, n, c, rfl, hl, hc, hm, h⟩ := h
  have hn : n = xs.length := by simpa using hl.symm
  subst hn
  refine ⟨A, c, rfl, hc, hm, ?_⟩
  rcases h with h | ⟨b, o, hA, h⟩
  · exact .inl h
  · exact .inr ⟨b, o, hA, fun j hj => h j _ (by simp [hj])⟩
def strB (s : ByteArray) : List Int := s.data.toList.map fun b => (b.toNat : Int)
theorem strB_cells (s : ByteArray) : (strB s).map (Value.int .u8) = byteCells s := by simp [strB, byteCells]
theorem strB_length (s : ByteArray) : (strB s).length = s.size := by
  rw [← byteCells_length, ← strB_cells, List.length_map]

def WrS (B : Nat) (w : World) (v : Value) (most : Nat) (bs : List Int) : Prop :=
  ∃ b bv, v = .pointer (some ⟨b, 0, none⟩) ∧ B ≤ b ∧ Blk w b 70 [.int .i64 most, bv, .bool false] ∧ OwnB w bv bs ∧ (∀ g, blkOf bv = some g → B ≤ g ∧ g ≠ b) ∧ bs.length ≤ most ∧ most ≤ 140737488355328
abbrev FrB (B : Nat) (w w' : World) : Prop := Fr (fun k => B ≤ k) w w'
theorem WrS.mono {B : Nat} {S : Nat → Prop} {w w' : World} {v : Value} {most : Nat} {bs : List Int} (h : WrS B w v most bs) (hf : Fr S w w') (hs : ∀ g, S g → g < w.heap.size → g < B) : WrS B w' v most bs := by
  obtain ⟨b, bv, rfl, hB, hb, ho, hg, h1, h2⟩ := h
  exact ⟨b, bv, rfl, hB, hb.mono hf fun h => by have := hs _ h hb.lt; omega, ho.mono hf fun g hgb h => by have := hs _ h (ho.lt hgb); have := hg g hgb; omega, hg, h1, h2⟩
theorem WrS.mono0 {B : Nat} {w w' : World} {v : Value} {most : Nat} {bs : List Int} (h : WrS B w v most bs) (hf : Fr0 w w') : WrS B w' v most bs := h.mono hf fun _ h => h.elim
theorem NewWriter_spec {w : World} {most : Nat} (hm : most ≤ 140737488355328) : Calls Try.prog 20 #[.int .i64 most] w (RetK fun r w' => WrS w.heap.size w' r most [] ∧ Fr0 w w') := by
  refine H20_in _ fun K hK => ?_
  unfold H20
  have h0 : ¬ ((most : Int) < 0) := by omega
  simp only [Pu_max2, h0, if_false]
  rw [bd_70]
  have hz : (Value.agg #[.int .i64 0, .slice none 0 0, .bool false]).cells = #[.int .i64 0, .slice none 0 0, .bool false] := rfl
  have hc : ∀ n : Int, (Value.int .i64 n).cells = #[.int .i64 n] := fun _ => rfl
  simp [Instr.fill, hz, hc]
  refine box_new fun b w1 hb hf hge => ?_
  have hb : Blk w1 b 70 [.int .i64 most, .slice none 0 0, .bool false] := hb
  exact hK _ _ ⟨⟨b, _, rfl, hge, hb, Own.nil _ _ _, fun g h => by simp at h, by simp, hm⟩, hf⟩
theorem put_spec {B : Nat} {w : World} {v x : Value} {most : Nat} {bs xs : List Int} (hv : WrS B w v most bs) (hx : BytS w x xs) (hB : B ≤ w.heap.size) (hfit : bs.length + xs.length ≤ most) :
    Calls Try.prog 36 #[v, x] w (RetK fun r w' => r = .tuple #[] ∧ WrS B w' v most (bs ++ xs) ∧ FrB B w w') := by
  obtain ⟨b, bv, rfl, hBb, hb, ho, hg, h1, h2⟩ := hv
  obtain ⟨Ab, cb, rfl, _⟩ := id (ho.byt (by omega)).out
  obtain ⟨Ax, cx, rfl, _⟩ := id hx.out
  refine H36_in _ _ fun K hK => ?_
  unfold H36
  have e1 : IntKind.i64.wrap ((most : Int) - bs.length) = ((most - bs.length : Nat) : Int) := by rw [wrap_i64] <;> omega
  have h3 : ¬ (most - bs.length < xs.length) := by omega
  simp [hb.cell, hb.drew.cell, e1, h3]
  have hx' : BytS w.drew (.slice Ax xs.length cx) xs := hx.mono (Fr.refl none' w).drew fun _ _ h => h
  refine ap_37_37 ho.drew (m := xs.length) (n := bs.length) hx' (by simp) (one_byte xs) (by omega) (by omega) fun v' w' ho' hf' hg' => ?_
  have hf0 := (Fr.refl (isB (.slice Ab bs.length cb)) w).drew
  have hne : ∀ g, blkOf v' = some g → B ≤ g ∧ g ≠ b := fun g h => by
    rcases hg' g h with h | h
    · exact hg g h
    · have := hb.lt
      have : w.drew.heap.size = w.heap.size := rfl
      omega
  have ho' : OwnB w' v' (bs ++ xs) := by simpa [OwnB] using ho'
  refine stn_37 (hb.drew.mono hf' fun h => (hg b h).2 rfl) (by rw [ho'.cells.1]; rfl) (by rw [ho'.cells.1]; intro u hu; simp at hu; subst hu; exact ho'.cells.2) (by simp) fun w2 hb2 hf2 => ?_
  refine hK _ _ ⟨rfl, ⟨b, v', rfl, hBb, ?_, ho'.mono hf2 fun g h h' => (hne g h).2 h', hne, by simp; omega, h2⟩, ?_⟩
  · rw [ho'.cells.1] at hb2; exact hb2
  · exact ((hf0.trans hf').mono fun k _ h => (hg k h).1).trans (hf2.mono fun k _ h => by omega)
theorem Raw_spec {B : Nat} {w : World} {v : Value} {s : ByteArray} {most : Nat} {bs : List Int} (hv : WrS B w v most bs) (hB : B ≤ w.heap.size) (hfit : bs.length + s.size ≤ most) :
    Calls Try.prog 21 #[v, .string s] w (RetK fun r w' => r = .tuple #[] ∧ WrS B w' v most (bs ++ strB s) ∧ FrB B w w') := by
  have hm : most ≤ 140737488355328 := by obtain ⟨_, _, _, _, _, _, _, _, h⟩ := hv; exact h
  refine H21_in _ _ fun K hK => ?_
  unfold H21
  refine cv_9_37 (by omega) fun x w1 hx hf hn => ?_
  have s1 := hf.size
  have hx : BytS w1 x (strB s) := by unfold BytS; rw [strB_cells]; exact hx
  refine call_36 (put_spec (hv.mono0 hf) hx (by omega) (by rw [strB_length]; omega)) ?_
  rintro r w2 ⟨rfl, hv2, hf2⟩
  exact hK _ _ ⟨rfl, hv2, hf.of0.trans hf2⟩
theorem set_B {K : Value → World → Prop} {w : World} {v : Value} {xs : List Int} {s : Int} {i : Nat} {ik : IntKind} (hO : OwnB w v xs) (hi : i < xs.length) (h : ∀ w', OwnB w' v (xs.set i s) → Fr (isB v) w w' → K undef w') :
    Pu Try.prog (Instr.indexAt 37 v (.int ik i)) (fun p w => Uu Try.prog (Instr.storeAt 5 p (.int .u8 s)) K w) w := by
  obtain ⟨hl, ⟨rfl, h0⟩ | ⟨g, cap, cs, rfl, hr, hn, ht⟩⟩ := hO
  · omega
  have hcl : cs.length = cap := by simpa using hr.len
  simp [hi]
  refine stn_5 hr.blk rfl (by intro u hu; have hu : u ∈ [Value.int .u8 s] := hu; simp at hu; subst hu; rfl) (by omega) fun w' hb hf => h _ ?_ (hf.mono fun k _ hk => by subst hk; rfl)
  unfold OwnB
  rw [List.length_set]
  refine ⟨by simp, .inr ⟨g, cap, _, rfl, ⟨hb, by rw [setL_length]; exact hr.len, hr.max⟩, hn, ?_⟩⟩
  have : (Value.int .u8 s).cells.toList = [Value.int .u8 s] := rfl
  rw [this, setL_cons, setL_nil, List.take_set, ht, List.map_set]
theorem mk_B {K : Value → World → Prop} {w : World} {n : Nat} (hn : n ≤ 140737488355328) (h : ∀ v w', OwnB w' v (List.replicate n 0) → Fr0 w w' → NewB w v → v.cells = #[v] → K v w') : Rr Try.prog (Instr.makeSlice 37 (.int .i64 (n : Int)) (.int .i64 (n : Int))) K w := by
  rw [mk_37 (Nat.le_refl n) (by omega) hn]
  refine h _ _ ?_ ((Fr.refl _ w).alloc _) (fun k hk => by simp at hk; omega) rfl
  have h1 : (madeCells (Value.cells (.int .u8 0)) (n * 1)) = (List.replicate n (Value.int .u8 0)).toArray := by
    rw [show Value.cells (.int .u8 0) = #[Value.int .u8 0] from rfl]
    apply Array.ext'
    rw [toList_madeCells_one]; simp
  rw [h1]
  have := Own.new (w := w) (e := 5) (sz := 1) (List.replicate n (Value.int .u8 0)) n n (List.replicate n (Value.int .u8 0)) (by simp) (Nat.le_refl _) (by unfold maxLen; omega) (by simp)
  unfold OwnB
  simpa using this
theorem number8_spec {B : Nat} {w : World} {v : Value} {x : Int} {most n : Nat} {bs : List Int} (hv : WrS B w v most bs) (hB : B ≤ w.heap.size) (hn8 : n ≤ 8) (hfit : bs.length + n ≤ most) :
    Calls Try.prog 37 #[v, .int .u8 x, .int .i64 (n : Int)] w (RetK fun r w' => r = .tuple #[] ∧ (∃ xs, xs.length = n ∧ WrS B w' v most (bs ++ xs)) ∧ FrB B w w') := by
  refine H37_in _ _ _ fun K hK => ?_
  unfold H37
  refine mk_B (by omega) fun t w1 ht hf1 hnew htc => ?_
  obtain ⟨A, c, rfl, _⟩ := id (ht.byt (by rw [List.length_replicate]; omega)).out
  have s1 := hf1.size
  simp
  refine loopN (fun u w' => ∃ (k : Nat) (y : Int) (xs : List Int), u 0 = .int .u8 y ∧ u 1 = .int .i64 k ∧ k ≤ n ∧ xs.length = n ∧ OwnB w' (.slice A n c) xs ∧ Fr (isB (.slice A n c)) w1 w') (fun u _ => n - natOf (u 1)) ?_ ?_
  · exact ⟨0, x, List.replicate n 0, rfl, rfl, by omega, by simp, by simpa using ht, Fr.refl _ _⟩
  · rintro u junk w2 nx ⟨k, y, xs, hu0, hu1, hk, hxl, ho, hf2⟩ hnx
    unfold H37_1
    have hf0 : Fr0 w w2 := hf1.step hf2 fun g hg h => by have := hnew g (by simpa using h); omega
    by_cases hlt : k < n
    · have e1 : IntKind.i64.wrap ((n : Int) - 1) = ((n - 1 : Nat) : Int) := by rw [wrap_i64] <;> omega
      have e2 : IntKind.i64.wrap (((n - 1 : Nat) : Int) - (k : Int)) = ((n - 1 - k : Nat) : Int) := by rw [wrap_i64] <;> omega
      have e3 : IntKind.i64.wrap ((k : Int) + 1) = ((k + 1 : Nat) : Int) := by rw [wrap_i64] <;> omega
      simp only [hu0, hu1, Pu_lss, Int.ofNat_lt, hlt, decide_true, iteE_true, Pu_sub, e1, e2]
      refine set_B ho (by omega) fun w3 ho3 hf3 => ?_
      simp only [Pu_shr (show (0 : Int) ≤ 4 by omega), Pu_add, e3]
      exact hnx _ _ ⟨k + 1, _, _, rfl, rfl, by omega, by simpa using hxl, ho3, hf2.trans hf3⟩ (by simp [hu1]; omega)
    · simp only [hu0, hu1, Pu_lss, Int.ofNat_lt, hlt, decide_false, iteE_false]
      have s2 := hf2.size
      refine call_36 (put_spec (xs := xs) (hv.mono0 hf0) (ho.byt (by omega)) (by omega) (by omega)) ?_
      rintro r w3 ⟨rfl, hw3, hf3⟩
      exact hK _ _ ⟨rfl, ⟨xs, hxl, hw3⟩, hf0.of0.trans hf3⟩
theorem U8_spec {B : Nat} {w : World} {v : Value} {x : Int} {most : Nat} {bs : List Int} (hv : WrS B w v most bs) (hB : B ≤ w.heap.size) (hfit : bs.length + 1 ≤ most) :
    Calls Try.prog 22 #[v, .int .u8 x] w (RetK fun r w' => r = .tuple #[] ∧ (∃ xs, xs.length = 1 ∧ WrS B w' v most (bs ++ xs)) ∧ FrB B w w') := by
  refine H22_in _ _ fun K hK => ?_
  unfold H22
  have := number8_spec (x := x) (n := 1) hv hB (by omega) hfit
  refine call_37 (by simpa using this) ?_
  rintro r w' ⟨rfl, h⟩
  exact hK _ _ ⟨rfl, h⟩
theorem number16_spec {B : Nat} {w : World} {v : Value} {x : Int} {most n : Nat} {bs : List Int} (hv : WrS B w v most bs) (hB : B ≤ w.heap.size) (hn8 : n ≤ 8) (hfit : bs.length + n ≤ most) :
    Calls Try.prog 38 #[v, .int .u16 x, .int .i64 (n : Int)] w (RetK fun r w' => r = .tuple #[] ∧ (∃ xs, xs.length = n ∧ WrS B w' v most (bs ++ xs)) ∧ FrB B w w') := by
  refine H38_in _ _ _ fun K hK => ?_
  unfold H38
  refine mk_B (by omega) fun t w1 ht hf1 hnew htc => ?_
  obtain ⟨A, c, rfl, _⟩ := id (ht.byt (by rw [List.length_replicate]; omega)).out
  have s1 := hf1.size
  simp
  refine loopN (fun u w' => ∃ (k : Nat) (y : Int) (xs : List Int), u 0 = .int .u16 y ∧ u 1 = .int .i64 k ∧ k ≤ n ∧ xs.length = n ∧ OwnB w' (.slice A n c) xs ∧ Fr (isB (.slice A n c)) w1 w') (fun u _ => n - natOf (u 1)) ?_ ?_
  · exact ⟨0, x, List.replicate n 0, rfl, rfl, by omega, by simp, by simpa using ht, Fr.refl _ _⟩
  · rintro u junk w2 nx ⟨k, y, xs, hu0, hu1, hk, hxl, ho, hf2⟩ hnx
    unfold H38_1
    have hf0 : Fr0 w w2 := hf1.step hf2 fun g hg h => by have := hnew g (by simpa using h); omega
    by_cases hlt : k < n
    · have e1 : IntKind.i64.wrap ((n : Int) - 1) = ((n - 1 : Nat) : Int) := by rw [wrap_i64] <;> omega
      have e2 : IntKind.i64.wrap (((n - 1 : Nat) : Int) - (k : Int)) = ((n - 1 - k : Nat) : Int) := by rw [wrap_i64] <;> omega
      have e3 : IntKind.i64.wrap ((k : Int) + 1) = ((k + 1 : Nat) : Int) := by rw [wrap_i64] <;> omega
      simp only [hu0, hu1, Pu_lss, Int.ofNat_lt, hlt, decide_true, iteE_true, Pu_sub, e1, cv_56_5, e2]
      refine set_B ho (by omega) fun w3 ho3 hf3 => ?_
      simp only [Pu_shr (show (0 : Int) ≤ 4 by omega), Pu_add, e3]
      exact hnx _ _ ⟨k + 1, _, _, rfl, rfl, by omega, by simpa using hxl, ho3, hf2.trans hf3⟩ (by simp [hu1]; omega)
    · simp only [hu0, hu1, Pu_lss, Int.ofNat_lt, hlt, decide_false, iteE_false]
      have s2 := hf2.size
      refine call_36 (put_spec (xs := xs) (hv.mono0 hf0) (ho.byt (by omega)) (by omega) (by omega)) ?_
      rintro r w3 ⟨rfl, hw3, hf3⟩
      exact hK _ _ ⟨rfl, ⟨xs, hxl, hw3⟩, hf0.of0.trans hf3⟩
theorem U16_spec {B : Nat} {w : World} {v : Value} {x : Int} {most : Nat} {bs : List Int} (hv : WrS B w v most bs) (hB : B ≤ w.heap.size) (hfit : bs.length + 2 ≤ most) :
    Calls Try.prog 23 #[v, .int .u16 x] w (RetK fun r w' => r = .tuple #[] ∧ (∃ xs, xs.length = 2 ∧ WrS B w' v most (bs ++ xs)) ∧ FrB B w w') := by
  refine H23_in _ _ fun K hK => ?_
  unfold H23
  have := number16_spec (x := x) (n := 2) hv hB (by omega) hfit
  refine call_38 (by simpa using this) ?_
  rintro r w' ⟨rfl, h⟩
  exact hK _ _ ⟨rfl, h⟩
theorem number32_spec {B : Nat} {w : World} {v : Value} {x : Int} {most n : Nat} {bs : List Int} (hv : WrS B w v most bs) (hB : B ≤ w.heap.size) (hn8 : n ≤ 8) (hfit : bs.length + n ≤ most) :
    Calls Try.prog 39 #[v, .int .u32 x, .int .i64 (n : Int)] w (RetK fun r w' => r = .tuple #[] ∧ (∃ xs, xs.length = n ∧ WrS B w' v most (bs ++ xs)) ∧ FrB B w w') := by
  refine H39_in _ _ _ fun K hK => ?_
  unfold H39
  refine mk_B (by omega) fun t w1 ht hf1 hnew htc => ?_
  obtain ⟨A, c, rfl, _⟩ := id (ht.byt (by rw [List.length_replicate]; omega)).out
  have s1 := hf1.size
  simp
  refine loopN (fun u w' => ∃ (k : Nat) (y : Int) (xs : List Int), u 0 = .int .u32 y ∧ u 1 = .int .i64 k ∧ k ≤ n ∧ xs.length = n ∧ OwnB w' (.slice A n c) xs ∧ Fr (isB (.slice A n c)) w1 w') (fun u _ => n - natOf (u 1)) ?_ ?_
  · exact ⟨0, x, List.replicate n 0, rfl, rfl, by omega, by simp, by simpa using ht, Fr.refl _ _⟩
  · rintro u junk w2 nx ⟨k, y, xs, hu0, hu1, hk, hxl, ho, hf2⟩ hnx
    unfold H39_1
    have hf0 : Fr0 w w2 := hf1.step hf2 fun g hg h => by have := hnew g (by simpa using h); omega
    by_cases hlt : k < n
    · have e1 : IntKind.i64.wrap ((n : Int) - 1) = ((n - 1 : Nat) : Int) := by rw [wrap_i64] <;> omega
      have e2 : IntKind.i64.wrap (((n - 1 : Nat) : Int) - (k : Int)) = ((n - 1 - k : Nat) : Int) := by rw [wrap_i64] <;> omega
      have e3 : IntKind.i64.wrap ((k : Int) + 1) = ((k + 1 : Nat) : Int) := by rw [wrap_i64] <;> omega
      simp only [hu0, hu1, Pu_lss, Int.ofNat_lt, hlt, decide_true, iteE_true, Pu_sub, e1, cv_58_5, e2]
      refine set_B ho (by omega) fun w3 ho3 hf3 => ?_
      simp only [Pu_shr (show (0 : Int) ≤ 4 by omega), Pu_add, e3]
      exact hnx _ _ ⟨k + 1, _, _, rfl, rfl, by omega, by simpa using hxl, ho3, hf2.trans hf3⟩ (by simp [hu1]; omega)
    · simp only [hu0, hu1, Pu_lss, Int.ofNat_lt, hlt, decide_false, iteE_false]
      have s2 := hf2.size
      refine call_36 (put_spec (xs := xs) (hv.mono0 hf0) (ho.byt (by omega)) (by omega) (by omega)) ?_
      rintro r w3 ⟨rfl, hw3, hf3⟩
      exact hK _ _ ⟨rfl, ⟨xs, hxl, hw3⟩, hf0.of0.trans hf3⟩
theorem U32_spec {B : Nat} {w : World} {v : Value} {x : Int} {most : Nat} {bs : List Int} (hv : WrS B w v most bs) (hB : B ≤ w.heap.size) (hfit : bs.length + 4 ≤ most) :
    Calls Try.prog 24 #[v, .int .u32 x] w (RetK fun r w' => r = .tuple #[] ∧ (∃ xs, xs.length = 4 ∧ WrS B w' v most (bs ++ xs)) ∧ FrB B w w') := by
  refine H24_in _ _ fun K hK => ?_
  unfold H24
  have := number32_spec (x := x) (n := 4) hv hB (by omega) hfit
  refine call_39 (by simpa using this) ?_
  rintro r w' ⟨rfl, h⟩
  exact hK _ _ ⟨rfl, h⟩
theorem Done_spec {B : Nat} {w : World} {v : Value} {most : Nat} {bs : List Int} (hv : WrS B w v most bs) : Calls Try.prog 25 #[v] w (RetK fun r w' => r = .tuple #[.string (strOfNums bs), .int .i64 0] ∧ w' = w) := by
  obtain ⟨b, bv, rfl, hBb, hb, ho, hg, h1, h2⟩ := hv
  refine H25_in _ fun K hK => ?_
  unfold H25
  simp [hb.cell]
  rw [cv_37_9 (ho.byt (by omega))]
  exact hK _ _ ⟨rfl, rfl⟩
theorem Crc_spec {w : World} {s : ByteArray} (hs : s.size ≤ 140737488355328) : Calls Try.prog 26 #[.string s] w (RetK fun r w' => (∃ n, r = .int .u32 n) ∧ Fr0 w w') := by
  refine H26_in _ fun K hK => ?_
  unfold H26
  simp
  refine loopN (fun u w' => ∃ (k : Nat) (y : Int), u 0 = .int .u32 y ∧ u 1 = .int .i64 k ∧ k ≤ s.size ∧ Fr0 w w') (fun u _ => s.size - natOf (u 1)) ⟨0, _, rfl, rfl, by omega, Fr.refl _ _⟩ ?_
  rintro u junk w1 nx ⟨k, y, hu0, hu1, hk, hf⟩ hnx
  unfold H26_1
  by_cases hlt : k < s.size
  · simp only [hu0, hu1, Pu_lss, Int.ofNat_lt, hlt, decide_true, iteE_true, sx_9, cv_5_58, Pu_xor]
    refine loopN (fun v w' => ∃ (j : Nat) (z : Int), v 0 = .int .u32 z ∧ v 1 = .int .i64 j ∧ j ≤ 8 ∧ Fr0 w w') (fun v _ => 8 - natOf (v 1)) ⟨0, _, rfl, rfl, by omega, hf⟩ ?_
    rintro v junk2 w2 nx2 ⟨j, z, hv0, hv1, hj, hf2⟩ hnx2
    unfold H26_2
    have e2 : IntKind.i64.wrap ((j : Int) + 1) = ((j + 1 : Nat) : Int) := by rw [wrap_i64] <;> omega
    have e3 : IntKind.i64.wrap ((k : Int) + 1) = ((k + 1 : Nat) : Int) := by rw [wrap_i64] <;> omega
    by_cases hj8 : j < 8
    · have h8 : (j : Int) < 8 := by omega
      simp only [hv0, hv1, Pu_lss, h8, decide_true, iteE_true, Pu_shr (show (0 : Int) ≤ 1 by omega), Pu_and, Pu_neg, Pu_xor, Pu_add, e2]
      exact hnx2 _ _ ⟨j + 1, _, rfl, rfl, by omega, hf2⟩ (by simp [hv1]; omega)
    · have h8 : ¬ (j : Int) < 8 := by omega
      simp only [hv0, hv1, Pu_lss, h8, decide_false, iteE_false, Pu_add, e3]
      exact hnx _ _ ⟨k + 1, _, rfl, rfl, by omega, hf2⟩ (by simp [hu1]; omega)
  · simp only [hu0, hu1, Pu_lss, Int.ofNat_lt, hlt, decide_false, iteE_false]
    obtain ⟨m, hm⟩ := Pu_bitnot (P := Try.prog) (k := .u32) (n := y)
    rw [hm]
    exact hK _ _ ⟨⟨m, rfl⟩, hf⟩
end Go.Proofs
