/-
  ENGINE, part 4: whatever order is picked; the canonical order; from it to the kit's 'wpAnyIn'.
-/
import Derived.Test.YtflndenagilnmaaEng3
set_option linter.unusedVariables false
set_option linter.unusedSimpArgs false
namespace Go.Hx
open Go

section
variable {P : Program} {A : Ann} {ops : Array Oper}

/-- In this environment and world the operation yields v, and leaves the world alone. -/
def yv (P : Program) (A : Ann) (ops : Array Oper) (o : Oper) (v : Value) (e : Env) (w : World) : Prop := stepO P A ops o (fun u w' => u = v ∧ w' = w) e w

theorem Gd_inv {v : Value} {want : Bool} {B : (Value → World → Prop) → World → Prop} {K : Value → World → Prop} {w : World} (h : Gd v want B K w) :
    (B K w ∧ ∀ B' K' w', B' K' w' → Gd v want B' K' w') ∨ (K undef w ∧ ∀ B' K' w', K' undef w' → Gd v want B' K' w') := by
  unfold Gd at h
  split at h
  · rename_i b
    cases hb : (b == want)
    · rw [hb] at h; exact .inr ⟨h, fun B' K' w' h' => by simp only [Gd, hb, cond_false]; exact h'⟩
    · rw [hb] at h; exact .inl ⟨h, fun B' K' w' h' => by simp only [Gd, hb, cond_true]; exact h'⟩
  · exact .inr ⟨h, fun B' K' w' h' => h'⟩
  · exact h.elim

theorem stepO_inv {o : Oper} (hq : quiet A o.op ≠ 0) {K : Value → World → Prop} {e : Env} {w : World} (h : stepO P A ops o K e w) :
    ∃ v, yv P A ops o v e w ∧ K v w ∧ (quiet A o.op = 1 → ∀ w', yv P A ops o v e w') := by
  unfold yv
  cases hg : o.guard with
  | none =>
    simp only [stepO, hg] at h ⊢
    obtain ⟨v, h1, h2, h3⟩ := quiet_opE hq h
    exact ⟨v, h1 _ ⟨rfl, rfl⟩, h2, fun hq1 w' => h3 hq1 w' _ ⟨rfl, rfl⟩⟩
  | some gw =>
    obtain ⟨g, want⟩ := gw
    simp only [stepO, hg] at h ⊢
    rcases Gd_inv h with ⟨h, hG⟩ | ⟨h, hG⟩
    · obtain ⟨v, h1, h2, h3⟩ := quiet_opE hq h
      exact ⟨v, hG _ _ _ (h1 _ ⟨rfl, rfl⟩), h2, fun hq1 w' => hG _ _ _ (h3 hq1 w' _ ⟨rfl, rfl⟩)⟩
    · exact ⟨undef, hG _ _ _ ⟨rfl, rfl⟩, h, fun _ w' => hG _ _ _ ⟨rfl, rfl⟩⟩
theorem yv.step {o : Oper} {v : Value} {e : Env} {w : World} (h : yv P A ops o v e w) {K : Value → World → Prop} (hK : K v w) : stepO P A ops o K e w :=
  stepO_mono (fun u w' hu => by obtain ⟨rfl, rfl⟩ := hu; exact hK) h
theorem yv.put {o : Oper} {v : Value} {e : Env} {w : World} {dst : Option Tmp} {u : Value} (h : ∀ d, dst = some d → d ∉ o.looksAt ops) :
    yv P A ops o v (putE e dst u) w ↔ yv P A ops o v e w := stepO_put h

/-- Reads that were taken already: behind each operation that does not wait for them they must still read the same. -/
def anyE (P : Program) (A : Ann) (ops : Array Oper) (K : Env → World → Prop) : Nat → List Nat → List (Nat × Value) → Env → World → Prop
  | 0, L, live, e, w => ready ops L = [] ∧ K e w
  | f + 1, L, live, e, w => (ready ops L = [] → K e w) ∧
    ∀ j ∈ ready ops L, ∀ o, ops[j]? = some o → stepO P A ops o (fun u w' =>
      (∀ iv ∈ live, (ancM ops j).testBit iv.1 = false → ∀ x, ops[iv.1]? = some x → yv P A ops x iv.2 (putE e o.dst u) w') ∧ anyE P A ops K f (j :: L) (live.filter fun iv => !(ancM ops j).testBit iv.1) (putE e o.dst u) w') e w

theorem ready_lt {L : List Nat} {j : Nat} (h : j ∈ ready ops L) : ∃ o, ops[j]? = some o := ⟨_, Array.getElem?_eq_getElem (mem_rdy.1 h).1⟩
theorem predsAt_of {j : Nat} {o : Oper} (h : ops[j]? = some o) : predsAt ops j = predsOf o := by simp [predsAt, h]
theorem ready_same {L L' : List Nat} (h : ∀ k, k ∈ L ↔ k ∈ L') : ready ops L = ready ops L' := by
  unfold ready
  have hc : ∀ k, L.contains k = L'.contains k := fun k => by
    cases h1 : L.contains k <;> cases h2 : L'.contains k <;> simp_all
  refine List.filter_congr fun i _ => ?_
  rw [hc i]
  congr 1
  exact congrArg _ (funext hc)
theorem anyE_same {K : Env → World → Prop} : ∀ (f : Nat) {L L' : List Nat} {live : List (Nat × Value)} {e : Env} {w : World}, (∀ k, k ∈ L ↔ k ∈ L') → anyE P A ops K f L live e w → anyE P A ops K f L' live e w
  | 0, L, L', live, e, w, hs, h => by rw [anyE, ready_same hs] at h; exact h
  | f + 1, L, L', live, e, w, hs, h => by
    rw [anyE, ready_same hs] at h
    refine ⟨h.1, fun j hj o ho => stepO_mono (fun u w' hu => ⟨hu.1, ?_⟩) (h.2 j hj o ho)⟩
    exact anyE_same f (fun k => by simp [hs k]) hu.2
theorem anyE_sub {K : Env → World → Prop} : ∀ (f : Nat) {L : List Nat} {live live' : List (Nat × Value)} {e : Env} {w : World}, (∀ iv ∈ live', iv ∈ live) → anyE P A ops K f L live e w → anyE P A ops K f L live' e w
  | 0, L, live, live', e, w, hs, h => h
  | f + 1, L, live, live', e, w, hs, h => by
    refine ⟨h.1, fun j hj o ho => stepO_mono (fun u w' hu => ⟨fun iv hiv => hu.1 iv (hs iv hiv), ?_⟩) (h.2 j hj o ho)⟩
    exact anyE_sub f (fun iv hiv => List.mem_filter.2 ⟨hs iv (List.mem_filter.1 hiv).1, (List.mem_filter.1 hiv).2⟩) hu.2
theorem putE_comm (e : Env) {x y : Option Tmp} (v u : Value) (h : ∀ d, x = some d → y ≠ some d) : putE (putE e x v) y u = putE (putE e y u) x v := by
  cases x with
  | none => rfl
  | some d =>
    cases y with
    | none => rfl
    | some d' => exact upd_comm e v u fun hd => h d rfl (by rw [hd])

/-- What a read looks at is written by none but those that it waits for. -/
def readsM (A : Ann) (ops : Array Oper) (i j : Nat) : Bool :=
  cond (Nat.beq (qnum A ops i) 2) ((pmask ops i).testBit j || !(lmask ops i).testBit (dnum ops j)) true
def readsStay (A : Ann) (ops : Array Oper) : Bool := (List.range ops.size).all fun i => (List.range ops.size).all fun j => readsM A ops i j
theorem readsStay_spec (h : readsStay A ops = true) {i j : Nat} {x y : Oper} (hx : ops[i]? = some x) (hy : ops[j]? = some y) (hq : quiet A x.op = 2) (hj : j ∉ predsOf x) : ∀ d, y.dst = some d → d ∉ x.looksAt ops := by
  intro d hd hm
  have h1 := List.all_eq_true.1 (List.all_eq_true.1 h i (List.mem_range.2 (Array.getElem?_eq_some_iff.1 hx).1)) j (List.mem_range.2 (Array.getElem?_eq_some_iff.1 hy).1)
  have hq' : qnum A ops i = 2 := by simp [qnum, hx, hq]
  have hd' : dnum ops j = d + 1 := by simp [dnum, hy, hd]
  have p2 : (pmask ops i).testBit j = false := by
    cases hp : (pmask ops i).testBit j
    · rfl
    · have := maskL_spec.1 hp; simp [predsAt, hx] at this; exact absurd this hj
  simp only [readsM, hq', Nat.beq_refl, cond_true, p2, hd', (lmask_spec hx).2 hm] at h1
  cases h1

/-- **A quiet operation that may come up may be taken first.** -/
theorem anyE_first {K : Env → World → Prop} (hs : apartAll A ops = true) (hrs : readsStay A ops = true) {i : Nat} {oi : Oper} (hi : ops[i]? = some oi) (hq : quiet A oi.op ≠ 0) {v : Value} :
    ∀ (f : Nat) (L : List Nat) (live : List (Nat × Value)) (e : Env) (w : World), Closed ops L → i ∈ ready ops L → (∀ iv ∈ live, iv.1 ∈ L) → (∀ iv ∈ live, ∀ x, ops[iv.1]? = some x → quiet A x.op = 2) →
      yv P A ops oi v e w → (quiet A oi.op = 1 → ∀ w', yv P A ops oi v e w') →
      (∀ iv ∈ live, ∀ x, ops[iv.1]? = some x → yv P A ops x iv.2 e w) →
      anyE P A ops K f (i :: L) (cond (Nat.beq (quiet A oi.op) 1) live ((i, v) :: live)) (putE e oi.dst v) w → anyE P A ops K (f + 1) L live e w := by
  intro f
  have hself := apartAll_self hs hi hq
  have hmono : ∀ L, Closed ops L → ∀ k, k ∈ ready ops L → k ≠ i → k ∈ ready ops (i :: L) := fun L _ k hk hki =>
    mem_rdy.2 ⟨(mem_rdy.1 hk).1, fun hm => (mem_rdy.1 hk).2.1 ((List.mem_cons.1 hm).resolve_left hki), fun m hm => List.mem_cons_of_mem _ ((mem_rdy.1 hk).2.2 m hm)⟩
  have hlook : ∀ L (live : List (Nat × Value)), Closed ops L → i ∈ ready ops L → (∀ iv ∈ live, iv.1 ∈ L) → (∀ iv ∈ live, ∀ x, ops[iv.1]? = some x → quiet A x.op = 2) →
      ∀ iv ∈ live, ∀ x, ops[iv.1]? = some x → ∀ d, oi.dst = some d → d ∉ x.looksAt ops := fun L live hc hr hl hlq iv hiv x hx =>
    readsStay_spec hrs hx hi (hlq iv hiv x hx) fun hp => (mem_rdy.1 hr).2.1 (hc _ (hl iv hiv) i (by rw [predsAt_of hx]; exact hp))
  have hcase : ∀ L (live : List (Nat × Value)) (e : Env) (w : World) f, Closed ops L → i ∈ ready ops L → (∀ iv ∈ live, iv.1 ∈ L) → (∀ iv ∈ live, ∀ x, ops[iv.1]? = some x → quiet A x.op = 2) →
      yv P A ops oi v e w → (∀ iv ∈ live, ∀ x, ops[iv.1]? = some x → yv P A ops x iv.2 e w) →
      anyE P A ops K f (i :: L) live (putE e oi.dst v) w →
      stepO P A ops oi (fun u w' => (∀ iv ∈ live, (ancM ops i).testBit iv.1 = false → ∀ x, ops[iv.1]? = some x → yv P A ops x iv.2 (putE e oi.dst u) w') ∧ anyE P A ops K f (i :: L) (live.filter fun iv => !(ancM ops i).testBit iv.1) (putE e oi.dst u) w') e w :=
    fun L live e w f hc hr hl hlq hy hlv H => hy.step ⟨fun iv hiv hna x hx => (yv.put (hlook L live hc hr hl hlq iv hiv x hx)).2 (hlv iv hiv x hx), anyE_sub _ (fun iv h => (List.mem_filter.1 h).1) H⟩
  have hsub : ∀ (live : List (Nat × Value)), ∀ iv ∈ live, iv ∈ cond (Nat.beq (quiet A oi.op) 1) live ((i, v) :: live) := fun live iv hiv => by
    cases Nat.beq (quiet A oi.op) 1
    · exact List.mem_cons_of_mem _ hiv
    · exact hiv
  induction f with
  | zero =>
    intro L live e w hc hr hl hlq hy hy1 hlv H
    rw [anyE] at H
    refine ⟨fun h0 => (by rw [h0] at hr; cases hr), fun j hj o ho => ?_⟩
    by_cases hji : j = i
    · subst hji
      rw [hi] at ho; cases ho
      exact hcase L live e w 0 hc hr hl hlq hy hlv (by rw [anyE]; exact H)
    · have := hmono L hc j hj hji
      rw [H.1] at this; cases this
  | succ f ih =>
    intro L live e w hc hr hl hlq hy hy1 hlv H
    refine ⟨fun h0 => (by rw [h0] at hr; cases hr), fun j hj o ho => ?_⟩
    by_cases hji : j = i
    · subst hji
      rw [hi] at ho; cases ho
      exact hcase L live e w (f + 1) hc hr hl hlq hy hlv (anyE_sub _ (hsub live) H)
    · have hj' := hmono L hc j hj hji
      have h2 := H.2 j hj' o ho
      have hni : i ∉ predsOf o := fun hp => (mem_rdy.1 hr).2.1 ((mem_rdy.1 hj).2.2 i (by rw [predsAt_of ho]; exact hp))
      have hnj : j ∉ predsOf oi := fun hp => (mem_rdy.1 hj).2.1 ((mem_rdy.1 hr).2.2 j (by rw [predsAt_of hi]; exact hp))
      have hap := apartAll_pair hs hi ho (Ne.symm hji) hq hni hnj
      obtain ⟨a1, a2, a3⟩ := hap
      rw [stepO_put a1] at h2
      have hia : (ancM ops j).testBit i = false := by
        cases hb : (ancM ops j).testBit i
        · rfl
        · exact absurd (ancM_mem hc hj i hb) (mem_rdy.1 hr).2.1
      have hr' : i ∈ ready ops (j :: L) := mem_rdy.2 ⟨(mem_rdy.1 hr).1, fun hm => (mem_rdy.1 hr).2.1 ((List.mem_cons.1 hm).resolve_left (Ne.symm hji)), fun m hm => List.mem_cons_of_mem _ ((mem_rdy.1 hr).2.2 m hm)⟩
      refine stepO_mono (fun u w' hu => ?_) h2
      rw [putE_comm e v u a3] at hu
      obtain ⟨hre, hrest⟩ := hu
      have hlv' : ∀ iv ∈ live, (ancM ops j).testBit iv.1 = false → ∀ x, ops[iv.1]? = some x → yv P A ops x iv.2 (putE e o.dst u) w' := fun iv hiv hna x hx =>
        (yv.put (hlook L live hc hr hl hlq iv hiv x hx)).1 (hre iv (hsub live iv hiv) hna x hx)
      refine ⟨hlv', ?_⟩
      have hyi : yv P A ops oi v (putE e o.dst u) w' := by
        cases hq1 : Nat.beq (quiet A oi.op) 1 with
        | true => exact (yv.put a2).2 (hy1 (Nat.eq_of_beq_eq_true hq1) w')
        | false =>
          have h3 := hre (i, v) (by rw [hq1]; exact List.mem_cons_self) hia oi hi
          exact (yv.put hself).1 h3
      refine ih (j :: L) _ (putE e o.dst u) w' (hc.cons hj) hr' (fun iv hiv => List.mem_cons_of_mem _ (hl iv (List.mem_filter.1 hiv).1)) (fun iv hiv x hx => hlq iv (List.mem_filter.1 hiv).1 x hx) hyi (fun hq1 w2 => (yv.put a2).2 (hy1 hq1 w2))
        (fun iv hiv x hx => hlv' iv (List.mem_filter.1 hiv).1 (by have := (List.mem_filter.1 hiv).2; simpa using this) x hx) ?_
      refine anyE_sub _ ?_ (anyE_same _ (fun k => ?_) hrest)
      · intro iv hiv
        refine List.mem_filter.2 ?_
        cases hq1 : Nat.beq (quiet A oi.op) 1 with
        | true =>
          rw [hq1] at hiv
          exact ⟨(List.mem_filter.1 hiv).1, (List.mem_filter.1 hiv).2⟩
        | false =>
          rw [hq1] at hiv
          rcases List.mem_cons.1 hiv with rfl | hiv
          · exact ⟨List.mem_cons_self, by simpa using hia⟩
          · exact ⟨List.mem_cons_of_mem _ (List.mem_filter.1 hiv).1, (List.mem_filter.1 hiv).2⟩
      · simp only [List.mem_cons]; constructor <;> (rintro (h | h | h) <;> simp [h])

/-! ### 9. The canonical order -/
def allL : List Prop → Prop
  | [] => True
  | [p] => p
  | p :: q :: ps => p ∧ allL (q :: ps)
theorem allL_mem : ∀ {l : List Prop}, allL l → ∀ p ∈ l, p
  | [p], h, q, hq => by rw [List.mem_singleton] at hq; rw [hq]; exact h
  | p :: p' :: ps, h, q, hq => by
    rcases List.mem_cons.1 hq with rfl | hq
    · exact h.1
    · exact allL_mem h.2 q hq
def andL : List Prop → Prop → Prop
  | [], q => q
  | p :: ps, q => p ∧ andL ps q
theorem andL_spec : ∀ {l : List Prop} {q : Prop}, andL l q → (∀ p ∈ l, p) ∧ q
  | [], q, h => ⟨fun p hp => (by cases hp), h⟩
  | p :: ps, q, h => by
    refine ⟨fun x hx => ?_, (andL_spec h.2).2⟩
    rcases List.mem_cons.1 hx with rfl | hx
    · exact h.1
    · exact (andL_spec h.2).1 x hx
def stepJ (P : Program) (A : Ann) (ops : Array Oper) (j : Nat) (K : Value → World → Prop) (e : Env) (w : World) : Prop :=
  match ops[j]? with
  | some o => stepO P A ops o K e w
  | none => False
/-- The read i still reads the same. -/
def again (P : Program) (A : Ann) (ops : Array Oper) (e : Env) (w : World) (i : Nat) : Prop :=
  match ops[i]? with
  | some x => match x.dst with
    | some d => stepO P A ops x (fun u w' => u = e d ∧ w' = w) e w
    | none => False
  | none => False
def firstQuiet (A : Ann) (ops : Array Oper) : List Nat → Option Nat
  | [] => none
  | i :: is => cond (Nat.beq (qnum A ops i) 0) (firstQuiet A ops is) (some i)
theorem firstQuiet_some {l : List Nat} {i : Nat} (h : firstQuiet A ops l = some i) : i ∈ l ∧ qnum A ops i ≠ 0 := by
  induction l with
  | nil => cases h
  | cons x xs ih =>
    simp only [firstQuiet] at h
    cases hb : Nat.beq (qnum A ops x) 0 with
    | true => rw [hb] at h; exact ⟨List.mem_cons_of_mem _ (ih h).1, (ih h).2⟩
    | false =>
      rw [hb] at h; simp only [cond_false, Option.some.injEq] at h; subst h
      exact ⟨List.mem_cons_self, fun h0 => by rw [h0] at hb; cases hb⟩
def drawE (P : Program) (A : Ann) (ops : Array Oper) (K : Env → World → Prop) : Nat → Nat → List Nat → Env → World → Prop
  | 0, M, live, e, w => cond (readyM ops M).isEmpty (K e w) False
  | f + 1, M, live, e, w =>
    match firstQuiet A ops (readyM ops M) with
    | some i => stepJ P A ops i (fun v w' => drawE P A ops K f (M ||| 2 ^ i) (cond (Nat.beq (qnum A ops i) 1) live (i :: live)) (putE e (dstOf ops i) v) w') e w
    | none =>
      match readyM ops M with
      | [] => K e w
      | r :: rs => allL ((r :: rs).map fun j => stepJ P A ops j (fun u w' =>
          andL ((live.filter fun i => !(ancM ops j).testBit i).map (again P A ops (putE e (dstOf ops j) u) w'))
            (drawE P A ops K f (M ||| 2 ^ j) (live.filter fun i => !(ancM ops j).testBit i) (putE e (dstOf ops j) u) w')) e w)

/-- No two operations write one place. -/
def dstsApart (ops : Array Oper) : Bool :=
  (List.range ops.size).all fun i => (List.range ops.size).all fun j => Nat.beq i j || (!Nat.beq (dnum ops i) (dnum ops j) || Nat.beq (dnum ops i) 0)
theorem dstsApart_ne (h : dstsApart ops = true) {i j : Nat} (hij : i ≠ j) {d : Nat} (hi : dstOf ops i = some d) : dstOf ops j ≠ some d := by
  intro hj
  have li : i < ops.size := by
    unfold dstOf at hi; cases ho : ops[i]? with
    | none => rw [ho] at hi; cases hi
    | some o => exact (Array.getElem?_eq_some_iff.1 ho).1
  have lj : j < ops.size := by
    unfold dstOf at hj; cases ho : ops[j]? with
    | none => rw [ho] at hj; cases hj
    | some o => exact (Array.getElem?_eq_some_iff.1 ho).1
  have h1 := List.all_eq_true.1 (List.all_eq_true.1 h i (List.mem_range.2 li)) j (List.mem_range.2 lj)
  have e1 : dnum ops i = d + 1 := by
    unfold dstOf at hi; unfold dnum
    cases ho : ops[i]? with
    | none => rw [ho] at hi; cases hi
    | some o => rw [ho] at hi; replace hi : o.dst = some d := hi; simp [hi]
  have e2 : dnum ops j = d + 1 := by
    unfold dstOf at hj; unfold dnum
    cases ho : ops[j]? with
    | none => rw [ho] at hj; cases hj
    | some o => rw [ho] at hj; replace hj : o.dst = some d := hj; simp [hj]
  rw [e1, e2, beq_ne hij, Nat.beq_refl] at h1
  cases h1

def readsPlace (A : Ann) (ops : Array Oper) : Bool := ops.toList.all fun o => cond (Nat.beq (quiet A o.op) 2) o.dst.isSome true
theorem readsPlace_spec (h : readsPlace A ops = true) {i : Nat} {x : Oper} (hx : ops[i]? = some x) (hq : quiet A x.op = 2) : x.dst ≠ none := by
  have := List.all_eq_true.1 h x (Array.mem_toList_iff.2 (Array.mem_of_getElem? hx))
  rw [hq] at this
  intro h0; rw [h0] at this; cases this

theorem drawE_any {K : Env → World → Prop} (hs : apartAll A ops = true) (hrs : readsStay A ops = true) (hda : dstsApart ops = true) (hrp : readsPlace A ops = true) :
    ∀ (f : Nat) (L : List Nat) (live : List (Nat × Value)) (e : Env) (w : World), Closed ops L → (∀ iv ∈ live, iv.1 ∈ L) → (∀ iv ∈ live, ∀ x, ops[iv.1]? = some x → quiet A x.op = 2) →
      (∀ iv ∈ live, ∃ d, dstOf ops iv.1 = some d ∧ e d = iv.2) → (∀ iv ∈ live, ∀ x, ops[iv.1]? = some x → yv P A ops x iv.2 e w) → (∀ i ∈ L, i < ops.size) →
      ∀ M, Ms M L → drawE P A ops K f M (live.map (·.1)) e w → anyE P A ops K f L live e w := by
  intro f
  induction f with
  | zero =>
    intro L live e w hc hl hlq hlv hly hsz M hM h
    simp only [drawE, readyM_eq hM] at h
    cases hr : (ready ops L).isEmpty with
    | true => rw [hr] at h; exact ⟨List.isEmpty_iff.1 hr, h⟩
    | false => rw [hr] at h; exact h.elim
  | succ f ih =>
    intro L live e w hc hl hlq hlv hly hsz M hM h
    simp only [drawE, readyM_eq hM] at h
    cases hfq : firstQuiet A ops (ready ops L) with
    | some i =>
      rw [hfq] at h
      obtain ⟨hr, hq⟩ := firstQuiet_some hfq
      obtain ⟨oi, hi⟩ := ready_lt hr
      have hqa : qnum A ops i = quiet A oi.op := by simp [qnum, hi]
      have hda' : dstOf ops i = oi.dst := by simp [dstOf, hi]
      simp only [stepJ, hi, hqa, hda'] at h
      rw [hqa] at hq
      obtain ⟨v, hy, h, hy1⟩ := stepO_inv hq h
      have hstay : ∀ iv ∈ live, ∀ d, dstOf ops iv.1 = some d → putE e oi.dst v d = e d := fun iv hiv d hd => by
        have hne : i ≠ iv.1 := fun he => (mem_rdy.1 hr).2.1 (he ▸ hl iv hiv)
        cases ho : oi.dst with
        | none => rfl
        | some d' =>
          refine upd_ne _ _ fun hdd => ?_
          exact dstsApart_ne hda hne (d := d') (by rw [hda', ho]) (by rw [hd, hdd])
      refine anyE_first hs hrs hi hq f L live e w hc hr hl hlq hy hy1 hly ?_
      have hly' : ∀ iv ∈ live, ∀ x, ops[iv.1]? = some x → yv P A ops x iv.2 (putE e oi.dst v) w := fun iv hiv x hx =>
        (yv.put (readsStay_spec hrs hx hi (hlq iv hiv x hx) fun hp => (mem_rdy.1 hr).2.1 (hc _ (hl iv hiv) i (by rw [predsAt_of hx]; exact hp)))).2 (hly iv hiv x hx)
      have hsz' : ∀ k ∈ i :: L, k < ops.size := fun k hk => by
        rcases List.mem_cons.1 hk with rfl | hk
        · exact (mem_rdy.1 hr).1
        · exact hsz k hk
      cases hq1 : Nat.beq (quiet A oi.op) 1 with
      | true =>
        rw [hq1] at h
        exact ih (i :: L) live _ w (hc.cons hr) (fun iv hiv => List.mem_cons_of_mem _ (hl iv hiv)) hlq (fun iv hiv => by
          obtain ⟨d, h1, h2⟩ := hlv iv hiv; exact ⟨d, h1, (hstay iv hiv d h1).trans h2⟩) hly' hsz' _ (hM.cons i) h
      | false =>
        rw [hq1] at h
        have hq2 : quiet A oi.op = 2 := by
          have : quiet A oi.op ≤ 2 := by
            unfold quiet; repeat' split
            all_goals first | decide | (cases isEq _ <;> decide)
          have h1 : quiet A oi.op ≠ 1 := fun h1 => by rw [h1] at hq1; cases hq1
          omega
        cases hod : oi.dst with
        | none =>
          exact absurd hod (readsPlace_spec hrp hi hq2)
        | some d =>
          rw [hod] at h
          refine ih (i :: L) ((i, v) :: live) _ w (hc.cons hr) ?_ ?_ ?_ ?_ hsz' _ (hM.cons i) h
          · intro iv hiv
            rcases List.mem_cons.1 hiv with rfl | hiv
            · exact List.mem_cons_self
            · exact List.mem_cons_of_mem _ (hl iv hiv)
          · intro iv hiv x hx
            rcases List.mem_cons.1 hiv with rfl | hiv
            · rw [hi] at hx; cases hx; exact hq2
            · exact hlq iv hiv x hx
          · intro iv hiv
            rcases List.mem_cons.1 hiv with rfl | hiv
            · exact ⟨d, by rw [hda', hod], upd_same _ _ _⟩
            · obtain ⟨d', h1, h2⟩ := hlv iv hiv
              refine ⟨d', h1, ?_⟩
              have := hstay iv hiv d' h1
              rw [hod] at this
              exact this.trans h2
          · intro iv hiv x hx
            rcases List.mem_cons.1 hiv with rfl | hiv
            · rw [hi] at hx; cases hx
              rw [← hod]; exact (yv.put (apartAll_self hs hi hq)).2 hy
            · rw [← hod]; exact hly' iv hiv x hx
    | none =>
      rw [hfq] at h
      cases hrd : ready ops L with
      | nil => rw [hrd] at h; exact ⟨fun _ => h, fun j hj => by rw [hrd] at hj; cases hj⟩
      | cons r rs =>
        rw [hrd] at h
        refine ⟨fun h0 => (by rw [hrd] at h0; cases h0), fun j hj o ho => ?_⟩
        have h1 := allL_mem h _ (List.mem_map.2 ⟨j, by rw [← hrd]; exact hj, rfl⟩)
        simp only [stepJ, ho] at h1
        refine stepO_mono (fun u w' hu => ?_) h1
        have hda' : dstOf ops j = o.dst := by simp [dstOf, ho]
        rw [hda'] at hu
        obtain ⟨h2, h3⟩ := andL_spec hu
        have hstay : ∀ iv ∈ live, ∀ d, dstOf ops iv.1 = some d → putE e o.dst u d = e d := fun iv hiv d hd => by
          have hne : j ≠ iv.1 := fun he => (mem_rdy.1 hj).2.1 (he ▸ hl iv hiv)
          cases ho' : o.dst with
          | none => rfl
          | some d' =>
            refine upd_ne _ _ fun hdd => ?_
            exact dstsApart_ne hda hne (d := d') (by rw [hda', ho']) (by rw [hd, hdd])
        have hre : ∀ iv ∈ live, (ancM ops j).testBit iv.1 = false → ∀ x, ops[iv.1]? = some x → yv P A ops x iv.2 (putE e o.dst u) w' := fun iv hiv hna x hx => by
          have h4 := h2 _ (List.mem_map.2 ⟨iv.1, List.mem_filter.2 ⟨List.mem_map.2 ⟨iv, hiv, rfl⟩, by simpa using hna⟩, rfl⟩)
          obtain ⟨d, h5, h6⟩ := hlv iv hiv
          have hxd : x.dst = some d := by rw [← h5]; simp [dstOf, hx]
          simp only [again, hx, hxd] at h4
          rw [hstay iv hiv d h5, h6] at h4
          exact h4
        refine ⟨hre, ?_⟩
        refine ih (j :: L) (live.filter fun iv => !(ancM ops j).testBit iv.1) _ w' (hc.cons hj) (fun iv hiv => List.mem_cons_of_mem _ (hl iv (List.mem_filter.1 hiv).1)) (fun iv hiv x hx => hlq iv (List.mem_filter.1 hiv).1 x hx)
          (fun iv hiv => ?_) (fun iv hiv x hx => hre iv (List.mem_filter.1 hiv).1 (by have := (List.mem_filter.1 hiv).2; simpa using this) x hx) ?_ _ (hM.cons j) ?_
        · obtain ⟨d, h1, h2⟩ := hlv iv (List.mem_filter.1 hiv).1
          exact ⟨d, h1, (hstay iv (List.mem_filter.1 hiv).1 d h1).trans h2⟩
        · intro k hk
          rcases List.mem_cons.1 hk with rfl | hk
          · exact (mem_rdy.1 hj).1
          · exact hsz k hk
        · have : (live.filter fun iv => !(ancM ops j).testBit iv.1).map (·.1) = (live.map (·.1)).filter fun i => !(ancM ops j).testBit i := by
            rw [List.filter_map]; rfl
          rw [this]
          exact h3

/-! ### 10. From the orders to the kit's own -/
def okDraw (A : Ann) (ops : Array Oper) : Bool := apartAll A ops && (readsStay A ops && (dstsApart ops && readsPlace A ops))

theorem ready_kit {L : List Nat} {listed : Array Bool} (hsz : listed.size = ops.size) (h : ∀ i, i < ops.size → (listed.getD i false = true ↔ i ∈ L)) (hL : ∀ i ∈ L, i < ops.size) :
    ∀ j, j ∈ Region.ready .any ops listed ↔ j ∈ ready ops L := by
  intro j
  rw [mem_ready, mem_rdy]
  constructor
  · rintro ⟨h0, o, ho, hall⟩
    have hlt : j < ops.size := (Array.getElem?_eq_some_iff.1 ho).1
    refine ⟨hlt, fun hm => ?_, fun k hk => ?_⟩
    · have h1 := (h j hlt).2 hm
      have hlt' : j < listed.size := by omega
      simp [hlt'] at h0 h1
      rw [h0] at h1; cases h1
    · rw [predsAt_of ho] at hk
      obtain ⟨e, he, rfl⟩ := List.mem_map.1 hk
      obtain ⟨he, hb⟩ := List.mem_filter.1 he
      have h1 := hall e (Array.mem_toList_iff.1 he) hb
      by_cases hk : e.on < ops.size
      · exact (h _ hk).1 h1
      · have : listed.getD e.on false = false := by simp [show ¬ e.on < listed.size by omega]
        rw [this] at h1; cases h1
  · rintro ⟨hlt, hn, hall⟩
    have ho : ops[j]? = some ops[j] := Array.getElem?_eq_getElem hlt
    refine ⟨?_, ops[j], ho, fun e he hb => ?_⟩
    · have hlt' : j < listed.size := by omega
      cases hx : listed.getD j true with
      | false => rfl
      | true =>
        exfalso; apply hn
        apply (h j hlt).1
        simp [hlt'] at hx ⊢; exact hx
    · have h1 : e.on ∈ L := hall e.on (by
        rw [predsAt_of ho]
        exact List.mem_map.2 ⟨e, List.mem_filter.2 ⟨Array.mem_toList_iff.2 he, hb⟩, rfl⟩)
      exact (h e.on (hL _ h1)).2 h1

theorem anyE_wpAny {F : Fence} (hF : Wide F) {n nt : Nat} (hd : dstsOk nt ops = true) {Q : Exit → Act → World → Prop} {K : Env → World → Prop} {ds : List Deferred}
    (hK : ∀ a e w, Rep nt a e → a.defers = ds → K e w → Q .normal a w) : ∀ (f : Nat) (L : List Nat) (listed : Array Bool) (live : List (Nat × Value)) (a : Act) (e : Env) (w : World), listed.size = ops.size →
      (∀ i, i < ops.size → (listed.getD i false = true ↔ i ∈ L)) → (∀ i ∈ L, i < ops.size) → Rep nt a e → a.defers = ds → anyE P A ops K f L live e w → wpAnyIn F n P .any ops Q f listed a w := by
  intro f
  induction f with
  | zero =>
    intro L listed live a e w hsz h hL hr hds H
    have hrk := ready_kit hsz h hL
    refine ⟨?_, hK a e w hr hds H.2⟩
    cases hx : Region.ready .any ops listed with
    | nil => rfl
    | cons y ys =>
      have := (hrk y).1 (by rw [hx]; exact List.mem_cons_self)
      rw [H.1] at this; cases this
  | succ f ih =>
    intro L listed live a e w hsz h hL hr hds H
    have hrk := ready_kit hsz h hL
    refine ⟨fun h0 => hK a e w hr hds (H.1 ?_), fun j hj => ?_⟩
    · cases hx : ready ops L with
      | nil => rfl
      | cons y ys =>
        have := (hrk y).2 (by rw [hx]; exact List.mem_cons_self)
        rw [h0] at this; cases this
    · have hj' := (hrk j).1 hj
      obtain ⟨o, ho⟩ := ready_lt hj'
      have hlt := (mem_rdy.1 hj').1
      have hmem : o ∈ ops.toList := Array.mem_toList_iff.2 (Array.mem_of_getElem? ho)
      refine stepO_wpOp hF hd ho hr (fun v w' hv => ?_) (H.2 j hj' o ho)
      refine ih (j :: L) (listed.setIfInBounds j true) _ _ _ w' (by simp [hsz]) (fun i hi => ?_) (fun i hi => ?_) (hr.put o.dst (dstsOk_lt hd hmem) v) (by cases ho' : o.dst <;> simp [Act.put, hds]) hv.2
      · by_cases hij : j = i
        · subst hij
          have : j < listed.size := by omega
          simp [this]
        · rw [getD_set_ne false hij, h i hi]
          simp [Ne.symm hij]
      · rcases List.mem_cons.1 hi with rfl | hi
        · exact hlt
        · exact hL i hi
theorem wpIn_region_anyE {F : Fence} {n : Nat} {id : Nat} {Q : Exit → Act → World → Prop} {a : Act} {w : World} (hm : P.follows .mixedOrders = true)
    (h : wpAnyIn F n P .any ops Q ops.size (Array.replicate ops.size false) a { w with drawn := w.drawn + 1 }) : (Code.region id ops true).wpIn F n P Q a w :=
  wpIn_region_draw fun t => by
    simp only [Region.schedule, hm, Bool.true_or, if_true]
    exact wpAnyIn_sound ops.size t _ a _ h
theorem drawE_region {F : Fence} (hF : Wide F) {n nt : Nat} {id : Nat} (hd : dstsOk nt ops = true) (hok : okDraw A ops = true) (hm : P.follows .mixedOrders = true) {Q : Exit → Act → World → Prop} {K : Env → World → Prop} {ds : List Deferred}
    (hK : ∀ a e w, Rep nt a e → a.defers = ds → K e w → Q .normal a w) {a : Act} {e : Env} {w : World} (hr : Rep nt a e) (hds : a.defers = ds) (h : drawE P A ops K ops.size 0 [] e w.drew) :
    (Code.region id ops true).wpIn F n P Q a w := by
  simp only [okDraw, Bool.and_eq_true] at hok
  obtain ⟨h1, h2, h3, h4⟩ := hok
  refine wpIn_region_anyE hm ?_
  refine anyE_wpAny (A := A) (K := K) hF hd hK ops.size [] _ [] a e _ (by simp) (fun i hi => by simp [hi]) (fun i hi => by cases hi) hr hds ?_
  exact drawE_any h1 h2 h3 h4 ops.size [] [] e _ (fun k hk => by cases hk) (fun _ h => by cases h) (fun _ h => by cases h) (fun _ h => by cases h) (fun _ h => by cases h) (fun _ h => by cases h) 0 (fun i => by simp) h
end
end Go.Hx
