/-
  ENGINE, part 3: a region that draws its order: one canonical order, with re-checks of reads, serves every order.
-/
import Derived.Test.YtflndenagilnmaaEng2
set_option linter.unusedVariables false
set_option linter.unusedSimpArgs false
namespace Go.Hx
open Go

/-! ### 6. Orders -/
def predsOf (o : Oper) : List Nat := (o.after.toList.filter (Region.binds .any)).map (·.on)
def predsAt (ops : Array Oper) (j : Nat) : List Nat := match ops[j]? with | some o => predsOf o | none => []
def ready (ops : Array Oper) (L : List Nat) : List Nat :=
  (List.range ops.size).filter fun i => !L.contains i && (predsAt ops i).all L.contains
theorem mem_rdy {ops : Array Oper} {L : List Nat} {j : Nat} : j ∈ ready ops L ↔ j < ops.size ∧ j ∉ L ∧ ∀ k ∈ predsAt ops j, k ∈ L := by
  simp [ready, List.mem_filter]
def Closed (ops : Array Oper) (L : List Nat) : Prop := ∀ k ∈ L, ∀ m ∈ predsAt ops k, m ∈ L
theorem Closed.cons {ops : Array Oper} {L : List Nat} (h : Closed ops L) {j : Nat} (hj : j ∈ ready ops L) : Closed ops (j :: L) := by
  intro k hk m hm
  rcases List.mem_cons.1 hk with rfl | hk
  · exact List.mem_cons_of_mem _ ((mem_rdy.1 hj).2.2 m hm)
  · exact List.mem_cons_of_mem _ (h k hk m hm)
/-- All that an operation waits for, through others. -/
def clos (ops : Array Oper) : Nat → List Nat → List Nat → List Nat
  | 0, _, seen => seen
  | _ + 1, [], seen => seen
  | f + 1, k :: fr, seen =>
    let new := (predsAt ops k).filter fun m => !seen.contains m
    clos ops f (new ++ fr) (new ++ seen)
theorem clos_mem {ops : Array Oper} {L : List Nat} (hc : Closed ops L) : ∀ (f : Nat) (fr seen : List Nat), (∀ k ∈ fr, k ∈ L) → (∀ k ∈ seen, k ∈ L) → ∀ k ∈ clos ops f fr seen, k ∈ L
  | 0, _, seen, _, hs, k, hk => hs k hk
  | _ + 1, [], seen, _, hs, k, hk => hs k hk
  | f + 1, x :: fr, seen, hf, hs, k, hk => by
    simp only [clos] at hk
    have hn : ∀ m ∈ (predsAt ops x).filter (fun m => !seen.contains m), m ∈ L := fun m hm =>
      hc x (hf x List.mem_cons_self) m (List.mem_filter.1 hm).1
    refine clos_mem hc f _ _ ?_ ?_ k hk
    · intro m hm
      rcases List.mem_append.1 hm with hm | hm
      · exact hn m hm
      · exact hf m (List.mem_cons_of_mem _ hm)
    · intro m hm
      rcases List.mem_append.1 hm with hm | hm
      · exact hn m hm
      · exact hs m hm
def anc (ops : Array Oper) (j : Nat) : List Nat := clos ops (ops.size + 1) (predsAt ops j) (predsAt ops j)
theorem anc_mem {ops : Array Oper} {L : List Nat} (hc : Closed ops L) {j : Nat} (hj : j ∈ ready ops L) : ∀ k ∈ anc ops j, k ∈ L :=
  clos_mem hc _ _ _ (mem_rdy.1 hj).2.2 (mem_rdy.1 hj).2.2

/-- Operations that leave the world as it is: 1: whatever the world; 2: a read. 0: the others. -/
def quiet (A : Ann) (o : Op) : Nat :=
  match o with
  | .move _ | .assign _ | .pick .. | .nilCheck _ | .unOp .. | .build .. | .makeInterface .. | .makeFunc .. | .slice .. | .fieldAddr .. | .field .. | .indexAddr .. | .index .. | .extract .. => 1
  | .binOp op .. => cond (isEq op) 2 1
  | .convert s d _ => match A.conv s d with
    | 0 => 1
    | 1 => 2
    | _ => 0
  | .load .. | .lookup .. => 2
  | .call { callee := .builtin .len, .. } => 2
  | .call { callee := .builtin .cap, .. } | .call { callee := .builtin .min, .. } | .call { callee := .builtin .max, .. } => 1
  | _ => 0

theorem quiet_opE {P : Program} {A : Ann} {o : Op} {ty : TypeId} {e : Env} {K : Value → World → Prop} {w : World} (hq : quiet A o ≠ 0) (h : opE P A o ty e K w) :
    ∃ v, (∀ K' : Value → World → Prop, K' v w → opE P A o ty e K' w) ∧ K v w ∧ (quiet A o = 1 → ∀ w' (K' : Value → World → Prop), K' v w' → opE P A o ty e K' w') := by
  have pu : ∀ s : Sem Value, Pu P s K w → ∃ v, (∀ K' : Value → World → Prop, K' v w → Pu P s K' w) ∧ K v w ∧ ∀ w' (K' : Value → World → Prop), K' v w' → Pu P s K' w' := fun s h => by
    obtain ⟨v, h1, h2⟩ := Pu_iff.1 h
    exact ⟨v, fun K' hk => Pu_iff.2 ⟨v, h1, hk⟩, h2, fun w' K' hk => Pu_iff.2 ⟨v, h1, hk⟩⟩
  have rd : ∀ s : Sem Value, Rd P s K w → ∃ v, (∀ K' : Value → World → Prop, K' v w → Rd P s K' w) ∧ K v w := fun s h => by
    obtain ⟨v, h1, h2⟩ := Rd_iff.1 h
    exact ⟨v, fun K' hk => Rd_iff.2 ⟨v, h1, hk⟩, h2⟩
  unfold opE at h
  split at h
  case h_1 => exact ⟨_, fun K' hk => hk, h, fun _ w' K' hk => hk⟩
  case h_2 => exact ⟨_, fun K' hk => hk, h, fun _ w' K' hk => hk⟩
  case h_3 => obtain ⟨v, h1, h2, h3⟩ := pu _ h; exact ⟨v, h1, h2, fun _ => h3⟩
  case h_4 => obtain ⟨v, h1, h2, h3⟩ := pu _ h; exact ⟨v, h1, h2, fun _ => h3⟩
  case h_5 =>
    rename_i op t x y yt
    cases hb : isEq op
    · simp only [hb, cond_false] at h
      obtain ⟨v, h1, h2, h3⟩ := pu _ h
      exact ⟨v, fun K' hk => by simp only [opE, hb, cond_false]; exact h1 K' hk, h2, fun _ w' K' hk => by simp only [opE, hb, cond_false]; exact h3 w' K' hk⟩
    · simp only [hb, cond_true] at h
      obtain ⟨v, h1, h2⟩ := rd _ h
      exact ⟨v, fun K' hk => by simp only [opE, hb, cond_true]; exact h1 K' hk, h2, fun hq1 => by simp [quiet, hb] at hq1⟩
  case h_6 => obtain ⟨v, h1, h2, h3⟩ := pu _ h; exact ⟨v, h1, h2, fun _ => h3⟩
  case h_7 =>
    rename_i s d x
    simp only [quiet] at hq ⊢
    split at h
    · rename_i hc
      obtain ⟨v, h1, h2, h3⟩ := pu _ h
      exact ⟨v, fun K' hk => by simp only [opE, hc]; exact h1 K' hk, h2, fun _ w' K' hk => by simp only [opE, hc]; exact h3 w' K' hk⟩
    · rename_i hc
      obtain ⟨v, h1, h2⟩ := rd _ h
      exact ⟨v, fun K' hk => by simp only [opE, hc]; exact h1 K' hk, h2, fun hq1 => by simp [hc] at hq1⟩
    · rename_i hc0 hc1
      exfalso
      split at hq
      · exact hc0 ‹_›
      · exact hc1 ‹_›
      · exact hq rfl
  case h_10 => obtain ⟨v, h1, h2, h3⟩ := pu _ h; exact ⟨v, h1, h2, fun _ => h3⟩
  case h_12 => obtain ⟨v, h1, h2⟩ := rd _ h; exact ⟨v, h1, h2, fun hq1 => by simp [quiet] at hq1⟩
  case h_14 => obtain ⟨v, h1, h2, h3⟩ := pu _ h; exact ⟨v, h1, h2, fun _ => h3⟩
  case h_15 => exact ⟨_, fun K' hk => hk, h, fun _ w' K' hk => hk⟩
  case h_18 => obtain ⟨v, h1, h2, h3⟩ := pu _ h; exact ⟨v, h1, h2, fun _ => h3⟩
  case h_19 => obtain ⟨v, h1, h2, h3⟩ := pu _ h; exact ⟨v, h1, h2, fun _ => h3⟩
  case h_20 => obtain ⟨v, h1, h2, h3⟩ := pu _ h; exact ⟨v, h1, h2, fun _ => h3⟩
  case h_21 => obtain ⟨v, h1, h2, h3⟩ := pu _ h; exact ⟨v, h1, h2, fun _ => h3⟩
  case h_22 => obtain ⟨v, h1, h2, h3⟩ := pu _ h; exact ⟨v, h1, h2, fun _ => h3⟩
  case h_23 => obtain ⟨v, h1, h2⟩ := rd _ h; exact ⟨v, h1, h2, fun hq1 => by simp [quiet] at hq1⟩
  case h_25 => obtain ⟨v, h1, h2, h3⟩ := pu _ h; exact ⟨v, h1, h2, fun _ => h3⟩
  case h_33 => obtain ⟨v, h1, h2⟩ := rd _ h; exact ⟨v, h1, h2, fun hq1 => by simp [quiet] at hq1⟩
  case h_34 => obtain ⟨v, h1, h2, h3⟩ := pu _ h; exact ⟨v, h1, h2, fun _ => h3⟩
  case h_35 => obtain ⟨v, h1, h2, h3⟩ := pu _ h; exact ⟨v, h1, h2, fun _ => h3⟩
  case h_36 => obtain ⟨v, h1, h2, h3⟩ := pu _ h; exact ⟨v, h1, h2, fun _ => h3⟩
  all_goals first
    | exact h.elim
    | (exfalso; simp [quiet] at hq)

/-! ### 7. What an operation looks at -/
theorem ev_put {e : Env} {dst : Option Tmp} {v : Value} {x : Operand} (h : ∀ d, dst = some d → x ≠ .tmp d) : ev (putE e dst v) x = ev e x := by
  cases dst with
  | none => rfl
  | some d =>
    cases x with
    | tmp t => exact upd_ne _ _ fun ht => h d rfl (by rw [ht])
    | _ => rfl
theorem opE_congr {P : Program} {A : Ann} {o : Op} {ty : TypeId} {e e' : Env} {K : Value → World → Prop} {w : World} (h : ∀ x ∈ o.operands, ev e x = ev e' x) :
    opE P A o ty e K w ↔ opE P A o ty e' K w := by
  have pairs : ∀ ps : Array (Nat × Operand), (∀ x ∈ ps.toList.map (·.2), ev e x = ev e' x) → ps.toList.map (fun p => (p.1, ev e p.2)) = ps.toList.map (fun p => (p.1, ev e' p.2)) := fun ps hp =>
    List.map_congr_left fun p hm => by rw [hp p.2 (List.mem_map.2 ⟨p, hm, rfl⟩)]
  have lst : ∀ xs : Array Operand, (∀ x ∈ xs, ev e x = ev e' x) → xs.toList.map (ev e) = xs.toList.map (ev e') := fun xs hx =>
    List.map_congr_left fun x hm => hx x (Array.mem_toList_iff.1 hm)
  cases o <;> simp only [Op.operands] at h
  case call c =>
    obtain ⟨callee, args, at'⟩ := c
    have ha : args.toList.map (ev e) = args.toList.map (ev e') := lst args fun x hx => h x (by simp [Call.operands, hx])
    cases callee with
    | value f =>
      have hf : ev e f = ev e' f := h f (by simp [Call.operands])
      cases f <;> simp only [opE, ha, hf]
    | invoke r m =>
      have hr : ev e r = ev e' r := h r (by simp [Call.operands])
      simp only [opE, ha, hr]
    | builtin b => cases b <;> simp only [opE, ha]
  case build t ps => simp only [opE]; rw [pairs ps fun x hx => h x (by simpa using hx)]
  case buildSlice t n ps => simp only [opE]; rw [pairs ps fun x hx => h x (by simpa using hx)]
  case makeFunc fn a b => simp only [opE]; rw [lst a fun x hx => h x (by simp [hx]), lst b fun x hx => h x (by simp [hx])]
  case makeMap t r => cases r <;> simp [opE]
  case slice t x lo hi mx =>
    have hx : ev e x = ev e' x := h x (by simp)
    cases lo <;> cases hi <;> cases mx <;> simp_all [opE]
  all_goals (first | rfl | (simp_all [opE]; done) | (simp only [opE]; simp_all))

theorem guardV_put {ops : Array Oper} {e : Env} {o : Oper} {g : Nat} {want : Bool} {dst : Option Tmp} {v : Value} (hg : o.guard = some (g, want)) (h : ∀ d, dst = some d → d ∉ o.looksAt ops) :
    guardV ops (putE e dst v) g = guardV ops e g := by
  unfold guardV dstOf
  cases ht : (ops[g]?).bind (·.dst) with
  | none => rfl
  | some t =>
    cases dst with
    | none => rfl
    | some d => exact upd_ne _ _ fun hd => h d rfl (by subst hd; simp [Oper.looksAt, hg, ht])
theorem stepO_put {P : Program} {A : Ann} {ops : Array Oper} {o : Oper} {K : Value → World → Prop} {e : Env} {w : World} {dst : Option Tmp} {v : Value} (h : ∀ d, dst = some d → d ∉ o.looksAt ops) :
    stepO P A ops o K (putE e dst v) w ↔ stepO P A ops o K e w := by
  have hop : ∀ K : Value → World → Prop, opE P A o.op o.type (putE e dst v) K w ↔ opE P A o.op o.type e K w := fun K =>
    opE_congr fun x hx => ev_put fun d hd hxd => h d hd (by
      subst hxd
      exact List.mem_append_left _ (List.mem_filterMap.2 ⟨.tmp d, by simpa using hx, rfl⟩))
  unfold stepO
  cases hg : o.guard with
  | none => exact hop K
  | some gw =>
    obtain ⟨g, want⟩ := gw
    simp only []
    rw [guardV_put hg h]
    unfold Gd
    cases guardV ops e g <;> simp only []
    rename_i b
    cases (b == want)
    · simp
    · simp only [cond_true]; exact hop K

/-! ### 8. The static look at a region: by masks, so that the kernel computes with numerals -/
def maskL (l : List Nat) : Nat := l.foldl (fun m t => m ||| 2 ^ t) 0
theorem maskL_go (i : Nat) : ∀ (l : List Nat) (m : Nat), (l.foldl (fun m t => m ||| 2 ^ t) m).testBit i = true ↔ m.testBit i = true ∨ i ∈ l
  | [], m => by simp
  | t :: l, m => by
    rw [List.foldl_cons, maskL_go i l, Nat.testBit_or, Nat.testBit_two_pow, Bool.or_eq_true, List.mem_cons, or_assoc, decide_eq_true_iff, @eq_comm _ t i]
theorem maskL_spec {l : List Nat} {i : Nat} : (maskL l).testBit i = true ↔ i ∈ l := by
  unfold maskL; rw [maskL_go]; simp
def pmask (ops : Array Oper) (i : Nat) : Nat := maskL (predsAt ops i)
def lmask (ops : Array Oper) (i : Nat) : Nat := match ops[i]? with | some o => maskL ((o.looksAt ops).map (· + 1)) | none => 0
def dnum (ops : Array Oper) (i : Nat) : Nat := match ops[i]? with | some o => (match o.dst with | some d => d + 1 | none => 0) | none => 0
def qnum (A : Ann) (ops : Array Oper) (i : Nat) : Nat := match ops[i]? with | some o => quiet A o.op | none => 0
theorem lmask_spec {ops : Array Oper} {i : Nat} {o : Oper} (ho : ops[i]? = some o) {t : Nat} : (lmask ops i).testBit (t + 1) = true ↔ t ∈ o.looksAt ops := by
  simp only [lmask, ho, maskL_spec, List.mem_map]
  constructor
  · rintro ⟨x, hx, he⟩
    have : x = t := by omega
    exact this ▸ hx
  · intro h; exact ⟨t, h, rfl⟩
/-- Two operations neither of which waits for the other directly are apart; a quiet one does not look at its own place. -/
def apartM (A : Ann) (ops : Array Oper) (i j : Nat) : Bool :=
  cond (Nat.beq (qnum A ops i) 0) true
    (cond (Nat.beq i j) (!(lmask ops i).testBit (dnum ops i))
      (cond ((pmask ops j).testBit i) true (cond ((pmask ops i).testBit j) true
        (!(lmask ops j).testBit (dnum ops i) && (!(lmask ops i).testBit (dnum ops j) && (!Nat.beq (dnum ops i) (dnum ops j) || Nat.beq (dnum ops i) 0))))))
def apartAll (A : Ann) (ops : Array Oper) : Bool := (List.range ops.size).all fun i => (List.range ops.size).all fun j => apartM A ops i j
def Apart3 (ops : Array Oper) (x y : Oper) : Prop :=
  (∀ d, x.dst = some d → d ∉ y.looksAt ops) ∧ (∀ d, y.dst = some d → d ∉ x.looksAt ops) ∧ (∀ d, x.dst = some d → y.dst ≠ some d)
theorem beq_ne {i j : Nat} (h : i ≠ j) : Nat.beq i j = false := by
  cases hb : Nat.beq i j
  · rfl
  · exact absurd (Nat.eq_of_beq_eq_true hb) h
theorem apartAll_at {A : Ann} {ops : Array Oper} (h : apartAll A ops = true) {i j : Nat} {x y : Oper} (hx : ops[i]? = some x) (hy : ops[j]? = some y) : apartM A ops i j = true :=
  List.all_eq_true.1 (List.all_eq_true.1 h i (List.mem_range.2 (Array.getElem?_eq_some_iff.1 hx).1)) j (List.mem_range.2 (Array.getElem?_eq_some_iff.1 hy).1)
theorem apartAll_self {A : Ann} {ops : Array Oper} (h : apartAll A ops = true) {i : Nat} {x : Oper} (hx : ops[i]? = some x) (hq : quiet A x.op ≠ 0) : ∀ d, x.dst = some d → d ∉ x.looksAt ops := by
  intro d hd hm
  have h1 := apartAll_at h hx hx
  have hq' : qnum A ops i = quiet A x.op := by simp [qnum, hx]
  have hd' : dnum ops i = d + 1 := by simp [dnum, hx, hd]
  simp only [apartM, hq', beq_ne hq, cond_false, Nat.beq_refl, cond_true, hd', (lmask_spec hx).2 hm] at h1
  cases h1
theorem apartAll_pair {A : Ann} {ops : Array Oper} (h : apartAll A ops = true) {i j : Nat} {x y : Oper} (hx : ops[i]? = some x) (hy : ops[j]? = some y) (hij : i ≠ j) (hq : quiet A x.op ≠ 0)
    (h1 : i ∉ predsOf y) (h2 : j ∉ predsOf x) : Apart3 ops x y := by
  have h3 := apartAll_at h hx hy
  have hq' : qnum A ops i = quiet A x.op := by simp [qnum, hx]
  have p1 : (pmask ops j).testBit i = false := by
    cases hp : (pmask ops j).testBit i
    · rfl
    · have := maskL_spec.1 hp; simp [predsAt, hy] at this; exact absurd this h1
  have p2 : (pmask ops i).testBit j = false := by
    cases hp : (pmask ops i).testBit j
    · rfl
    · have := maskL_spec.1 hp; simp [predsAt, hx] at this; exact absurd this h2
  simp only [apartM, hq', beq_ne hq, beq_ne hij, p1, p2, cond_false, Bool.and_eq_true] at h3
  obtain ⟨h3, h4, h5⟩ := h3
  refine ⟨fun d hd hm => ?_, fun d hd hm => ?_, fun d hd hd2 => ?_⟩
  · have hd' : dnum ops i = d + 1 := by simp [dnum, hx, hd]
    rw [hd', (lmask_spec hy).2 hm] at h3; cases h3
  · have hd' : dnum ops j = d + 1 := by simp [dnum, hy, hd]
    rw [hd', (lmask_spec hx).2 hm] at h4; cases h4
  · have hd' : dnum ops i = d + 1 := by simp [dnum, hx, hd]
    have hd2' : dnum ops j = d + 1 := by simp [dnum, hy, hd2]
    rw [hd', hd2', Nat.beq_refl] at h5
    cases h5
section
variable {ops : Array Oper}
def readyM (ops : Array Oper) (M : Nat) : List Nat := (List.range ops.size).filter fun i => !M.testBit i && Nat.beq (pmask ops i &&& M) (pmask ops i)
def Ms (M : Nat) (L : List Nat) : Prop := ∀ i, M.testBit i = true ↔ i ∈ L
theorem Ms.cons {M : Nat} {L : List Nat} (h : Ms M L) (j : Nat) : Ms (M ||| 2 ^ j) (j :: L) := by
  intro i
  rw [Nat.testBit_or, Nat.testBit_two_pow, Bool.or_eq_true, h i, List.mem_cons, decide_eq_true_iff, @eq_comm _ j i, or_comm]
theorem readyM_eq {M : Nat} {L : List Nat} (h : Ms M L) : readyM ops M = ready ops L := by
  unfold readyM ready
  refine List.filter_congr fun i _ => ?_
  have h1 : M.testBit i = L.contains i := by
    rw [Bool.eq_iff_iff, h i, List.contains_iff_mem]
  rw [h1]
  congr 1
  have h2 : Nat.beq (pmask ops i &&& M) (pmask ops i) = true ↔ (predsAt ops i).all L.contains = true := by
    constructor
    · intro hb
      have he := Nat.eq_of_beq_eq_true hb
      rw [List.all_eq_true]
      intro k hk
      have h3 : (pmask ops i).testBit k = true := maskL_spec.2 hk
      rw [← he, Nat.testBit_and, Bool.and_eq_true] at h3
      simpa using (h k).1 h3.2
    · intro hall
      have : pmask ops i &&& M = pmask ops i := by
        refine Nat.eq_of_testBit_eq fun k => ?_
        rw [Nat.testBit_and]
        cases hp : (pmask ops i).testBit k with
        | false => rfl
        | true =>
          have hk := maskL_spec.1 hp
          have := List.all_eq_true.1 hall k hk
          rw [(h k).2 (by simpa using this)]; rfl
      rw [this]; exact Nat.beq_refl _
  exact Bool.eq_iff_iff.2 h2
def stepM (ops : Array Oper) (m : Nat) : Nat := (List.range ops.size).foldl (fun acc k => cond (m.testBit k) (acc ||| pmask ops k) acc) m
def closM (ops : Array Oper) : Nat → Nat → Nat
  | 0, m => m
  | f + 1, m => closM ops f (stepM ops m)
def ancM (ops : Array Oper) (j : Nat) : Nat := closM ops ops.size (pmask ops j)
theorem stepM_mem {L : List Nat} (hc : Closed ops L) {m : Nat} (hm : ∀ k, m.testBit k = true → k ∈ L) : ∀ k, (stepM ops m).testBit k = true → k ∈ L := by
  unfold stepM
  have key : ∀ (l : List Nat) (acc : Nat), (∀ k, acc.testBit k = true → k ∈ L) → ∀ k, (l.foldl (fun acc k => cond (m.testBit k) (acc ||| pmask ops k) acc) acc).testBit k = true → k ∈ L := by
    intro l
    induction l with
    | nil => exact fun acc h => h
    | cons x l ih =>
      intro acc h
      rw [List.foldl_cons]
      refine ih _ ?_
      cases hx : m.testBit x with
      | false => exact h
      | true =>
        intro k hk
        rw [cond_true, Nat.testBit_or, Bool.or_eq_true] at hk
        rcases hk with hk | hk
        · exact h k hk
        · exact hc x (hm x hx) k (maskL_spec.1 hk)
  exact key _ m hm
theorem ancM_mem {L : List Nat} (hc : Closed ops L) {j : Nat} (hj : j ∈ ready ops L) : ∀ k, (ancM ops j).testBit k = true → k ∈ L := by
  have key : ∀ (f m : Nat), (∀ k, m.testBit k = true → k ∈ L) → ∀ k, (closM ops f m).testBit k = true → k ∈ L := by
    intro f
    induction f with
    | zero => exact fun m h => h
    | succ f ih => exact fun m h => ih _ (stepM_mem hc h)
  exact key _ _ fun k hk => (mem_rdy.1 hj).2.2 k (maskL_spec.1 hk)
end
end Go.Hx
