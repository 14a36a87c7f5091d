/-
  ENGINE, part 2: regions; regions that draw their order: one canonical order with re-checks serves every order.
-/
import Derived.Test.YtflndenagilnmaaEng
set_option linter.unusedVariables false
set_option linter.unusedSimpArgs false
namespace Go.Hx
open Go

/-! ### 4. Steps of a region -/
def dstOf (ops : Array Oper) (j : Nat) : Option Nat := (ops[j]?).bind (·.dst)
def guardV (ops : Array Oper) (e : Env) (g : Nat) : Value :=
  match dstOf ops g with
  | some t => e t
  | none => undef
def Gd (v : Value) (want : Bool) (B : (Value → World → Prop) → World → Prop) (K : Value → World → Prop) (w : World) : Prop :=
  match v with
  | .bool b => cond (b == want) (B K w) (K undef w)
  | .tuple _ => K undef w
  | _ => False
def stepO (P : Program) (A : Ann) (ops : Array Oper) (o : Oper) (K : Value → World → Prop) (e : Env) (w : World) : Prop :=
  match o.guard with
  | none => opE P A o.op o.type e K w
  | some (g, want) => Gd (guardV ops e g) want (opE P A o.op o.type e) K w
def stepV (P : Program) (A : Ann) (ops : Array Oper) (j : Nat) (K : Value → World → Prop) (e : Env) (w : World) : Prop :=
  match ops[j]? with
  | none => False
  | some o => stepO P A ops o K e w
def runE (P : Program) (A : Ann) (ops : Array Oper) (K : Env → World → Prop) : List Oper → Env → World → Prop
  | [], e, w => K e w
  | o :: os, e, w => stepO P A ops o (fun v w' => runE P A ops K os (putE e o.dst v) w') e w

theorem nextK_mono {P : Program} {K K' : Value → World → Prop} (h : ∀ v w, K v w → K' v w) {r : Result Next} (hh : nextK P K r) : nextK P K' r := by
  unfold nextK at *
  split at hh
  · exact h _ _ hh
  · exact h _ _ hh
  · exact Calls.mono hh fun e w'' he => by cases e <;> first | exact h _ _ he | exact he
  · exact RoundIn.mono hh fun e w'' he => by cases e <;> first | exact h _ _ he | exact he
  · exact hh.elim
theorem Pu.mono {P : Program} {s : Sem Value} {K K' : Value → World → Prop} {w : World} (h : ∀ v w, K v w → K' v w) (hh : Pu P s K w) : Pu P s K' w := by
  obtain ⟨v, h1, h2⟩ := Pu_iff.1 hh; exact Pu_iff.2 ⟨v, h1, h _ _ h2⟩
theorem Rd.mono {P : Program} {s : Sem Value} {K K' : Value → World → Prop} {w : World} (h : ∀ v w, K v w → K' v w) (hh : Rd P s K w) : Rd P s K' w := by
  obtain ⟨v, h1, h2⟩ := Rd_iff.1 hh; exact Rd_iff.2 ⟨v, h1, h _ _ h2⟩
theorem Rr.mono {P : Program} {s : Sem Value} {K K' : Value → World → Prop} {w : World} (h : ∀ v w, K v w → K' v w) (hh : Rr P s K w) : Rr P s K' w := by
  obtain ⟨v, w', h1, h2⟩ := Rr_iff.1 hh; exact Rr_iff.2 ⟨v, w', h1, h _ _ h2⟩
theorem Uu.mono {P : Program} {s : Sem Unit} {K K' : Value → World → Prop} {w : World} (h : ∀ v w, K v w → K' v w) (hh : Uu P s K w) : Uu P s K' w := by
  obtain ⟨w', h1, h2⟩ := Uu_iff.1 hh; exact Uu_iff.2 ⟨w', h1, h _ _ h2⟩

theorem opE_mono {P : Program} {A : Ann} {o : Op} {ty : TypeId} {e : Env} {K K' : Value → World → Prop} {w : World} (h : ∀ v w, K v w → K' v w)
    (hh : opE P A o ty e K w) : opE P A o ty e K' w := by
  unfold opE at *
  split at hh <;> (try simp only at *) <;> first
    | exact h _ _ hh
    | exact Pu.mono h hh
    | exact Rd.mono h hh
    | exact Rr.mono h hh
    | exact Uu.mono h hh
    | exact nextK_mono h hh
    | exact hh.elim
    | (split at hh <;> first | exact Pu.mono h hh | exact Rd.mono h hh | exact Rr.mono h hh)
    | (rename_i op _ _ _ _; cases hb : isEq op <;> rw [hb] at hh <;> first | exact Pu.mono h hh | exact Rd.mono h hh)
theorem stepO_mono {P : Program} {A : Ann} {ops : Array Oper} {o : Oper} {e : Env} {K K' : Value → World → Prop} {w : World} (h : ∀ v w, K v w → K' v w)
    (hh : stepO P A ops o K e w) : stepO P A ops o K' e w := by
  unfold stepO at *
  split at hh
  · exact opE_mono h hh
  · unfold Gd at *
    split at hh
    · rename_i b _
      cases hb : (b == _)
      · rw [hb] at hh; exact h _ _ hh
      · rw [hb] at hh; exact opE_mono h hh
    · exact h _ _ hh
    · exact hh.elim

/-! ### 5. Acts and environments -/
structure Rep (nt : Nat) (a : Act) (e : Env) : Prop where
  size : a.tmps.size = nt
  val : ∀ t, a.tmps.getD t undef = e t
theorem Rep.put {nt : Nat} {a : Act} {e : Env} (h : Rep nt a e) (d : Option Nat) (hd : ∀ t, d = some t → t < nt) (v : Value) : Rep nt (a.put d v) (putE e d v) := by
  cases d with
  | none => exact h
  | some d =>
    have hlt := hd d rfl
    refine ⟨by simp [Act.put, h.size], fun t => ?_⟩
    simp only [Act.put, putE]
    by_cases ht : t = d
    · subst ht; rw [upd_same]; simp [h.size, hlt]
    · rw [upd_ne _ _ ht, ← h.val t]; simp [Array.getElem?_setIfInBounds_ne (Ne.symm ht)]
theorem Rep.eval {nt : Nat} {a : Act} {e : Env} (h : Rep nt a e) : a.eval = ev e := by
  funext x
  cases x with
  | tmp t => exact h.val t
  | _ => rfl
theorem Rep.wanted {nt : Nat} {a : Act} {e : Env} (h : Rep nt a e) (ops : Array Oper) (o : Oper) (g : Nat) (want b : Bool) (hg : o.guard = some (g, want)) (hv : guardV ops e g = .bool b)
    (hlt : ∀ t, dstOf ops g = some t → t < nt) : Region.wanted o (yielded ops a.tmps) = (b == want) := by
  unfold Region.wanted
  rw [hg]
  simp only []
  unfold yielded guardV dstOf at *
  cases hd : (ops[g]?).bind (·.dst) with
  | none => rw [hd] at hv; simp [undef] at hv
  | some t =>
    rw [hd] at hv
    have h1 := hlt t hd
    have h2 := h.val t
    replace hv : e t = .bool b := hv
    rw [hv] at h2
    have h3 : a.tmps[t]? = some (.bool b) := by
      have hs : t < a.tmps.size := by rw [h.size]; exact h1
      simp [hs] at h2 ⊢; exact h2
    simp [h3]

theorem Rep.wantedN {nt : Nat} {a : Act} {e : Env} (h : Rep nt a e) (ops : Array Oper) (o : Oper) (g : Nat) (want : Bool) (x : Array Value) (hg : o.guard = some (g, want)) (hv : guardV ops e g = .tuple x) :
    Region.wanted o (yielded ops a.tmps) = false := by
  unfold Region.wanted
  rw [hg]
  simp only []
  unfold yielded guardV dstOf at *
  cases hd : (ops[g]?).bind (·.dst) with
  | none => simp
  | some t =>
    rw [hd] at hv
    have h2 := h.val t
    replace hv : e t = .tuple x := hv
    rw [hv] at h2
    simp only [Option.bind_some]
    cases ht : a.tmps[t]? with
    | none => simp
    | some v =>
      have : v = .tuple x := by simpa [ht] using h2
      subst this
      simp

/-- Fences that ask nothing. -/
structure Wide (F : Fence) : Prop where
  fn : ∀ f, F.fn f
  depth : F.depth = none
  same : ∀ P m, Machine.fenced P F m = Machine.fenced P Fence.wide m
theorem Wide.wide : Wide Fence.wide := ⟨fun _ => trivial, rfl, fun _ _ => rfl⟩
theorem Wide.inRound (l : Nat) : Wide (Fence.wide.inRound l) := ⟨fun _ => trivial, rfl, fun _ _ => rfl⟩

theorem Wide.calls {F : Fence} (hF : Wide F) {n : Nat} {P : Program} {f : FuncId} {args : Array Value} {w : World} {R : Ending → World → Prop} (h : Calls P f args w R) : CallsIn F n P f args w R := by
  have h2 := callsIn_wide (n := n) |>.2 h
  refine ⟨hF.fn f, fun cs _ => ?_⟩
  obtain ⟨e, w', fr, r, s, x⟩ := h2.2 cs (room_wide _)
  refine ⟨e, w', fr, r, ?_, x⟩
  cases e <;> first
    | exact StepsIn.mono (fun m hm => by rw [hF.same]; exact hm) s
    | exact s
theorem Wide.round {F : Fence} (hF : Wide F) {n m : Nat} {P : Program} {l : Nat} {f : FuncId} {tmps : Array Value} {assign body : Code} {w : World} {R : Ending → World → Prop}
    (h : RoundIn Fence.wide m P l f tmps assign body w R) : RoundIn F n P l f tmps assign body w R := by
  refine ⟨hF.fn f, fun c cs _ => ?_⟩
  obtain ⟨e, w', r, s⟩ := h.2 c cs (room_wide _)
  refine ⟨e, w', r, ?_⟩
  cases e <;> first
    | exact StepsIn.mono (fun m hm => by rw [hF.same]; exact hm) s
    | exact s
theorem nextK_upon {F : Fence} (hF : Wide F) {n : Nat} {P : Program} {o : Oper} {a : Act} {K : Value → World → Prop} {next : Act → World → Prop} {Q : Exit → Act → World → Prop} {r : Result Next}
    (h : ∀ v w, K v w → next (a.put o.dst v) w) (hh : nextK P K r) : o.uponIn F n P a next Q r := by
  unfold nextK at hh
  split at hh
  · exact h _ _ hh
  · exact h _ _ hh
  · refine ⟨fun hd => (by rw [hF.depth] at hd; cases hd), ?_⟩
    refine CallsIn.mono (hF.calls hh) fun e w'' he => ?_
    cases e <;> first | exact h _ _ he | exact he.elim
  · refine ⟨fun hd => (by rw [hF.depth] at hd; cases hd), ?_⟩
    refine RoundIn.mono (hF.round hh) fun e w'' he => ?_
    cases e <;> first | exact h _ _ he | exact he.elim
  · exact hh.elim

/-- The operations that opE knows are no 'defer', no 'select'. -/
def known (o : Op) : Bool :=
  match o with
  | .defer _ | .select .. | .go _ | .send .. | .recv .. => false
  | _ => true
theorem known_of_opE {P : Program} {A : Ann} {o : Op} {ty : TypeId} {e : Env} {K : Value → World → Prop} {w : World} (h : opE P A o ty e K w) : known o = true := by
  cases o <;> first | rfl | (simp [opE] at h)

theorem opE_wpIn {F : Fence} (hF : Wide F) {n nt : Nat} {P : Program} {A : Ann} {o : Oper} {a : Act} {e : Env} {w : World} {K : Value → World → Prop} {next : Act → World → Prop} {Q : Exit → Act → World → Prop}
    (hr : Rep nt a e) (h : ∀ v w, K v w → next (a.put o.dst v) w) (hh : opE P A o.op o.type e K w) : o.wpIn F n P a w next Q := by
  refine ⟨fun f _ => hF.fn f, ?_⟩
  have hk := known_of_opE hh
  rw [Oper.semAt_eq _ _ _ (fun c hc => by rw [hc] at hk; simp [known] at hk), hr.eval]
  exact nextK_upon hF h (opE_next hh)

def dstsOk (nt : Nat) (ops : Array Oper) : Bool := ops.toList.all fun o => match o.dst with | some d => Nat.blt d nt | none => true
theorem dstsOk_lt {nt : Nat} {ops : Array Oper} (h : dstsOk nt ops = true) {o : Oper} (ho : o ∈ ops.toList) : ∀ t, o.dst = some t → t < nt := by
  intro t ht
  have := List.all_eq_true.1 h o ho
  rw [ht] at this
  simpa [Nat.blt_eq] using this
theorem dstsOk_of {nt : Nat} {ops : Array Oper} (h : dstsOk nt ops = true) (g : Nat) : ∀ t, dstOf ops g = some t → t < nt := by
  intro t ht
  unfold dstOf at ht
  cases ho : ops[g]? with
  | none => rw [ho] at ht; cases ht
  | some o => rw [ho] at ht; exact dstsOk_lt h (Array.mem_toList_iff.2 (Array.mem_of_getElem? ho)) t ht

theorem stepO_wpOp {F : Fence} (hF : Wide F) {n nt : Nat} {P : Program} {A : Ann} {ops : Array Oper} (hd : dstsOk nt ops = true) {j : Nat} {o : Oper} (ho : ops[j]? = some o) {a : Act} {e : Env} {w : World}
    {K : Value → World → Prop} {next : Act → World → Prop} {Q : Exit → Act → World → Prop} (hr : Rep nt a e) (h : ∀ v w, K v w → next (a.put o.dst v) w) (hh : stepO P A ops o K e w) :
    wpOpIn F n P ops Q j next a w := by
  unfold wpOpIn
  rw [ho]
  simp only []
  unfold stepO at hh
  cases hg : o.guard with
  | none =>
    rw [hg] at hh
    have : Region.wanted o (yielded ops a.tmps) = true := by simp [Region.wanted, hg]
    rw [if_pos this]
    exact opE_wpIn hF hr h hh
  | some gw =>
    obtain ⟨g, want⟩ := gw
    rw [hg] at hh
    simp only [Gd] at hh
    cases hv : guardV ops e g with
    | bool b =>
      rw [hv] at hh
      simp only [] at hh
      have hw := hr.wanted ops o g want b hg hv (dstsOk_of hd g)
      rw [hw]
      cases hb : (b == want)
      · rw [hb] at hh
        simp only [Bool.false_eq_true, if_false]
        exact ⟨fun f _ => hF.fn f, h _ _ hh⟩
      · rw [hb] at hh
        simp only [if_true]
        exact opE_wpIn hF hr h hh
    | tuple x =>
      rw [hv] at hh
      simp only [] at hh
      rw [hr.wantedN ops o g want x hg hv]
      simp only [Bool.false_eq_true, if_false]
      exact ⟨fun f _ => hF.fn f, h _ _ hh⟩
    | _ => rw [hv] at hh; exact hh.elim

theorem runE_wpOps {F : Fence} (hF : Wide F) {n nt : Nat} {P : Program} {A : Ann} {ops : Array Oper} (hd : dstsOk nt ops = true) {Q : Exit → Act → World → Prop} {K : Env → World → Prop} {ds : List Deferred}
    (hK : ∀ a e w, Rep nt a e → a.defers = ds → K e w → Q .normal a w) : ∀ (os : List Oper) (k : Nat) (_ : ∀ j, os[j]? = ops[k + j]?) (a : Act) (e : Env) (w : World), Rep nt a e → a.defers = ds → runE P A ops K os e w →
    wpOpsIn F n P ops Q (List.range' k os.length) a w
  | [], k, hl, a, e, w, hr, hds, h => hK a e w hr hds h
  | o :: os, k, hl, a, e, w, hr, hds, h => by
    have h0 : ops[k]? = some o := by simpa using (hl 0).symm
    rw [List.length_cons, List.range'_succ, wpOpsIn_cons]
    have hmem : o ∈ ops.toList := Array.mem_toList_iff.2 (Array.mem_of_getElem? h0)
    refine stepO_wpOp hF hd h0 hr (fun v w' hv => ?_) h
    refine runE_wpOps hF hd hK os (k + 1) (fun j => ?_) _ _ _ (hr.put o.dst (dstsOk_lt hd hmem) v) (by cases ho : o.dst <;> simp [Act.put, hds]) hv
    have := hl (j + 1)
    simpa [Nat.add_assoc, Nat.add_comm 1 j] using this
theorem runE_region {F : Fence} (hF : Wide F) {n nt : Nat} {P : Program} {A : Ann} {id : Nat} {ops : Array Oper} (hd : dstsOk nt ops = true) {Q : Exit → Act → World → Prop} {K : Env → World → Prop} {ds : List Deferred}
    (hK : ∀ a e w, Rep nt a e → a.defers = ds → K e w → Q .normal a w) {a : Act} {e : Env} {w : World} (hr : Rep nt a e) (hds : a.defers = ds) (h : runE P A ops K ops.toList e w) :
    (Code.region id ops false).wpIn F n P Q a w := by
  refine wpIn_region ?_
  have := runE_wpOps (F := F) (n := n) hF hd hK ops.toList 0 (by simp) a e w hr hds h
  rwa [← List.range_eq_range', Array.length_toList] at this
end Go.Hx
