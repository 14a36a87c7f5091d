/-
  ENGINE, part 5: code; its soundness; a function's contract out of its body.
-/
import Derived.Test.YtflndenagilnmaaEng4
import Derived.Laws.Sem
set_option linter.unusedVariables false
set_option linter.unusedSimpArgs false
namespace Go.Hx
open Go

/-! ### 11. Code -/
abbrev Post := Exit → Env → List Nat → World → Prop
def vec (l : List Value) : Nat → Value := fun i => l.getD i undef
def look (u : Nat → Value) (i : Nat) (d : Value) : List Nat → Nat → Value
  | [], _ => d
  | m :: ms, k => cond (Nat.beq i m) (u k) (look u i d ms (k + 1))
def mergeE (mods : List Nat) (asg : Nat) (u junk e : Env) : Env := fun i => look u i (cond (asg.testBit i) (junk i) (e i)) mods 0
def asgO (ops : Array Oper) : List Nat := ops.toList.filterMap (·.dst)
def assigned : Code → List Nat
  | .region _ ops _ => asgO ops
  | .seq a b => assigned a ++ assigned b
  | .cond _ a b => assigned a ++ assigned b
  | .block _ c => assigned c
  | .loop c => assigned c
  | _ => []
def maskC : Code → Nat
  | .region _ ops _ => maskL (asgO ops)
  | .seq a b => maskC a ||| maskC b
  | .cond _ a b => maskC a ||| maskC b
  | .block _ c => maskC c
  | .loop c => maskC c
  | _ => 0
def firstId : Code → Nat
  | .region i _ _ => i
  | .seq a _ => firstId a
  | .block _ c => firstId c
  | .loop c => firstId c + 100000
  | .cond _ a _ => firstId a
  | _ => 0
def iteE (v : Value) (a b : Prop) : Prop :=
  match v with
  | .bool t => cond t a b
  | _ => False
def thenE (next : Env → List Nat → World → Prop) (Q : Post) : Post
  | .normal, e, ds, w => next e ds w
  | ex, e, ds, w => Q ex e ds w
def blockE (id : Nat) (Q : Post) : Post
  | .exit j, e, ds, w => cond (Nat.beq j id) (Q .normal e ds w) (Q (.exit j) e ds w)
  | ex, e, ds, w => Q ex e ds w
abbrev Inv := (Nat → Value) → List Nat → World → Prop
def loopH (v0 : Nat → Value) (ds : List Nat) (B : (u junk : Nat → Value) → Inv → List Nat → World → Prop) (w : World) : Prop :=
  ∃ (I : Inv) (μ : (Nat → Value) → World → Nat), I v0 ds w ∧
    ∀ (u junk : Nat → Value) (ds : List Nat) (w : World), I u ds w → B u junk (fun v ds' w' => I v ds' w' ∧ μ v w' < μ u w) ds w
def loopE (mods : List Nat) (asg : Nat) (body : Post → Env → List Nat → World → Prop) (Q : Post) (e : Env) (ds : List Nat) (w : World) : Prop :=
  loopH (vec (mods.map e)) ds (fun u junk nx ds w => body (thenE (fun e' ds' w' => nx (vec (mods.map e')) ds' w') Q) (mergeE mods asg u junk e) ds w) w

def drw (K : World → Prop) (w : World) : Prop := K w.drew
def lookC (l : List (Nat × Nat × Nat)) (s d : Nat) : Nat :=
  match l with
  | [] => 0
  | (a, b, k) :: r => cond (Nat.beq a s && Nat.beq b d) k (lookC r s d)
def lookL (l : List (Nat × List Nat)) (i : Nat) : List Nat :=
  match l with
  | [] => []
  | (a, ms) :: r => cond (Nat.beq a i) ms (lookL r i)
def bodyOf (fn : Func) : Code := match fn.body with | some c => c | none => .skip

def wpE (P : Program) (A : Ann) : Code → Post → Env → List Nat → World → Prop
  | .skip, Q, e, ds, w => Q .normal e ds w
  | .region _ ops draw, Q, e, ds, w =>
    cond draw (cond (okDraw A ops) (drawE P A ops (fun e w => Q .normal e ds w) ops.size 0 [] e w.drew) False)
      (runE P A ops (fun e w => Q .normal e ds w) ops.toList e w)
  | .seq x y, Q, e, ds, w => wpE P A x (thenE (wpE P A y Q) Q) e ds w
  | .cond c x y, Q, e, ds, w => iteE (ev e c) (wpE P A x Q e ds w) (wpE P A y Q e ds w)
  | .block id c, Q, e, ds, w => wpE P A c (blockE id Q) e ds w
  | .loop c, Q, e, ds, w => loopE (A.loop (firstId c)) (maskC c) (wpE P A c) Q e ds w
  | .exit id, Q, e, ds, w => Q (.exit id) e ds w
  | .ret, Q, e, ds, w => Q .ret e ds w
  | _, _, _, _, _ => False

def dstsC (nt : Nat) : Code → Bool
  | .region _ ops _ => dstsOk nt ops
  | .seq a b => dstsC nt a && dstsC nt b
  | .cond _ a b => dstsC nt a && dstsC nt b
  | .block _ c => dstsC nt c
  | .loop c => dstsC nt c
  | _ => true

def mkD (D : Nat) : Deferred := { target := .collected D, args := #[] }
/-- The engine's post, as the kit's. -/
def postOf (nt : Nat) (Q : Post) (asg : List Nat) (e0 : Env) : Exit → Act → World → Prop := fun ex a w =>
  ∃ e ds, Rep nt a e ∧ a.defers = ds.map mkD ∧ (∀ i, i ∉ asg → e i = e0 i) ∧ Q ex e ds w

theorem look_spec (u : Nat → Value) (i : Nat) (d : Value) : ∀ (ms : List Nat) (k : Nat), (i ∉ ms ∧ look u i d ms k = d) ∨ ∃ j, ms[j]? = some i ∧ look u i d ms k = u (k + j)
  | [], k => .inl ⟨by simp, rfl⟩
  | m :: ms, k => by
    by_cases h : i = m
    · subst h
      exact .inr ⟨0, rfl, by simp [look, Nat.beq_refl]⟩
    · have hb := beq_ne h
      rcases look_spec u i d ms (k + 1) with ⟨h1, h2⟩ | ⟨j, h1, h2⟩
      · exact .inl ⟨by simp [h, h1], by simp only [look, hb, cond_false]; exact h2⟩
      · exact .inr ⟨j + 1, by simpa using h1, by simp only [look, hb, cond_false]; rw [h2]; congr 1; omega⟩
theorem maskC_spec {i : Nat} : ∀ {c : Code}, (maskC c).testBit i = true ↔ i ∈ assigned c := by
  intro c
  induction c with
  | region _ ops _ => exact maskL_spec
  | seq a b iha ihb => simp [maskC, assigned, Nat.testBit_or, iha, ihb]
  | cond _ a b iha ihb => simp [maskC, assigned, Nat.testBit_or, iha, ihb]
  | block _ c ih => exact ih
  | loop c ih => exact ih
  | _ => simp [maskC, assigned]
theorem mergeE_self (mods : List Nat) (c : Code) (e e0 : Env) (h : ∀ i, i ∉ assigned c → e i = e0 i) : mergeE mods (maskC c) (vec (mods.map e)) e e0 = e := by
  funext i
  unfold mergeE
  rcases look_spec (vec (mods.map e)) i (cond ((maskC c).testBit i) (e i) (e0 i)) mods 0 with ⟨h1, h2⟩ | ⟨j, h1, h2⟩
  · rw [h2]
    cases ha : (maskC c).testBit i with
    | true => rfl
    | false =>
      refine (h i fun hm => ?_).symm
      rw [maskC_spec.2 hm] at ha; cases ha
  · rw [h2]
    simp [vec, h1]
theorem asgO_mem {ops : Array Oper} {o : Oper} (ho : o ∈ ops.toList) {d : Nat} (hd : o.dst = some d) : d ∈ asgO ops := List.mem_filterMap.2 ⟨o, ho, hd⟩

section
variable {P : Program} {A : Ann}
theorem runE_frame {ops : Array Oper} {K : Env → World → Prop} : ∀ (os : List Oper) (_ : ∀ o ∈ os, o ∈ ops.toList) (e0 e : Env) (w : World), (∀ i, i ∉ asgO ops → e i = e0 i) → runE P A ops K os e w →
    runE P A ops (fun e w => (∀ i, i ∉ asgO ops → e i = e0 i) ∧ K e w) os e w
  | [], _, e0, e, w, he, h => ⟨he, h⟩
  | o :: os, hm, e0, e, w, he, h => stepO_mono (fun v w' hv => runE_frame os (fun o ho => hm o (List.mem_cons_of_mem _ ho)) e0 _ w' (fun i hi => by
      cases hd : o.dst with
      | none => exact he i hi
      | some d =>
        refine (upd_ne _ _ fun hid => ?_).trans (he i hi)
        subst hid
        exact hi (asgO_mem (hm o List.mem_cons_self) hd)) hv) h
theorem stepJ_mono {ops : Array Oper} {j : Nat} {e : Env} {K K' : Value → World → Prop} {w : World} (h : ∀ v w, K v w → K' v w) (hh : stepJ P A ops j K e w) : stepJ P A ops j K' e w := by
  unfold stepJ at *
  split at hh
  · exact stepO_mono h hh
  · exact hh.elim
theorem dstOf_asg {ops : Array Oper} {j d : Nat} (h : dstOf ops j = some d) : d ∈ asgO ops := by
  unfold dstOf at h
  cases ho : ops[j]? with
  | none => rw [ho] at h; cases h
  | some o => rw [ho] at h; exact asgO_mem (Array.mem_toList_iff.2 (Array.mem_of_getElem? ho)) h
theorem putE_frame {ops : Array Oper} {e e0 : Env} (he : ∀ i, i ∉ asgO ops → e i = e0 i) (j : Nat) (v : Value) : ∀ i, i ∉ asgO ops → putE e (dstOf ops j) v i = e0 i := fun i hi => by
  cases hd : dstOf ops j with
  | none => exact he i hi
  | some d =>
    refine (upd_ne _ _ fun hid => ?_).trans (he i hi)
    subst hid
    exact hi (dstOf_asg hd)
theorem allL_map_mono {α : Type} {p q : α → Prop} (h : ∀ x, p x → q x) : ∀ {l : List α}, allL (l.map p) → allL (l.map q)
  | [], _ => trivial
  | [x], hh => h x hh
  | x :: y :: l, hh => ⟨h x hh.1, allL_map_mono (l := y :: l) h hh.2⟩
theorem andL_mono {l : List Prop} {p q : Prop} (h : p → q) : andL l p → andL l q := by
  induction l with
  | nil => exact h
  | cons x xs ih => exact fun hh => ⟨hh.1, ih hh.2⟩
theorem drawE_frame {ops : Array Oper} {K : Env → World → Prop} : ∀ (f L : Nat) (live : List Nat) (e0 e : Env) (w : World), (∀ i, i ∉ asgO ops → e i = e0 i) → drawE P A ops K f L live e w →
    drawE P A ops (fun e w => (∀ i, i ∉ asgO ops → e i = e0 i) ∧ K e w) f L live e w
  | 0, L, live, e0, e, w, he, h => by
    simp only [drawE] at *
    cases hre : (readyM ops L).isEmpty with
    | false => rw [hre] at h; exact h
    | true => rw [hre] at h; exact ⟨he, h⟩
  | f + 1, L, live, e0, e, w, he, h => by
    simp only [drawE] at *
    split at h
    · exact stepJ_mono (fun v w' hv => drawE_frame f _ _ e0 _ w' (putE_frame he _ v) hv) h
    · split at h
      · exact ⟨he, h⟩
      · exact allL_map_mono (fun j hj => stepJ_mono (fun v w' hv => andL_mono (fun hd => drawE_frame f _ _ e0 _ w' (putE_frame he _ v) hd) hv) hj) h

theorem wpE_sound {F : Fence} (hF : Wide F) (hm : P.follows .mixedOrders = true) {n nt : Nat} : ∀ (c : Code) (Q : Post) (e : Env) (ds : List Nat) (w : World) (a : Act), dstsC nt c = true → Rep nt a e → a.defers = ds.map mkD →
    wpE P A c Q e ds w → c.wpIn F n P (postOf nt Q (assigned c) e) a w := by
  intro c
  induction c with
  | skip => intro Q e ds w a hd hr hds h; exact wpIn_skip ⟨e, ds, hr, hds, fun _ _ => rfl, h⟩
  | region id ops draw =>
    intro Q e ds w a hd hr hds h
    simp only [wpE] at h
    have hK : ∀ a' e' w', Rep nt a' e' → a'.defers = ds.map mkD → ((∀ i, i ∉ asgO ops → e' i = e i) ∧ Q .normal e' ds w') → postOf nt Q (assigned (.region id ops draw)) e .normal a' w' :=
      fun a' e' w' hr' hds' hk => ⟨e', ds, hr', hds', hk.1, hk.2⟩
    cases draw with
    | false => exact runE_region hF hd hK hr hds (runE_frame ops.toList (fun o ho => ho) e e w (fun _ _ => rfl) h)
    | true =>
      simp only [cond_true] at h
      cases hok : okDraw A ops with
      | false => rw [hok] at h; exact h.elim
      | true =>
        rw [hok] at h
        exact drawE_region hF hd hok hm hK hr hds (drawE_frame ops.size 0 [] e e _ (fun _ _ => rfl) h)
  | seq x y ihx ihy =>
    intro Q e ds w a hd hr hds h
    simp only [dstsC, Bool.and_eq_true] at hd
    refine wpIn_seq (wpIn_mono (ihx _ e ds w a hd.1 hr hds h) fun ex a' w' hq => ?_)
    obtain ⟨e', ds', hr', hds', hfr, hq⟩ := hq
    cases ex with
    | normal =>
      refine wpIn_mono (ihy Q e' ds' w' a' hd.2 hr' hds' hq) fun ex a2 w2 hq2 => ?_
      obtain ⟨e2, ds2, hr2, hds2, hfr2, hq2⟩ := hq2
      exact ⟨e2, ds2, hr2, hds2, fun i hi => (hfr2 i fun h => hi (List.mem_append_right _ h)).trans (hfr i fun h => hi (List.mem_append_left _ h)), hq2⟩
    | _ => exact ⟨e', ds', hr', hds', fun i hi => hfr i fun h => hi (List.mem_append_left _ h), hq⟩
  | cond c x y ihx ihy =>
    intro Q e ds w a hd hr hds h
    simp only [dstsC, Bool.and_eq_true] at hd
    simp only [wpE, iteE] at h
    have hev : a.eval c = ev e c := by rw [hr.eval]
    cases hv : ev e c with
    | bool t =>
      rw [hv] at h
      refine wpIn_cond (t := t) (by rw [hev, hv]) ?_
      cases t with
      | true => exact wpIn_mono (ihx Q e ds w a hd.1 hr hds h) fun ex a2 w2 ⟨e2, ds2, h1, h2, h3, h4⟩ => ⟨e2, ds2, h1, h2, fun i hi => h3 i fun h => hi (List.mem_append_left _ h), h4⟩
      | false => exact wpIn_mono (ihy Q e ds w a hd.2 hr hds h) fun ex a2 w2 ⟨e2, ds2, h1, h2, h3, h4⟩ => ⟨e2, ds2, h1, h2, fun i hi => h3 i fun h => hi (List.mem_append_right _ h), h4⟩
    | _ => rw [hv] at h; exact h.elim
  | block id c ih =>
    intro Q e ds w a hd hr hds h
    refine wpIn_block (wpIn_mono (ih _ e ds w a hd hr hds h) fun ex a2 w2 hq => ?_)
    obtain ⟨e2, ds2, h1, h2, h3, h4⟩ := hq
    cases ex with
    | exit j =>
      simp only [Exit.inBlock, blockE] at *
      by_cases hj : j = id
      · subst hj
        simp only [Nat.beq_refl, cond_true] at h4
        rw [if_pos rfl]
        exact ⟨e2, ds2, h1, h2, h3, h4⟩
      · simp only [beq_ne hj, cond_false] at h4
        rw [if_neg hj]
        exact ⟨e2, ds2, h1, h2, h3, h4⟩
    | _ => exact ⟨e2, ds2, h1, h2, h3, h4⟩
  | loop c ih =>
    intro Q e ds w a hd hr hds h
    obtain ⟨I, μ, h0, hround⟩ := h
    let md := A.loop (firstId c)
    let envOf : Act → Env := fun a t => a.tmps.getD t undef
    have hrep : ∀ {a' : Act} {e' : Env}, Rep nt a' e' → envOf a' = e' := fun hr' => funext hr'.val
    refine wpIn_loop (fun a' w' => ∃ ds', Rep nt a' (envOf a') ∧ a'.defers = ds'.map mkD ∧ (∀ i, i ∉ assigned c → envOf a' i = e i) ∧ I (vec (md.map (envOf a'))) ds' w')
      (fun a' w' => μ (vec (md.map (envOf a'))) w') ⟨ds, by rw [hrep hr]; exact hr, hds, by rw [hrep hr]; exact fun _ _ => rfl, by rw [hrep hr]; exact h0⟩ ?_
    intro a' w' hI
    obtain ⟨ds', hr', hds', hfr, hi⟩ := hI
    have hb := hround (vec (md.map (envOf a'))) (envOf a') ds' w' hi
    dsimp only at hb
    rw [mergeE_self (A.loop (firstId c)) c (envOf a') e hfr] at hb
    refine wpIn_mono (ih _ _ ds' w' a' hd hr' hds' hb) fun ex a2 w2 hq => ?_
    obtain ⟨e2, ds2, h1, h2, h3, h4⟩ := hq
    have hfr2 : ∀ i, i ∉ assigned c → e2 i = e i := fun i hi => (h3 i hi).trans (hfr i hi)
    cases ex with
    | normal =>
      obtain ⟨h5, h6⟩ := h4
      have he2 := hrep h1
      exact ⟨⟨ds2, by rw [he2]; exact h1, h2, by rw [he2]; exact hfr2, by rw [he2]; exact h5⟩, by rw [he2]; exact h6⟩
    | _ => exact ⟨e2, ds2, h1, h2, hfr2, h4⟩
  | exit id => intro Q e ds w a hd hr hds h; exact wpIn_exit ⟨e, ds, hr, hds, fun _ _ => rfl, h⟩
  | ret => intro Q e ds w a hd hr hds h; exact wpIn_ret ⟨e, ds, hr, hds, fun _ _ => rfl, h⟩
  | _ => intros; rename_i h; exact h.elim
end

/-! ### 12. A function -/
def resL (P : Program) : List ResultVar → Env → List Value → (List Value → World → Prop) → World → Prop
  | [], e, acc, K, w => K acc w
  | .tmp a :: r, e, acc, K, w => resL P r e (acc ++ [e a]) K w
  | .cell a t :: r, e, acc, K, w => Rd P (Instr.loadAt t (e a)) (fun x w => resL P r e (acc ++ [x]) K w) w
def tupV : List Value → Value
  | [v] => v
  | vs => .tuple ⟨vs⟩
def resE (P : Program) (rs : Array ResultVar) (e : Env) (K : Value → World → Prop) (w : World) : Prop := resL P rs.toList e [] (fun vs w => K (tupV vs) w) w
def retH (ds : List Nat) (p : Prop) : Prop :=
  match ds with
  | [] => p
  | _ => False
def retQ (P : Program) (rs : Array ResultVar) (K : Value → World → Prop) : Post
  | .ret, e, ds, w => retH ds (resE P rs e K w)
  | .normal, e, ds, w => retH ds (resE P rs e K w)
  | _, _, _, _ => False
def argE (args : List Value) : Env := vec args
def RetK (R : Value → World → Prop) : Ending → World → Prop := fun e w => ∃ v, e = .returned v ∧ R v w

theorem loadAt_inv {P : Program} {t : TypeId} {x v : Value} {w : World} (h : readOf P w (Instr.loadAt t x) = some v) : ∃ p, x = .pointer (some p) ∧ (loadVar t p).run P w = .ok v w := by
  have h1 := readOf_run h
  unfold Instr.loadAt at h1
  cases x with
  | pointer a =>
    cases a with
    | some a => exact ⟨a, rfl, by simpa [Instr.sureAddr, Sem.run_bind] using h1⟩
    | none => simp [Instr.sureAddr, stuck, Sem.run_bind, Sem.run] at h1
  | _ => simp [Instr.sureAddr, stuck, Sem.run_bind, Sem.run] at h1

def resOne (tmps : Array Value) : ResultVar → Sem Value
  | .tmp t => pure (tmps.getD t undef)
  | .cell a t => do loadVar t (← asAddr (tmps.getD a undef))
theorem results_one (fn : Func) (tmps : Array Value) : results fn tmps = (do
    let vs ← fn.results.mapM (resOne tmps)
    pure (if h : vs.size = 1 then vs[0] else .tuple vs)) := by
  unfold results
  congr 1
theorem resL_run {P : Program} {tmps : Array Value} {e : Env} {K : List Value → World → Prop} {w : World} (hv : ∀ t : Nat, tmps[t]?.getD undef = e t) : ∀ (rs : List ResultVar) (acc : List Value), resL P rs e acc K w →
    ∃ vs, (rs.mapM (resOne tmps)).run P w = .ok vs w ∧ K (acc ++ vs) w
  | [], acc, h => ⟨[], by simp [Sem.run_pure], by simpa [resL] using h⟩
  | .tmp a :: r, acc, h => by
    obtain ⟨vs, h1, h2⟩ := resL_run hv r _ h
    refine ⟨e a :: vs, ?_, by simpa using h2⟩
    rw [List.mapM_cons, Sem.run_bind]
    simp only [resOne, Array.getD_eq_getD_getElem?, hv, Sem.run_pure, Result.andThen_ok, Sem.run_bind]
    rw [h1]; rfl
  | .cell a t :: r, acc, h => by
    obtain ⟨v, hl, h⟩ := Rd_iff.1 h
    obtain ⟨p, hp, hl⟩ := loadAt_inv hl
    obtain ⟨vs, h1, h2⟩ := resL_run hv r _ h
    refine ⟨v :: vs, ?_, by simpa using h2⟩
    rw [List.mapM_cons, Sem.run_bind]
    simp only [resOne, Array.getD_eq_getD_getElem?, hv, hp, asAddr, Sem.run_pure, Result.andThen_ok, Sem.run_bind]
    rw [hl]
    simp only [Result.andThen_ok]
    rw [h1]; rfl
theorem resE_results {P : Program} {fn : Func} {nt : Nat} {a : Act} {e : Env} {K : Value → World → Prop} {w : World} (hr : Rep nt a e) (h : resE P fn.results e K w) :
    ∃ v, (results fn a.tmps).run P w = .ok v w ∧ K v w := by
  have hv : ∀ t : Nat, a.tmps[t]?.getD undef = e t := fun t => by simpa using hr.val t
  obtain ⟨vs, h1, h2⟩ := resL_run hv _ _ h
  refine ⟨tupV vs, ?_, by simpa using h2⟩
  rw [results_one, Sem.run_bind, Array.mapM_eq_mapM_toList]
  simp only [map_eq_pure_bind, Sem.run_bind, h1, Result.andThen_ok, Sem.run_pure]
  cases vs with
  | nil => rfl
  | cons x xs => cases xs <;> rfl

theorem calls_of_wpE {P : Program} {A : Ann} {f : FuncId} {fn : Func} {c : Code} {args : List Value} {w : World} {K : Value → World → Prop}
    (hf : P.funcs[f]? = some fn) (hb : fn.body = some c) (hm : P.follows .mixedOrders = true) (hd : dstsC fn.ntmps c = true) (ha : args.length ≤ fn.ntmps)
    (h : wpE P A c (retQ P fn.results K) (argE args) [] w) : Calls P f ⟨args⟩ w (RetK K) := by
  refine (callsIn_wide (n := 0)).1 (callsIn_of_wp (F := Fence.wide) hf hb trivial ?_)
  have hr : Rep fn.ntmps { tmps := (⟨args⟩ : Array Value) ++ Array.replicate (fn.ntmps - (⟨args⟩ : Array Value).size) undef, defers := [] } (argE args) := by
    refine ⟨by simp; omega, fun t => ?_⟩
    unfold argE vec
    by_cases ht : t < args.length
    · simp [ht, Array.getElem?_append]
    · simp [ht, Array.getElem?_append, Array.getElem?_replicate]
      split <;> simp
  refine wpIn_mono (wpE_sound Wide.wide hm c _ (argE args) [] w _ hd hr rfl h) fun ex a w' hq => ?_
  obtain ⟨e, ds, h1, h2, h3, h4⟩ := hq
  cases ex <;> simp only [retQ] at h4
  case normal =>
    cases ds with
    | nil => obtain ⟨v, h5, h6⟩ := resE_results h1 h4; exact ⟨h2, v, h5, v, rfl, h6⟩
    | cons => exact h4.elim
  case ret =>
    cases ds with
    | nil => obtain ⟨v, h5, h6⟩ := resE_results h1 h4; exact ⟨h2, v, h5, v, rfl, h6⟩
    | cons => exact h4.elim
end Go.Hx
