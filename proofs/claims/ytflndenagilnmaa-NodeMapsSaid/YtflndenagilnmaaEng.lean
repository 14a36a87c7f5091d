/-
  ENGINE. A walk of Go code as a predicate transformer over the model's own operations: definitions ('wpE'), and its soundness against 'Code.wpIn'. Own work; imports the kit alone.
-/
import Derived.RangeFuncLeaves
import Derived.OrdersIn
import Derived.KernelRfl
import Derived.Below
set_option linter.unusedVariables false
set_option linter.unusedSimpArgs false
namespace Go.Hx
open Go

/-! ### 1. Environments -/
abbrev Env := Nat → Value
def upd (e : Env) (d : Nat) (v : Value) : Env := fun i => bif Nat.beq i d then v else e i
def putE (e : Env) (d : Option Nat) (v : Value) : Env :=
  match d with
  | some d => upd e d v
  | none => e
def ev (e : Env) : Operand → Value
  | .tmp t => e t
  | .const v => v
  | .global g => .pointer (some ⟨g, 0, none⟩)
  | .func f => .func (.func f) #[] #[]

theorem upd_same (e : Env) (d : Nat) (v : Value) : upd e d v d = v := by simp [upd]
theorem upd_ne (e : Env) {d i : Nat} (v : Value) (h : i ≠ d) : upd e d v i = e i := by
  have : Nat.beq i d = false := by
    cases hb : Nat.beq i d
    · rfl
    · exact absurd (Nat.eq_of_beq_eq_true hb) h
  simp [upd, this]
theorem upd_comm (e : Env) {d d' : Nat} (v u : Value) (h : d ≠ d') : upd (upd e d v) d' u = upd (upd e d' u) d v := by
  funext i
  by_cases h1 : i = d
  · subst h1; rw [upd_ne _ _ h, upd_same, upd_same]
  · by_cases h2 : i = d'
    · subst h2; rw [upd_same, upd_ne _ _ h1, upd_same]
    · rw [upd_ne _ _ h2, upd_ne _ _ h1, upd_ne _ _ h1, upd_ne _ _ h2]

/-! ### 2. Primitives -/
def pureOf (P : Program) {α : Type} : Sem α → Option α
  | .pure a => some a
  | .program k => pureOf P (k P)
  | _ => none
theorem pureOf_run {P : Program} {α : Type} {v : α} : ∀ {s : Sem α}, pureOf P s = some v → ∀ w, s.run P w = .ok v w
  | .pure a, h, w => by simp only [pureOf, Option.some.injEq] at h; subst h; rfl
  | .program k, h, w => by simp only [pureOf] at h; exact pureOf_run (s := k P) h w

def readOf (P : Program) (w : World) {α : Type} : Sem α → Option α
  | .pure a => some a
  | .program k => readOf P w (k P)
  | .load _ a k => match w.cell? a with
    | some v => readOf P w (k v)
    | none => none
  | .shape r k => readOf P w (k (w.shape? r))
  | .frozen a k => readOf P w (k (w.frozen? a))
  | .getObj r k => match w.heap[r]? with
    | some (.cells ..) => none
    | some o => readOf P w (k o)
    | none => none
  | _ => none
theorem readOf_run {P : Program} {w : World} {α : Type} {v : α} : ∀ {s : Sem α}, readOf P w s = some v → s.run P w = .ok v w
  | .pure a, h => by simp only [readOf, Option.some.injEq] at h; subst h; rfl
  | .program k, h => by simp only [readOf] at h; exact readOf_run (s := k P) h
  | .load m a k, h => by
    simp only [readOf] at h
    cases hc : w.cell? a with
    | none => rw [hc] at h; cases h
    | some u => rw [hc] at h; simp only [Sem.run, hc]; exact readOf_run h
  | .shape r k, h => by simp only [readOf] at h; exact readOf_run (s := k _) h
  | .frozen a k, h => by simp only [readOf] at h; exact readOf_run (s := k _) h
  | .getObj r k, h => by
    simp only [readOf] at h
    cases ho : w.heap[r]? with
    | none => rw [ho] at h; cases h
    | some o =>
      rw [ho] at h
      cases o <;> first | (cases h; done) | (simp only [Sem.run, ho]; exact readOf_run h)

def Pu (P : Program) (s : Sem Value) (K : Value → World → Prop) (w : World) : Prop :=
  match pureOf P s with
  | some v => K v w
  | none => False
def Rd (P : Program) (s : Sem Value) (K : Value → World → Prop) (w : World) : Prop :=
  match readOf P w s with
  | some v => K v w
  | none => False
def Rr (P : Program) (s : Sem Value) (K : Value → World → Prop) (w : World) : Prop :=
  match s.run P w with
  | .ok v w' => K v w'
  | .halt _ _ => False
def Uu (P : Program) (s : Sem Unit) (K : Value → World → Prop) (w : World) : Prop :=
  match s.run P w with
  | .ok _ w' => K undef w'
  | .halt _ _ => False
def nextK (P : Program) (K : Value → World → Prop) : Result Next → Prop
  | .ok (.value v) w' => K v w'
  | .ok .skip w' => K undef w'
  | .ok (.enter f args) w' => Calls P f args w' fun
    | .returned v, w'' => K v w''
    | _, _ => False
  | .ok (.round l f tmps assign body) w' => RoundIn Fence.wide 0 P l f tmps assign body w' fun
    | .returned v, w'' => K v w''
    | _, _ => False
  | _ => False
/-- A call of a known function; of a function value; through an interface. -/
def Cf (P : Program) (f : FuncId) (args : Array Value) (K : Value → World → Prop) (w : World) : Prop := nextK P K ((callFunc f args).run P w)
def Cv (P : Program) (fv : Value) (args : Array Value) (K : Value → World → Prop) (w : World) : Prop :=
  nextK P K ((do let d ← Deferred.ofValue fv args; invoke d.target d.args : Sem Next).run P w)
def Ci (P : Program) (recv : Value) (m : String) (args : Array Value) (K : Value → World → Prop) (w : World) : Prop :=
  nextK P K ((invoke (.fn (.method m) #[]) (#[recv] ++ args)).run P w)

def pickS (c a b : Value) : Sem Value := do pure (if ← asBool c then a else b)
def nilS (x : Value) : Sem Value :=
  match x with
  | .pointer (some a) => pure (.pointer (some a))
  | .func (.func f) a b => pure (.func (.func f) a b)
  | .func (.yield l) a b => pure (.func (.yield l) a b)
  | .iface t v => pure (.iface t v)
  | _ => stuck "nilS"
def binS (op : BinOp) (t : TypeId) (xo yo : Operand) (x y : Value) : Sem Value := do
  eqGuard op t xo yo x y
  binOp op t x y
def isEq : BinOp → Bool
  | .eql | .neq => true
  | _ => false

/-- How a conversion is taken: 0 pure, 1 a read, 2 whatever. By types; any table is sound. -/
structure Ann where
  conv : TypeId → TypeId → Nat
  loop : Nat → List Nat

def opE (P : Program) (A : Ann) (o : Op) (ty : TypeId) (e : Env) (K : Value → World → Prop) (w : World) : Prop :=
  match o with
  | .move x => K (ev e x) w
  | .assign x => K (ev e x) w
  | .pick c a b => Pu P (pickS (ev e c) (ev e a) (ev e b)) K w
  | .nilCheck x => Pu P (nilS (ev e x)) K w
  | .binOp op t x y _ => cond (isEq op) (Rd P (binS op t x y (ev e x) (ev e y)) K w) (Pu P (binS op t x y (ev e x) (ev e y)) K w)
  | .unOp op _ x => Pu P (Op.unary op (ev e x)) K w
  | .convert s d x => match A.conv s d with
    | 0 => Pu P (convert s d (ev e x)) K w
    | 1 => Rd P (convert s d (ev e x)) K w
    | _ => Rr P (convert s d (ev e x)) K w
  | .alloc t => Rr P (Instr.alloc t true (.tuple #[])) K w
  | .box t x => Rr P (Instr.box t (ev e x)) K w
  | .build t ps => Pu P (Instr.build t ⟨ps.toList.map fun p => (p.1, ev e p.2)⟩) K w
  | .buildSlice t n ps => Rr P (Instr.buildSlice t n ⟨ps.toList.map fun p => (p.1, ev e p.2)⟩) K w
  | .load t a => Rd P (Instr.loadAt t (ev e a)) K w
  | .store t a x => Uu P (Instr.storeAt t (ev e a) (ev e x)) K w
  | .makeInterface t x => Pu P (Instr.makeInterface t (ev e x)) K w
  | .makeFunc fn a b => K (.func fn ⟨a.toList.map (ev e)⟩ ⟨b.toList.map (ev e)⟩) w
  | .makeMap t none => Rr P (Instr.makeMap t none) K w
  | .makeSlice t l c => Rr P (Instr.makeSlice t (ev e l) (ev e c)) K w
  | .slice t x lo hi mx => Pu P (Instr.sliceAt t (ev e x) (lo.map (ev e)) (hi.map (ev e)) (mx.map (ev e))) K w
  | .fieldAddr s x f => Pu P (Instr.fieldAt s (ev e x) f) K w
  | .field t x f => Pu P (Instr.field t (ev e x) f) K w
  | .indexAddr t x i => Pu P (Instr.indexAt t (ev e x) (ev e i)) K w
  | .index t x i => Pu P (Instr.index t (ev e x) (ev e i)) K w
  | .lookup t x i ok => Rd P (Instr.lookup t (ev e x) (ev e i) ok) K w
  | .mapUpdate t m k x => Uu P (Instr.mapUpdate t (ev e m) (ev e k) (ev e x)) K w
  | .extract t i => Pu P (Instr.extract (ev e t) i) K w
  | .call { callee := .value (.func f), args, .. } => Cf P f ⟨args.toList.map (ev e)⟩ K w
  | .call { callee := .value f, args, .. } => Cv P (ev e f) ⟨args.toList.map (ev e)⟩ K w
  | .call { callee := .invoke r m, args, .. } => Ci P (ev e r) m ⟨args.toList.map (ev e)⟩ K w
  | .call { callee := .builtin .append, args, argTypes } => Rr P (Builtin.append_ argTypes ty ⟨args.toList.map (ev e)⟩) K w
  | .call { callee := .builtin .copy, args, argTypes } => Rr P (Builtin.copy_ argTypes ty ⟨args.toList.map (ev e)⟩) K w
  | .call { callee := .builtin .clear, args, argTypes } => Rr P (Builtin.clear_ argTypes ty ⟨args.toList.map (ev e)⟩) K w
  | .call { callee := .builtin .delete, args, argTypes } => Rr P (Builtin.delete_ argTypes ty ⟨args.toList.map (ev e)⟩) K w
  | .call { callee := .builtin .len, args, argTypes } => Rd P (Builtin.len_ argTypes ty ⟨args.toList.map (ev e)⟩) K w
  | .call { callee := .builtin .cap, args, argTypes } => Pu P (Builtin.cap_ argTypes ty ⟨args.toList.map (ev e)⟩) K w
  | .call { callee := .builtin .min, args, argTypes } => Pu P (Builtin.min_ argTypes ty ⟨args.toList.map (ev e)⟩) K w
  | .call { callee := .builtin .max, args, argTypes } => Pu P (Builtin.max_ argTypes ty ⟨args.toList.map (ev e)⟩) K w
  | _ => False

/-! ### 3. One operation is sound -/
theorem Pu_iff {P : Program} {s : Sem Value} {K : Value → World → Prop} {w : World} : Pu P s K w ↔ ∃ v, pureOf P s = some v ∧ K v w := by
  unfold Pu; cases pureOf P s <;> simp
theorem Rd_iff {P : Program} {s : Sem Value} {K : Value → World → Prop} {w : World} : Rd P s K w ↔ ∃ v, readOf P w s = some v ∧ K v w := by
  unfold Rd; cases readOf P w s <;> simp
theorem Rr_iff {P : Program} {s : Sem Value} {K : Value → World → Prop} {w : World} : Rr P s K w ↔ ∃ v w', s.run P w = .ok v w' ∧ K v w' := by
  unfold Rr
  cases s.run P w with
  | ok a b => exact ⟨fun h => ⟨a, b, rfl, h⟩, fun ⟨v, w', h1, h2⟩ => by cases h1; exact h2⟩
  | halt a b => exact ⟨fun h => h.elim, fun ⟨v, w', h1, _⟩ => by cases h1⟩
theorem Uu_iff {P : Program} {s : Sem Unit} {K : Value → World → Prop} {w : World} : Uu P s K w ↔ ∃ w', s.run P w = .ok () w' ∧ K undef w' := by
  unfold Uu
  cases s.run P w with
  | ok a b => exact ⟨fun h => ⟨b, rfl, h⟩, fun ⟨w', h1, h2⟩ => by cases h1; exact h2⟩
  | halt a b => exact ⟨fun h => h.elim, fun ⟨w', h1, _⟩ => by cases h1⟩

theorem nextK_val {P : Program} {K : Value → World → Prop} {s : Sem Value} {v : Value} {w w' : World} (h : s.run P w = .ok v w') (hk : K v w') :
    nextK P K ((do pure (.value (← s)) : Sem Next).run P w) := by
  rw [Sem.run_bind, h]; exact hk
theorem Rr.next {P : Program} {s : Sem Value} {K : Value → World → Prop} {w : World} (h : Rr P s K w) : nextK P K ((do pure (.value (← s)) : Sem Next).run P w) := by
  obtain ⟨v, w', h1, h2⟩ := Rr_iff.1 h; exact nextK_val h1 h2
theorem Pu.next {P : Program} {s : Sem Value} {K : Value → World → Prop} {w : World} (h : Pu P s K w) : nextK P K ((do pure (.value (← s)) : Sem Next).run P w) := by
  obtain ⟨v, h1, h2⟩ := Pu_iff.1 h; exact nextK_val (pureOf_run h1 w) h2
theorem Rd.next {P : Program} {s : Sem Value} {K : Value → World → Prop} {w : World} (h : Rd P s K w) : nextK P K ((do pure (.value (← s)) : Sem Next).run P w) := by
  obtain ⟨v, h1, h2⟩ := Rd_iff.1 h; exact nextK_val (readOf_run h1) h2
theorem Uu.next {P : Program} {s : Sem Unit} {K : Value → World → Prop} {w : World} (h : Uu P s K w) : nextK P K ((do s; pure .skip : Sem Next).run P w) := by
  obtain ⟨w', h1, h2⟩ := Uu_iff.1 h; rw [Sem.run_bind, h1]; exact h2

theorem map_mk {α β : Type} (xs : Array α) (f : α → β) : xs.map f = ⟨xs.toList.map f⟩ := by
  cases xs; simp

theorem nilS_run {P : Program} {x v : Value} (h : pureOf P (nilS x) = some v) (ρ : Operand → Value) (y : Operand) (hy : ρ y = x) (o : Oper) (ho : o.op = .nilCheck y) (w : World) :
    (execOp ρ o).run P w = .ok (.value v) w := by
  unfold execOp
  rw [ho]
  simp only [hy]
  unfold nilS at h
  split at h
  · simp only [pure, pureOf, Option.some.injEq] at h; subst h; rfl
  · simp only [pure, pureOf, Option.some.injEq] at h; subst h; rfl
  · simp only [pure, pureOf, Option.some.injEq] at h; subst h; rfl
  · simp only [pure, pureOf, Option.some.injEq] at h; subst h; rfl
  · simp [stuck, pureOf] at h

theorem opE_next {P : Program} {A : Ann} {o : Oper} {e : Env} {K : Value → World → Prop} {w : World} (h : opE P A o.op o.type e K w) :
    nextK P K ((execOp (ev e) o).run P w) := by
  obtain ⟨dst, op, type, pos, after, guard⟩ := o
  unfold opE at h
  simp only at h
  split at h
  case h_1 => exact h
  case h_2 => exact h
  case h_3 =>
    rename_i c a b
    obtain ⟨v, h1, h2⟩ := Pu_iff.1 h
    have := pureOf_run h1 w
    unfold pickS at this
    simp only [execOp]
    cases hc : ev e c <;> rw [hc] at this <;> simp [asBool, stuck, unsupported, Sem.run_bind] at this ⊢ <;> first | (simp [Sem.run] at this; done) | skip
    · obtain ⟨rfl, _⟩ := this; exact h2
  case h_4 =>
    rename_i x
    obtain ⟨v, h1, h2⟩ := Pu_iff.1 h
    rw [nilS_run h1 (ev e) x rfl _ rfl w]
    exact h2
  case h_5 =>
    rename_i op t x y yt
    simp only [execOp]
    cases hb : isEq op
    · rw [hb] at h; exact Pu.next (s := binS op t x y (ev e x) (ev e y)) h
    · rw [hb] at h; exact Rd.next (s := binS op t x y (ev e x) (ev e y)) h
  case h_6 => exact Pu.next h
  case h_7 =>
    rename_i s d x
    simp only [execOp]
    split at h
    · exact Pu.next h
    · exact Rd.next h
    · exact Rr.next h
  case h_8 => exact Rr.next h
  case h_9 => exact Rr.next h
  case h_10 => rename_i t ps; simp only [execOp, map_mk]; exact Pu.next h
  case h_11 => rename_i t n ps; simp only [execOp, map_mk]; exact Rr.next h
  case h_12 => exact Rd.next h
  case h_13 => exact Uu.next h
  case h_14 => exact Pu.next h
  case h_15 => rename_i fn a b; simp only [execOp, Instr.makeFunc, map_mk]; exact h
  case h_16 => exact Rr.next h
  case h_17 => exact Rr.next h
  case h_18 => exact Pu.next h
  case h_19 => exact Pu.next h
  case h_20 => exact Pu.next h
  case h_21 => exact Pu.next h
  case h_22 => exact Pu.next h
  case h_23 => exact Rd.next h
  case h_24 => exact Uu.next h
  case h_25 => exact Pu.next h
  case h_26 =>
    rename_i f args at'
    unfold Cf at h
    simp only [execOp, resolve, ev, Deferred.ofValue, map_mk]
    simpa [Sem.run_bind, invoke] using h
  case h_27 =>
    rename_i f args at' hf
    unfold Cv at h
    simp only [execOp, resolve, map_mk]
    exact h
  case h_28 =>
    rename_i r m args at'
    unfold Ci at h
    simp only [execOp, resolve, map_mk]
    simpa [Sem.run_bind] using h
  all_goals first
    | exact h.elim
    | (simp only [execOp, resolve, map_mk]; first
        | exact Rr.next h
        | exact Rd.next h
        | exact Pu.next h
        | (simp only [Sem.run_bind, Sem.run_pure, Result.andThen_ok, invoke, builtin]; first | exact Rr.next h | exact Rd.next h | exact Pu.next h))
end Go.Hx
