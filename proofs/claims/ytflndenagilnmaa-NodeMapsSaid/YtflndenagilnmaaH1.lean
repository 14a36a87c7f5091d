/-
  PRINTED BY wip/tools/gen.py, a program of this session: the functions of the program as predicate transformers.
-/
import Derived.Test.YtflndenagilnmaaH0
set_option linter.unusedVariables false
set_option maxRecDepth 100000
set_option maxHeartbeats 4000000
namespace Go.Proofs
open Go
def H19_2 (t1 : Go.Value) (t3 : Go.Value) (t22 : Go.Value) (t23 : Go.Value) (K : Go.Value → Go.World → Prop) (u junk : Nat → Go.Value) (nx2 : Hx.Inv) (ds : List Nat) (w : Go.World) : Prop :=
  Hx.Pu Try.prog (Hx.binS .lss 3 (Go.Operand.tmp 24) (Go.Operand.tmp 23) (u 0) t23) (fun t25 w =>
  Hx.iteE t25 (
  Hx.Pu Try.prog (Go.Instr.indexAt 24 t22 (u 0)) (fun t27 w =>
  Hx.Rd Try.prog (Go.Instr.loadAt 9 t27) (fun t28 w =>
  Hx.Rd Try.prog (Go.Builtin.len_ #[9] 3 ⟨[t28]⟩) (fun t31 w =>
  Hx.Pu Try.prog (Go.convert 3 5 t31) (fun t32 w =>
  Hx.Cf Try.prog 22 ⟨[t3, t32]⟩ (fun t33 w =>
  Hx.Pu Try.prog (Go.Instr.fieldAt 27 t1 0) (fun t34 w =>
  Hx.Rd Try.prog (Go.Instr.loadAt 4 t34) (fun t35 w =>
  Hx.iteE t35 (
  Hx.Pu Try.prog (Go.Instr.fieldAt 27 t1 2) (fun t37 w =>
  Hx.Rd Try.prog (Go.Instr.loadAt 24 t37) (fun t38 w =>
  Hx.Pu Try.prog (Go.Instr.indexAt 24 t38 (u 0)) (fun t40 w =>
  Hx.Rd Try.prog (Go.Instr.loadAt 9 t40) (fun t41 w =>
  Hx.Rd Try.prog (Go.Builtin.len_ #[9] 3 ⟨[t41]⟩) (fun t42 w =>
  Hx.Pu Try.prog (Go.convert 3 5 t42) (fun t43 w =>
  Hx.Cf Try.prog 22 ⟨[t3, t43]⟩ (fun t44 w =>
  Hx.Cf Try.prog 21 ⟨[t3, t28]⟩ (fun t47 w =>
  Hx.Pu Try.prog (Go.Instr.fieldAt 27 t1 2) (fun t49 w =>
  Hx.Rd Try.prog (Go.Instr.loadAt 24 t49) (fun t50 w =>
  Hx.Pu Try.prog (Go.Instr.indexAt 24 t50 (u 0)) (fun t52 w =>
  Hx.Rd Try.prog (Go.Instr.loadAt 9 t52) (fun t53 w =>
  Hx.Cf Try.prog 21 ⟨[t3, t53]⟩ (fun t54 w =>
  Hx.Pu Try.prog (Hx.binS .add 3 (Go.Operand.tmp 24) (Go.Operand.const (Go.Value.int Go.IntKind.i64 1)) (u 0) (Go.Value.int Go.IntKind.i64 1)) (fun t67 w =>
  nx2 (Hx.vec [t67]) ds w) w) w) w) w) w) w) w) w) w) w) w) w) w) w) (
  Hx.Cf Try.prog 21 ⟨[t3, t28]⟩ (fun t57 w =>
  Hx.Pu Try.prog (Go.Instr.fieldAt 27 t1 3) (fun t59 w =>
  Hx.Rd Try.prog (Go.Instr.loadAt 25 t59) (fun t60 w =>
  Hx.Pu Try.prog (Hx.binS .add 3 (Go.Operand.tmp 61) (Go.Operand.const (Go.Value.int Go.IntKind.i64 1)) (u 0) (Go.Value.int Go.IntKind.i64 1)) (fun t62 w =>
  Hx.Pu Try.prog (Go.Instr.indexAt 25 t60 t62) (fun t63 w =>
  Hx.Rd Try.prog (Go.Instr.loadAt 3 t63) (fun t64 w =>
  Hx.Pu Try.prog (Go.convert 3 58 t64) (fun t65 w =>
  Hx.Cf Try.prog 24 ⟨[t3, t65]⟩ (fun t66 w =>
  Hx.Pu Try.prog (Hx.binS .add 3 (Go.Operand.tmp 24) (Go.Operand.const (Go.Value.int Go.IntKind.i64 1)) (u 0) (Go.Value.int Go.IntKind.i64 1)) (fun t67 w =>
  nx2 (Hx.vec [t67]) ds w) w) w) w) w) w) w) w) w) w)) w) w) w) w) w) w) w) (
  Hx.Cf Try.prog 25 ⟨[t3]⟩ (fun t70 w =>
  Hx.Pu Try.prog (Go.Instr.extract t70 0) (fun t71 w =>
  Hx.Pu Try.prog (Go.Instr.extract t70 1) (fun t72 w =>
  Hx.retH ds (K t71 w)) w) w) w)) w

def H19_1 (t1 : Go.Value) (t3 : Go.Value) (K : Go.Value → Go.World → Prop) (w : Go.World) : Prop :=
  Hx.Pu Try.prog (Go.Instr.fieldAt 27 t1 1) (fun t21 w =>
  Hx.Rd Try.prog (Go.Instr.loadAt 24 t21) (fun t22 w =>
  Hx.Rd Try.prog (Go.Builtin.len_ #[24] 3 ⟨[t22]⟩) (fun t23 w =>
  Hx.loopH (Hx.vec [(Go.Value.int Go.IntKind.i64 0)]) [] (H19_2 t1 t3 t22 t23 K) w) w) w) w

/-- dedup/node.entries -/
def H19 (t0 : Go.Value) (K : Go.Value → Go.World → Prop) (w : Go.World) : Prop :=
  Hx.Rr Try.prog (Go.Instr.box 27 t0) (fun t1 w =>
  Hx.Rd Try.prog (Go.Instr.loadAt 27 t1) (fun t8 w =>
  Hx.Cf Try.prog 11 ⟨[t8]⟩ (fun t9 w =>
  Hx.Cf Try.prog 20 ⟨[t9]⟩ (fun t10 w =>
  Hx.Pu Try.prog (Go.Instr.fieldAt 27 t1 0) (fun t11 w =>
  Hx.Rd Try.prog (Go.Instr.loadAt 4 t11) (fun t12 w =>
  Hx.Pu Try.prog (Go.Op.unary .not t12) (fun t13 w =>
  Hx.iteE t13 (
  Hx.Pu Try.prog (Go.Instr.fieldAt 27 t1 3) (fun t15 w =>
  Hx.Rd Try.prog (Go.Instr.loadAt 25 t15) (fun t16 w =>
  Hx.Pu Try.prog (Go.Instr.indexAt 25 t16 (Go.Value.int Go.IntKind.i64 0)) (fun t17 w =>
  Hx.Rd Try.prog (Go.Instr.loadAt 3 t17) (fun t18 w =>
  Hx.Pu Try.prog (Go.convert 3 58 t18) (fun t19 w =>
  Hx.Cf Try.prog 24 ⟨[t10, t19]⟩ (fun t20 w =>
  H19_1 t1 t10 K w) w) w) w) w) w) w) (
  H19_1 t1 t10 K w)) w) w) w) w) w) w) w

def H19_a : Hx.Ann := ⟨Hx.lookC Hconv, Hx.lookL [(5, [24])]⟩

theorem H19_eq (t0 : Go.Value) (K : Go.Value → Go.World → Prop) (w : Go.World) : H19 t0 K w = Hx.wpE Try.prog H19_a (Hx.bodyOf Try.f19) (Hx.retQ Try.prog Try.f19.results K) (Hx.argE [t0]) [] w := by kernel_rfl

theorem H19_ok (t0 : Go.Value) {K : Go.Value → Go.World → Prop} {w : Go.World} (h : H19 t0 K w) : Go.Calls Try.prog 19 #[t0] w (Hx.RetK K) :=
  Hx.calls_of_wpE (A := H19_a) Try.func19 rfl (by kernel_rfl) (by kernel_rfl) (by simp [Try.ntmps19]) (H19_eq t0 K w ▸ h)

theorem H19_in (t0 : Go.Value) {R : Go.Value → Go.World → Prop} {w : Go.World} (h : ∀ K : Go.Value → Go.World → Prop, (∀ v w', R v w' → K v w') → H19 t0 K w) : Go.Calls Try.prog 19 #[t0] w (Hx.RetK R) := H19_ok t0 (h R fun _ _ h => h)

/-- dedup/codec.NewWriter -/
def H20 (t0 : Go.Value) (K : Go.Value → Go.World → Prop) (w : Go.World) : Prop :=
  Hx.Pu Try.prog (Go.Builtin.max_ #[3, 3] 3 ⟨[t0, (Go.Value.int Go.IntKind.i64 0)]⟩) (fun t4 w =>
  Hx.Pu Try.prog (Go.Instr.build 70 ⟨[(0, t4)]⟩) (fun t5 w =>
  Hx.Rr Try.prog (Go.Instr.box 70 t5) (fun t6 w =>
  K t6 w) w) w) w

def H20_a : Hx.Ann := ⟨Hx.lookC Hconv, Hx.lookL []⟩

theorem H20_eq (t0 : Go.Value) (K : Go.Value → Go.World → Prop) (w : Go.World) : H20 t0 K w = Hx.wpE Try.prog H20_a (Hx.bodyOf Try.f20) (Hx.retQ Try.prog Try.f20.results K) (Hx.argE [t0]) [] w := by kernel_rfl

theorem H20_ok (t0 : Go.Value) {K : Go.Value → Go.World → Prop} {w : Go.World} (h : H20 t0 K w) : Go.Calls Try.prog 20 #[t0] w (Hx.RetK K) :=
  Hx.calls_of_wpE (A := H20_a) Try.func20 rfl (by kernel_rfl) (by kernel_rfl) (by simp [Try.ntmps20]) (H20_eq t0 K w ▸ h)

theorem H20_in (t0 : Go.Value) {R : Go.Value → Go.World → Prop} {w : Go.World} (h : ∀ K : Go.Value → Go.World → Prop, (∀ v w', R v w' → K v w') → H20 t0 K w) : Go.Calls Try.prog 20 #[t0] w (Hx.RetK R) := H20_ok t0 (h R fun _ _ h => h)

/-- (*dedup/codec.Writer).Raw -/
def H21 (t0 t1 : Go.Value) (K : Go.Value → Go.World → Prop) (w : Go.World) : Prop :=
  Hx.Rr Try.prog (Go.convert 9 37 t1) (fun t6 w =>
  Hx.Cf Try.prog 36 ⟨[t0, t6]⟩ (fun t7 w =>
  K (Go.Value.tuple #[]) w) w) w

def H21_a : Hx.Ann := ⟨Hx.lookC Hconv, Hx.lookL []⟩

theorem H21_eq (t0 t1 : Go.Value) (K : Go.Value → Go.World → Prop) (w : Go.World) : H21 t0 t1 K w = Hx.wpE Try.prog H21_a (Hx.bodyOf Try.f21) (Hx.retQ Try.prog Try.f21.results K) (Hx.argE [t0, t1]) [] w := by kernel_rfl

theorem H21_ok (t0 t1 : Go.Value) {K : Go.Value → Go.World → Prop} {w : Go.World} (h : H21 t0 t1 K w) : Go.Calls Try.prog 21 #[t0, t1] w (Hx.RetK K) :=
  Hx.calls_of_wpE (A := H21_a) Try.func21 rfl (by kernel_rfl) (by kernel_rfl) (by simp [Try.ntmps21]) (H21_eq t0 t1 K w ▸ h)

theorem H21_in (t0 t1 : Go.Value) {R : Go.Value → Go.World → Prop} {w : Go.World} (h : ∀ K : Go.Value → Go.World → Prop, (∀ v w', R v w' → K v w') → H21 t0 t1 K w) : Go.Calls Try.prog 21 #[t0, t1] w (Hx.RetK R) := H21_ok t0 t1 (h R fun _ _ h => h)

/-- (*dedup/codec.Writer).U8 -/
def H22 (t0 t1 : Go.Value) (K : Go.Value → Go.World → Prop) (w : Go.World) : Prop :=
  Hx.Cf Try.prog 37 ⟨[t0, t1, (Go.Value.int Go.IntKind.i64 1)]⟩ (fun t6 w =>
  K (Go.Value.tuple #[]) w) w

def H22_a : Hx.Ann := ⟨Hx.lookC Hconv, Hx.lookL []⟩

theorem H22_eq (t0 t1 : Go.Value) (K : Go.Value → Go.World → Prop) (w : Go.World) : H22 t0 t1 K w = Hx.wpE Try.prog H22_a (Hx.bodyOf Try.f22) (Hx.retQ Try.prog Try.f22.results K) (Hx.argE [t0, t1]) [] w := by kernel_rfl

theorem H22_ok (t0 t1 : Go.Value) {K : Go.Value → Go.World → Prop} {w : Go.World} (h : H22 t0 t1 K w) : Go.Calls Try.prog 22 #[t0, t1] w (Hx.RetK K) :=
  Hx.calls_of_wpE (A := H22_a) Try.func22 rfl (by kernel_rfl) (by kernel_rfl) (by simp [Try.ntmps22]) (H22_eq t0 t1 K w ▸ h)

theorem H22_in (t0 t1 : Go.Value) {R : Go.Value → Go.World → Prop} {w : Go.World} (h : ∀ K : Go.Value → Go.World → Prop, (∀ v w', R v w' → K v w') → H22 t0 t1 K w) : Go.Calls Try.prog 22 #[t0, t1] w (Hx.RetK R) := H22_ok t0 t1 (h R fun _ _ h => h)

/-- (*dedup/codec.Writer).U16 -/
def H23 (t0 t1 : Go.Value) (K : Go.Value → Go.World → Prop) (w : Go.World) : Prop :=
  Hx.Cf Try.prog 38 ⟨[t0, t1, (Go.Value.int Go.IntKind.i64 2)]⟩ (fun t6 w =>
  K (Go.Value.tuple #[]) w) w

def H23_a : Hx.Ann := ⟨Hx.lookC Hconv, Hx.lookL []⟩

theorem H23_eq (t0 t1 : Go.Value) (K : Go.Value → Go.World → Prop) (w : Go.World) : H23 t0 t1 K w = Hx.wpE Try.prog H23_a (Hx.bodyOf Try.f23) (Hx.retQ Try.prog Try.f23.results K) (Hx.argE [t0, t1]) [] w := by kernel_rfl

theorem H23_ok (t0 t1 : Go.Value) {K : Go.Value → Go.World → Prop} {w : Go.World} (h : H23 t0 t1 K w) : Go.Calls Try.prog 23 #[t0, t1] w (Hx.RetK K) :=
  Hx.calls_of_wpE (A := H23_a) Try.func23 rfl (by kernel_rfl) (by kernel_rfl) (by simp [Try.ntmps23]) (H23_eq t0 t1 K w ▸ h)

theorem H23_in (t0 t1 : Go.Value) {R : Go.Value → Go.World → Prop} {w : Go.World} (h : ∀ K : Go.Value → Go.World → Prop, (∀ v w', R v w' → K v w') → H23 t0 t1 K w) : Go.Calls Try.prog 23 #[t0, t1] w (Hx.RetK R) := H23_ok t0 t1 (h R fun _ _ h => h)

/-- (*dedup/codec.Writer).U32 -/
def H24 (t0 t1 : Go.Value) (K : Go.Value → Go.World → Prop) (w : Go.World) : Prop :=
  Hx.Cf Try.prog 39 ⟨[t0, t1, (Go.Value.int Go.IntKind.i64 4)]⟩ (fun t6 w =>
  K (Go.Value.tuple #[]) w) w

def H24_a : Hx.Ann := ⟨Hx.lookC Hconv, Hx.lookL []⟩

theorem H24_eq (t0 t1 : Go.Value) (K : Go.Value → Go.World → Prop) (w : Go.World) : H24 t0 t1 K w = Hx.wpE Try.prog H24_a (Hx.bodyOf Try.f24) (Hx.retQ Try.prog Try.f24.results K) (Hx.argE [t0, t1]) [] w := by kernel_rfl

theorem H24_ok (t0 t1 : Go.Value) {K : Go.Value → Go.World → Prop} {w : Go.World} (h : H24 t0 t1 K w) : Go.Calls Try.prog 24 #[t0, t1] w (Hx.RetK K) :=
  Hx.calls_of_wpE (A := H24_a) Try.func24 rfl (by kernel_rfl) (by kernel_rfl) (by simp [Try.ntmps24]) (H24_eq t0 t1 K w ▸ h)

theorem H24_in (t0 t1 : Go.Value) {R : Go.Value → Go.World → Prop} {w : Go.World} (h : ∀ K : Go.Value → Go.World → Prop, (∀ v w', R v w' → K v w') → H24 t0 t1 K w) : Go.Calls Try.prog 24 #[t0, t1] w (Hx.RetK R) := H24_ok t0 t1 (h R fun _ _ h => h)

/-- (*dedup/codec.Writer).Done -/
def H25 (t0 : Go.Value) (K : Go.Value → Go.World → Prop) (w : Go.World) : Prop :=
  Hx.Rd Try.prog (Hx.binS .eql 51 (Go.Operand.tmp 5) (Go.Operand.const (Go.Value.pointer none)) t0 (Go.Value.pointer none)) (fun t6 w =>
  Hx.iteE t6 (
  K (Go.Value.tuple #[(Go.Value.string { data := #[] }), (Go.Value.int Go.IntKind.i64 6)]) w) (
  Hx.Pu Try.prog (Hx.nilS t0) (fun t9 w =>
  Hx.Pu Try.prog (Go.Instr.fieldAt 70 t9 2) (fun t10 w =>
  Hx.Rd Try.prog (Go.Instr.loadAt 4 t10) (fun t11 w =>
  Hx.iteE t11 (
  K (Go.Value.tuple #[(Go.Value.string { data := #[] }), (Go.Value.int Go.IntKind.i64 3)]) w) (
  Hx.Pu Try.prog (Hx.nilS t0) (fun t13 w =>
  Hx.Pu Try.prog (Go.Instr.fieldAt 70 t13 1) (fun t14 w =>
  Hx.Rd Try.prog (Go.Instr.loadAt 37 t14) (fun t15 w =>
  Hx.Rd Try.prog (Go.convert 37 9 t15) (fun t16 w =>
  K (Go.Value.tuple #[t16, (Go.Value.int Go.IntKind.i64 0)]) w) w) w) w) w)) w) w) w)) w

def H25_a : Hx.Ann := ⟨Hx.lookC Hconv, Hx.lookL []⟩

theorem H25_eq (t0 : Go.Value) (K : Go.Value → Go.World → Prop) (w : Go.World) : H25 t0 K w = Hx.wpE Try.prog H25_a (Hx.bodyOf Try.f25) (Hx.retQ Try.prog Try.f25.results K) (Hx.argE [t0]) [] w := by kernel_rfl

theorem H25_ok (t0 : Go.Value) {K : Go.Value → Go.World → Prop} {w : Go.World} (h : H25 t0 K w) : Go.Calls Try.prog 25 #[t0] w (Hx.RetK K) :=
  Hx.calls_of_wpE (A := H25_a) Try.func25 rfl (by kernel_rfl) (by kernel_rfl) (by simp [Try.ntmps25]) (H25_eq t0 K w ▸ h)

theorem H25_in (t0 : Go.Value) {R : Go.Value → Go.World → Prop} {w : Go.World} (h : ∀ K : Go.Value → Go.World → Prop, (∀ v w', R v w' → K v w') → H25 t0 K w) : Go.Calls Try.prog 25 #[t0] w (Hx.RetK R) := H25_ok t0 (h R fun _ _ h => h)

def H26_2 (t7 : Go.Value) (nx1 : Hx.Inv) (u junk : Nat → Go.Value) (nx2 : Hx.Inv) (ds : List Nat) (w : Go.World) : Prop :=
  Hx.Pu Try.prog (Hx.binS .lss 3 (Go.Operand.tmp 16) (Go.Operand.const (Go.Value.int Go.IntKind.i64 8)) (u 1) (Go.Value.int Go.IntKind.i64 8)) (fun t17 w =>
  Hx.iteE t17 (
  Hx.Pu Try.prog (Hx.binS .shr 58 (Go.Operand.tmp 18) (Go.Operand.const (Go.Value.int Go.IntKind.u64 1)) (u 0) (Go.Value.int Go.IntKind.u64 1)) (fun t19 w =>
  Hx.Pu Try.prog (Hx.binS .and 58 (Go.Operand.tmp 20) (Go.Operand.const (Go.Value.int Go.IntKind.u32 1)) (u 0) (Go.Value.int Go.IntKind.u32 1)) (fun t21 w =>
  Hx.Pu Try.prog (Go.Op.unary .neg t21) (fun t22 w =>
  Hx.Pu Try.prog (Hx.binS .and 58 (Go.Operand.const (Go.Value.int Go.IntKind.u32 2197175160)) (Go.Operand.tmp 22) (Go.Value.int Go.IntKind.u32 2197175160) t22) (fun t23 w =>
  Hx.Pu Try.prog (Hx.binS .xor 58 (Go.Operand.tmp 19) (Go.Operand.tmp 23) t19 t23) (fun t24 w =>
  Hx.Pu Try.prog (Hx.binS .add 3 (Go.Operand.tmp 16) (Go.Operand.const (Go.Value.int Go.IntKind.i64 1)) (u 1) (Go.Value.int Go.IntKind.i64 1)) (fun t25 w =>
  nx2 (Hx.vec [t24, t25]) ds w) w) w) w) w) w) w) (
  Hx.Pu Try.prog (Hx.binS .add 3 (Go.Operand.tmp 7) (Go.Operand.const (Go.Value.int Go.IntKind.i64 1)) t7 (Go.Value.int Go.IntKind.i64 1)) (fun t26 w =>
  nx1 (Hx.vec [(u 0), t26]) ds w) w)) w

def H26_1 (t0 : Go.Value) (t6 : Go.Value) (K : Go.Value → Go.World → Prop) (u junk : Nat → Go.Value) (nx1 : Hx.Inv) (ds : List Nat) (w : Go.World) : Prop :=
  Hx.Pu Try.prog (Hx.binS .lss 3 (Go.Operand.tmp 7) (Go.Operand.tmp 6) (u 1) t6) (fun t8 w =>
  Hx.iteE t8 (
  Hx.Pu Try.prog (Go.Instr.index 9 t0 (u 1)) (fun t13 w =>
  Hx.Pu Try.prog (Go.convert 5 58 t13) (fun t14 w =>
  Hx.Pu Try.prog (Hx.binS .xor 58 (Go.Operand.tmp 10) (Go.Operand.tmp 14) (u 0) t14) (fun t15 w =>
  Hx.loopH (Hx.vec [t15, (Go.Value.int Go.IntKind.i64 0)]) ds (H26_2 (u 1) nx1) w) w) w) w) (
  Hx.Pu Try.prog (Go.Op.unary .xor (u 0)) (fun t28 w =>
  Hx.retH ds (K t28 w)) w)) w

/-- dedup/codec.Crc -/
def H26 (t0 : Go.Value) (K : Go.Value → Go.World → Prop) (w : Go.World) : Prop :=
  Hx.Rd Try.prog (Go.Builtin.len_ #[9] 3 ⟨[t0]⟩) (fun t6 w =>
  Hx.loopH (Hx.vec [(Go.Value.int Go.IntKind.u32 4294967295), (Go.Value.int Go.IntKind.i64 0)]) [] (H26_1 t0 t6 K) w) w

def H26_a : Hx.Ann := ⟨Hx.lookC Hconv, Hx.lookL [(3, [3, 7]), (7, [3, 16])]⟩

theorem H26_eq (t0 : Go.Value) (K : Go.Value → Go.World → Prop) (w : Go.World) : H26 t0 K w = Hx.wpE Try.prog H26_a (Hx.bodyOf Try.f26) (Hx.retQ Try.prog Try.f26.results K) (Hx.argE [t0]) [] w := by kernel_rfl

theorem H26_ok (t0 : Go.Value) {K : Go.Value → Go.World → Prop} {w : Go.World} (h : H26 t0 K w) : Go.Calls Try.prog 26 #[t0] w (Hx.RetK K) :=
  Hx.calls_of_wpE (A := H26_a) Try.func26 rfl (by kernel_rfl) (by kernel_rfl) (by simp [Try.ntmps26]) (H26_eq t0 K w ▸ h)

theorem H26_in (t0 : Go.Value) {R : Go.Value → Go.World → Prop} {w : Go.World} (h : ∀ K : Go.Value → Go.World → Prop, (∀ v w', R v w' → K v w') → H26 t0 K w) : Go.Calls Try.prog 26 #[t0] w (Hx.RetK R) := H26_ok t0 (h R fun _ _ h => h)

def H27_1 (t1 : Go.Value) (K : Go.Value → Go.World → Prop) (u junk : Nat → Go.Value) (nx1 : Hx.Inv) (ds : List Nat) (w : Go.World) : Prop :=
  Hx.Pu Try.prog (Hx.binS .lss 3 (Go.Operand.tmp 9) (Go.Operand.tmp 10) (u 0) (u 1)) (fun t11 w =>
  Hx.iteE t11 (
  Hx.Pu Try.prog (Hx.binS .add 3 (Go.Operand.tmp 12) (Go.Operand.tmp 13) (u 0) (u 1)) (fun t14 w =>
  Hx.Pu Try.prog (Go.convert 3 75 t14) (fun t15 w =>
  Hx.Pu Try.prog (Hx.binS .shr 75 (Go.Operand.tmp 15) (Go.Operand.const (Go.Value.int Go.IntKind.u64 1)) t15 (Go.Value.int Go.IntKind.u64 1)) (fun t16 w =>
  Hx.Pu Try.prog (Go.convert 75 3 t16) (fun t17 w =>
  Hx.Cv Try.prog t1 ⟨[t17]⟩ (fun t20 w =>
  Hx.Pu Try.prog (Go.Op.unary .not t20) (fun t21 w =>
  Hx.iteE t21 (
  Hx.Pu Try.prog (Hx.binS .add 3 (Go.Operand.tmp 22) (Go.Operand.const (Go.Value.int Go.IntKind.i64 1)) t17 (Go.Value.int Go.IntKind.i64 1)) (fun t23 w =>
  nx1 (Hx.vec [t23, (u 1)]) ds w) w) (
  nx1 (Hx.vec [(u 0), t17]) ds w)) w) w) w) w) w) w) (
  Hx.retH ds (K (u 0) w))) w

/-- sort.Search -/
def H27 (t0 t1 : Go.Value) (K : Go.Value → Go.World → Prop) (w : Go.World) : Prop :=
  Hx.loopH (Hx.vec [(Go.Value.int Go.IntKind.i64 0), t0]) [] (H27_1 t1 K) w

def H27_a : Hx.Ann := ⟨Hx.lookC Hconv, Hx.lookL [(2, [5, 6])]⟩

theorem H27_eq (t0 t1 : Go.Value) (K : Go.Value → Go.World → Prop) (w : Go.World) : H27 t0 t1 K w = Hx.wpE Try.prog H27_a (Hx.bodyOf Try.f27) (Hx.retQ Try.prog Try.f27.results K) (Hx.argE [t0, t1]) [] w := by kernel_rfl

theorem H27_ok (t0 t1 : Go.Value) {K : Go.Value → Go.World → Prop} {w : Go.World} (h : H27 t0 t1 K w) : Go.Calls Try.prog 27 #[t0, t1] w (Hx.RetK K) :=
  Hx.calls_of_wpE (A := H27_a) Try.func27 rfl (by kernel_rfl) (by kernel_rfl) (by simp [Try.ntmps27]) (H27_eq t0 t1 K w ▸ h)

theorem H27_in (t0 t1 : Go.Value) {R : Go.Value → Go.World → Prop} {w : Go.World} (h : ∀ K : Go.Value → Go.World → Prop, (∀ v w', R v w' → K v w') → H27 t0 t1 K w) : Go.Calls Try.prog 27 #[t0, t1] w (Hx.RetK R) := H27_ok t0 t1 (h R fun _ _ h => h)

/-- dedup/node.Find$1 -/
def H28 (t0 t1 t2 : Go.Value) (K : Go.Value → Go.World → Prop) (w : Go.World) : Prop :=
  Hx.drw (fun w =>
  Hx.Pu Try.prog (Go.Instr.fieldAt 27 t1 1) (fun t5 w =>
  Hx.Rd Try.prog (Go.Instr.loadAt 24 t5) (fun t6 w =>
  Hx.Pu Try.prog (Go.Instr.indexAt 24 t6 t0) (fun t8 w =>
  Hx.Rd Try.prog (Go.Instr.loadAt 9 t8) (fun t9 w =>
  Hx.Rd Try.prog (Go.Instr.loadAt 9 t2) (fun t10 w =>
  Hx.Pu Try.prog (Hx.binS .gtr 9 (Go.Operand.tmp 9) (Go.Operand.tmp 10) t9 t10) (fun t11 w =>
  K t11 w) w) w) w) w) w) w) w

def H28_a : Hx.Ann := ⟨Hx.lookC Hconv, Hx.lookL []⟩

theorem H28_eq (t0 t1 t2 : Go.Value) (K : Go.Value → Go.World → Prop) (w : Go.World) : H28 t0 t1 t2 K w = Hx.wpE Try.prog H28_a (Hx.bodyOf Try.f28) (Hx.retQ Try.prog Try.f28.results K) (Hx.argE [t0, t1, t2]) [] w := by kernel_rfl

theorem H28_ok (t0 t1 t2 : Go.Value) {K : Go.Value → Go.World → Prop} {w : Go.World} (h : H28 t0 t1 t2 K w) : Go.Calls Try.prog 28 #[t0, t1, t2] w (Hx.RetK K) :=
  Hx.calls_of_wpE (A := H28_a) Try.func28 rfl (by kernel_rfl) (by kernel_rfl) (by simp [Try.ntmps28]) (H28_eq t0 t1 t2 K w ▸ h)

theorem H28_in (t0 t1 t2 : Go.Value) {R : Go.Value → Go.World → Prop} {w : Go.World} (h : ∀ K : Go.Value → Go.World → Prop, (∀ v w', R v w' → K v w') → H28 t0 t1 t2 K w) : Go.Calls Try.prog 28 #[t0, t1, t2] w (Hx.RetK R) := H28_ok t0 t1 t2 (h R fun _ _ h => h)

/-- sort.SearchStrings -/
def H29 (t0 t1 : Go.Value) (K : Go.Value → Go.World → Prop) (w : Go.World) : Prop :=
  Hx.Rr Try.prog (Go.Instr.box 24 t0) (fun t2 w =>
  Hx.Rr Try.prog (Go.Instr.box 9 t1) (fun t3 w =>
  Hx.Rd Try.prog (Go.Instr.loadAt 24 t2) (fun t5 w =>
  Hx.Rd Try.prog (Go.Builtin.len_ #[24] 3 ⟨[t5]⟩) (fun t6 w =>
  Hx.Cf Try.prog 27 ⟨[t6, (Go.Value.func (Go.Fn.func 40) ⟨[]⟩ ⟨[t2, t3]⟩)]⟩ (fun t8 w =>
  K t8 w) w) w) w) w) w

def H29_a : Hx.Ann := ⟨Hx.lookC Hconv, Hx.lookL []⟩

theorem H29_eq (t0 t1 : Go.Value) (K : Go.Value → Go.World → Prop) (w : Go.World) : H29 t0 t1 K w = Hx.wpE Try.prog H29_a (Hx.bodyOf Try.f29) (Hx.retQ Try.prog Try.f29.results K) (Hx.argE [t0, t1]) [] w := by kernel_rfl

theorem H29_ok (t0 t1 : Go.Value) {K : Go.Value → Go.World → Prop} {w : Go.World} (h : H29 t0 t1 K w) : Go.Calls Try.prog 29 #[t0, t1] w (Hx.RetK K) :=
  Hx.calls_of_wpE (A := H29_a) Try.func29 rfl (by kernel_rfl) (by kernel_rfl) (by simp [Try.ntmps29]) (H29_eq t0 t1 K w ▸ h)

theorem H29_in (t0 t1 : Go.Value) {R : Go.Value → Go.World → Prop} {w : Go.World} (h : ∀ K : Go.Value → Go.World → Prop, (∀ v w', R v w' → K v w') → H29 t0 t1 K w) : Go.Calls Try.prog 29 #[t0, t1] w (Hx.RetK R) := H29_ok t0 t1 (h R fun _ _ h => h)

/-- dedup/node.entry -/
def H30 (t0 t1 : Go.Value) (K : Go.Value → Go.World → Prop) (w : Go.World) : Prop :=
  Hx.Rr Try.prog (Go.Instr.box 27 t0) (fun t2 w =>
  Hx.Pu Try.prog (Go.Instr.fieldAt 27 t2 0) (fun t7 w =>
  Hx.Rd Try.prog (Go.Instr.loadAt 4 t7) (fun t8 w =>
  Hx.Pu Try.prog (Go.Op.unary .not t8) (fun t9 w =>
  Hx.iteE t9 (
  Hx.Pu Try.prog (Go.Instr.fieldAt 27 t2 1) (fun t10 w =>
  Hx.Rd Try.prog (Go.Instr.loadAt 24 t10) (fun t11 w =>
  Hx.Pu Try.prog (Go.Instr.indexAt 24 t11 t1) (fun t13 w =>
  Hx.Rd Try.prog (Go.Instr.loadAt 9 t13) (fun t14 w =>
  Hx.Rd Try.prog (Go.Builtin.len_ #[9] 3 ⟨[t14]⟩) (fun t15 w =>
  Hx.Pu Try.prog (Hx.binS .add 3 (Go.Operand.const (Go.Value.int Go.IntKind.i64 1)) (Go.Operand.tmp 15) (Go.Value.int Go.IntKind.i64 1) t15) (fun t16 w =>
  Hx.Pu Try.prog (Hx.binS .add 3 (Go.Operand.tmp 17) (Go.Operand.const (Go.Value.int Go.IntKind.i64 1)) t1 (Go.Value.int Go.IntKind.i64 1)) (fun t18 w =>
  Hx.Pu Try.prog (Go.Instr.fieldAt 27 t2 3) (fun t19 w =>
  Hx.Rd Try.prog (Go.Instr.loadAt 25 t19) (fun t20 w =>
  Hx.Rd Try.prog (Go.Builtin.len_ #[25] 3 ⟨[t20]⟩) (fun t21 w =>
  Hx.Pu Try.prog (Hx.binS .lss 3 (Go.Operand.tmp 18) (Go.Operand.tmp 21) t18 t21) (fun t22 w =>
  Hx.iteE t22 (
  Hx.Pu Try.prog (Hx.binS .add 3 (Go.Operand.tmp 23) (Go.Operand.const (Go.Value.int Go.IntKind.i64 4)) t16 (Go.Value.int Go.IntKind.i64 4)) (fun t24 w =>
  K t24 w) w) (
  K t16 w)) w) w) w) w) w) w) w) w) w) w) w) (
  Hx.Pu Try.prog (Go.Instr.fieldAt 27 t2 1) (fun t26 w =>
  Hx.Rd Try.prog (Go.Instr.loadAt 24 t26) (fun t27 w =>
  Hx.Pu Try.prog (Go.Instr.indexAt 24 t27 t1) (fun t29 w =>
  Hx.Rd Try.prog (Go.Instr.loadAt 9 t29) (fun t30 w =>
  Hx.Rd Try.prog (Go.Builtin.len_ #[9] 3 ⟨[t30]⟩) (fun t31 w =>
  Hx.Pu Try.prog (Hx.binS .add 3 (Go.Operand.const (Go.Value.int Go.IntKind.i64 2)) (Go.Operand.tmp 31) (Go.Value.int Go.IntKind.i64 2) t31) (fun t32 w =>
  Hx.Pu Try.prog (Go.Instr.fieldAt 27 t2 2) (fun t34 w =>
  Hx.Rd Try.prog (Go.Instr.loadAt 24 t34) (fun t35 w =>
  Hx.Rd Try.prog (Go.Builtin.len_ #[24] 3 ⟨[t35]⟩) (fun t36 w =>
  Hx.Pu Try.prog (Hx.binS .lss 3 (Go.Operand.tmp 33) (Go.Operand.tmp 36) t1 t36) (fun t37 w =>
  Hx.iteE t37 (
  Hx.Pu Try.prog (Go.Instr.fieldAt 27 t2 2) (fun t39 w =>
  Hx.Rd Try.prog (Go.Instr.loadAt 24 t39) (fun t40 w =>
  Hx.Pu Try.prog (Go.Instr.indexAt 24 t40 t1) (fun t42 w =>
  Hx.Rd Try.prog (Go.Instr.loadAt 9 t42) (fun t43 w =>
  Hx.Rd Try.prog (Go.Builtin.len_ #[9] 3 ⟨[t43]⟩) (fun t44 w =>
  Hx.Pu Try.prog (Hx.binS .add 3 (Go.Operand.tmp 38) (Go.Operand.tmp 44) t32 t44) (fun t45 w =>
  K t45 w) w) w) w) w) w) w) (
  K t32 w)) w) w) w) w) w) w) w) w) w) w)) w) w) w) w

def H30_a : Hx.Ann := ⟨Hx.lookC Hconv, Hx.lookL []⟩

theorem H30_eq (t0 t1 : Go.Value) (K : Go.Value → Go.World → Prop) (w : Go.World) : H30 t0 t1 K w = Hx.wpE Try.prog H30_a (Hx.bodyOf Try.f30) (Hx.retQ Try.prog Try.f30.results K) (Hx.argE [t0, t1]) [] w := by kernel_rfl

theorem H30_ok (t0 t1 : Go.Value) {K : Go.Value → Go.World → Prop} {w : Go.World} (h : H30 t0 t1 K w) : Go.Calls Try.prog 30 #[t0, t1] w (Hx.RetK K) :=
  Hx.calls_of_wpE (A := H30_a) Try.func30 rfl (by kernel_rfl) (by kernel_rfl) (by simp [Try.ntmps30]) (H30_eq t0 t1 K w ▸ h)

theorem H30_in (t0 t1 : Go.Value) {R : Go.Value → Go.World → Prop} {w : Go.World} (h : ∀ K : Go.Value → Go.World → Prop, (∀ v w', R v w' → K v w') → H30 t0 t1 K w) : Go.Calls Try.prog 30 #[t0, t1] w (Hx.RetK R) := H30_ok t0 t1 (h R fun _ _ h => h)

/-- slices.Clone[[]string,string] -/
def H31 (t0 : Go.Value) (K : Go.Value → Go.World → Prop) (w : Go.World) : Prop :=
  Hx.Rd Try.prog (Hx.binS .eql 24 (Go.Operand.tmp 3) (Go.Operand.const (Go.Value.slice none 0 0)) t0 (Go.Value.slice none 0 0)) (fun t4 w =>
  Hx.iteE t4 (
  K (Go.Value.slice none 0 0) w) (
  Hx.Rr Try.prog (Go.Instr.buildSlice 24 0 ⟨[]⟩) (fun t5 w =>
  Hx.Rr Try.prog (Go.Builtin.append_ #[24, 24] 24 ⟨[t5, t0]⟩) (fun t7 w =>
  K t7 w) w) w)) w

def H31_a : Hx.Ann := ⟨Hx.lookC Hconv, Hx.lookL []⟩

theorem H31_eq (t0 : Go.Value) (K : Go.Value → Go.World → Prop) (w : Go.World) : H31 t0 K w = Hx.wpE Try.prog H31_a (Hx.bodyOf Try.f31) (Hx.retQ Try.prog Try.f31.results K) (Hx.argE [t0]) [] w := by kernel_rfl

theorem H31_ok (t0 : Go.Value) {K : Go.Value → Go.World → Prop} {w : Go.World} (h : H31 t0 K w) : Go.Calls Try.prog 31 #[t0] w (Hx.RetK K) :=
  Hx.calls_of_wpE (A := H31_a) Try.func31 rfl (by kernel_rfl) (by kernel_rfl) (by simp [Try.ntmps31]) (H31_eq t0 K w ▸ h)

theorem H31_in (t0 : Go.Value) {R : Go.Value → Go.World → Prop} {w : Go.World} (h : ∀ K : Go.Value → Go.World → Prop, (∀ v w', R v w' → K v w') → H31 t0 K w) : Go.Calls Try.prog 31 #[t0] w (Hx.RetK R) := H31_ok t0 (h R fun _ _ h => h)

/-- slices.Clone[[]int,int] -/
def H32 (t0 : Go.Value) (K : Go.Value → Go.World → Prop) (w : Go.World) : Prop :=
  Hx.Rd Try.prog (Hx.binS .eql 25 (Go.Operand.tmp 3) (Go.Operand.const (Go.Value.slice none 0 0)) t0 (Go.Value.slice none 0 0)) (fun t4 w =>
  Hx.iteE t4 (
  K (Go.Value.slice none 0 0) w) (
  Hx.Rr Try.prog (Go.Instr.buildSlice 25 0 ⟨[]⟩) (fun t5 w =>
  Hx.Rr Try.prog (Go.Builtin.append_ #[25, 25] 25 ⟨[t5, t0]⟩) (fun t7 w =>
  K t7 w) w) w)) w

def H32_a : Hx.Ann := ⟨Hx.lookC Hconv, Hx.lookL []⟩

theorem H32_eq (t0 : Go.Value) (K : Go.Value → Go.World → Prop) (w : Go.World) : H32 t0 K w = Hx.wpE Try.prog H32_a (Hx.bodyOf Try.f32) (Hx.retQ Try.prog Try.f32.results K) (Hx.argE [t0]) [] w := by kernel_rfl

theorem H32_ok (t0 : Go.Value) {K : Go.Value → Go.World → Prop} {w : Go.World} (h : H32 t0 K w) : Go.Calls Try.prog 32 #[t0] w (Hx.RetK K) :=
  Hx.calls_of_wpE (A := H32_a) Try.func32 rfl (by kernel_rfl) (by kernel_rfl) (by simp [Try.ntmps32]) (H32_eq t0 K w ▸ h)

theorem H32_in (t0 : Go.Value) {R : Go.Value → Go.World → Prop} {w : Go.World} (h : ∀ K : Go.Value → Go.World → Prop, (∀ v w', R v w' → K v w') → H32 t0 K w) : Go.Calls Try.prog 32 #[t0] w (Hx.RetK R) := H32_ok t0 (h R fun _ _ h => h)

/-- dedup/node.check -/
def H33 (t0 t1 : Go.Value) (K : Go.Value → Go.World → Prop) (w : Go.World) : Prop :=
  Hx.Rr Try.prog (Go.Instr.box 27 t0) (fun t2 w =>
  Hx.Pu Try.prog (Go.Instr.fieldAt 27 t2 1) (fun t9 w =>
  Hx.Rd Try.prog (Go.Instr.loadAt 24 t9) (fun t10 w =>
  Hx.Cf Try.prog 44 ⟨[t10, (Go.Value.func (Go.Fn.func 41) #[] #[])]⟩ (fun t12 w =>
  Hx.Gd t12 false (Hx.Pu Try.prog (Go.Instr.fieldAt 27 t2 2)) (fun t14 w =>
  Hx.Gd t12 false (Hx.Rd Try.prog (Go.Instr.loadAt 24 t14)) (fun t15 w =>
  Hx.Gd t12 false (fun K w => K (Go.Value.func (Go.Fn.func 42) #[] #[]) w) (fun t16 w =>
  Hx.Gd t12 false (Hx.Cf Try.prog 44 ⟨[t15, t16]⟩) (fun t17 w =>
  Hx.Pu Try.prog (Hx.pickS t12 (Go.Value.bool true) t17) (fun t18 w =>
  Hx.iteE t18 (
  K (Go.Value.int Go.IntKind.i64 91) w) (
  Hx.Rd Try.prog (Go.Instr.loadAt 27 t2) (fun t20 w =>
  Hx.Cf Try.prog 45 ⟨[t20, t1]⟩ (fun t22 w =>
  Hx.Pu Try.prog (Go.Op.unary .not t22) (fun t23 w =>
  Hx.Gd t23 false (Hx.Pu Try.prog (Go.Instr.fieldAt 27 t2 3)) (fun t25 w =>
  Hx.Gd t23 false (Hx.Rd Try.prog (Go.Instr.loadAt 25 t25)) (fun t26 w =>
  Hx.Gd t23 false (fun K w => K (Go.Value.func (Go.Fn.func 43) #[] #[]) w) (fun t27 w =>
  Hx.Gd t23 false (Hx.Cf Try.prog 46 ⟨[t26, t27]⟩) (fun t28 w =>
  Hx.Pu Try.prog (Hx.pickS t23 (Go.Value.bool true) t28) (fun t29 w =>
  Hx.Gd t29 false (Hx.Pu Try.prog (Go.Instr.fieldAt 27 t2 1)) (fun t31 w =>
  Hx.Gd t29 false (Hx.Rd Try.prog (Go.Instr.loadAt 24 t31)) (fun t32 w =>
  Hx.Gd t29 false (Hx.Cf Try.prog 47 ⟨[t32]⟩) (fun t33 w =>
  Hx.Gd t29 false (Hx.Pu Try.prog (Go.Op.unary .not t33)) (fun t34 w =>
  Hx.Pu Try.prog (Hx.pickS t29 (Go.Value.bool true) t34) (fun t35 w =>
  Hx.iteE t35 (
  K (Go.Value.int Go.IntKind.i64 90) w) (
  K (Go.Value.int Go.IntKind.i64 0) w)) w) w) w) w) w) w) w) w) w) w) w) w) w)) w) w) w) w) w) w) w) w) w

def H33_a : Hx.Ann := ⟨Hx.lookC Hconv, Hx.lookL []⟩

theorem H33_eq (t0 t1 : Go.Value) (K : Go.Value → Go.World → Prop) (w : Go.World) : H33 t0 t1 K w = Hx.wpE Try.prog H33_a (Hx.bodyOf Try.f33) (Hx.retQ Try.prog Try.f33.results K) (Hx.argE [t0, t1]) [] w := by kernel_rfl

theorem H33_ok (t0 t1 : Go.Value) {K : Go.Value → Go.World → Prop} {w : Go.World} (h : H33 t0 t1 K w) : Go.Calls Try.prog 33 #[t0, t1] w (Hx.RetK K) :=
  Hx.calls_of_wpE (A := H33_a) Try.func33 rfl (by kernel_rfl) (by kernel_rfl) (by simp [Try.ntmps33]) (H33_eq t0 t1 K w ▸ h)

theorem H33_in (t0 t1 : Go.Value) {R : Go.Value → Go.World → Prop} {w : Go.World} (h : ∀ K : Go.Value → Go.World → Prop, (∀ v w', R v w' → K v w') → H33 t0 t1 K w) : Go.Calls Try.prog 33 #[t0, t1] w (Hx.RetK R) := H33_ok t0 t1 (h R fun _ _ h => h)

/-- slices.rotateRight[string] -/
def H35 (t0 t1 : Go.Value) (K : Go.Value → Go.World → Prop) (w : Go.World) : Prop :=
  Hx.Rd Try.prog (Go.Builtin.len_ #[24] 3 ⟨[t0]⟩) (fun t6 w =>
  Hx.Pu Try.prog (Hx.binS .sub 3 (Go.Operand.tmp 6) (Go.Operand.tmp 7) t6 t1) (fun t8 w =>
  Hx.Cf Try.prog 48 ⟨[t0, t8]⟩ (fun t9 w =>
  K (Go.Value.tuple #[]) w) w) w) w

def H35_a : Hx.Ann := ⟨Hx.lookC Hconv, Hx.lookL []⟩

theorem H35_eq (t0 t1 : Go.Value) (K : Go.Value → Go.World → Prop) (w : Go.World) : H35 t0 t1 K w = Hx.wpE Try.prog H35_a (Hx.bodyOf Try.f35) (Hx.retQ Try.prog Try.f35.results K) (Hx.argE [t0, t1]) [] w := by kernel_rfl

theorem H35_ok (t0 t1 : Go.Value) {K : Go.Value → Go.World → Prop} {w : Go.World} (h : H35 t0 t1 K w) : Go.Calls Try.prog 35 #[t0, t1] w (Hx.RetK K) :=
  Hx.calls_of_wpE (A := H35_a) Try.func35 rfl (by kernel_rfl) (by kernel_rfl) (by simp [Try.ntmps35]) (H35_eq t0 t1 K w ▸ h)

theorem H35_in (t0 t1 : Go.Value) {R : Go.Value → Go.World → Prop} {w : Go.World} (h : ∀ K : Go.Value → Go.World → Prop, (∀ v w', R v w' → K v w') → H35 t0 t1 K w) : Go.Calls Try.prog 35 #[t0, t1] w (Hx.RetK R) := H35_ok t0 t1 (h R fun _ _ h => h)

/-- (*dedup/codec.Writer).put -/
def H36 (t0 t1 : Go.Value) (K : Go.Value → Go.World → Prop) (w : Go.World) : Prop :=
  Hx.Rd Try.prog (Hx.binS .eql 51 (Go.Operand.tmp 14) (Go.Operand.const (Go.Value.pointer none)) t0 (Go.Value.pointer none)) (fun t15 w =>
  Hx.Gd t15 false (fun K w => K t0 w) (fun t17 w =>
  Hx.Gd t15 false (Hx.Pu Try.prog (Hx.nilS t17)) (fun t18 w =>
  Hx.Gd t15 false (Hx.Pu Try.prog (Go.Instr.fieldAt 70 t18 2)) (fun t19 w =>
  Hx.Gd t15 false (Hx.Rd Try.prog (Go.Instr.loadAt 4 t19)) (fun t20 w =>
  Hx.Pu Try.prog (Hx.pickS t15 (Go.Value.bool true) t20) (fun t21 w =>
  Hx.iteE t21 (
  K (Go.Value.tuple #[]) w) (
  Hx.drw (fun w =>
  Hx.Rd Try.prog (Go.Builtin.len_ #[37] 3 ⟨[t1]⟩) (fun t24 w =>
  Hx.Pu Try.prog (Hx.nilS t0) (fun t26 w =>
  Hx.Pu Try.prog (Go.Instr.fieldAt 70 t26 0) (fun t27 w =>
  Hx.Rd Try.prog (Go.Instr.loadAt 3 t27) (fun t28 w =>
  Hx.Pu Try.prog (Hx.nilS t0) (fun t30 w =>
  Hx.Pu Try.prog (Go.Instr.fieldAt 70 t30 1) (fun t31 w =>
  Hx.Rd Try.prog (Go.Instr.loadAt 37 t31) (fun t32 w =>
  Hx.Rd Try.prog (Go.Builtin.len_ #[37] 3 ⟨[t32]⟩) (fun t33 w =>
  Hx.Pu Try.prog (Hx.binS .sub 3 (Go.Operand.tmp 28) (Go.Operand.tmp 33) t28 t33) (fun t34 w =>
  Hx.Pu Try.prog (Hx.binS .gtr 3 (Go.Operand.tmp 24) (Go.Operand.tmp 34) t24 t34) (fun t35 w =>
  Hx.iteE t35 (
  Hx.Pu Try.prog (Hx.nilS t0) (fun t37 w =>
  Hx.Pu Try.prog (Go.Instr.fieldAt 70 t37 2) (fun t38 w =>
  Hx.Uu Try.prog (Go.Instr.storeAt 4 t38 (Go.Value.bool true)) (fun _ w =>
  K (Go.Value.tuple #[]) w) w) w) w) (
  Hx.Pu Try.prog (Hx.nilS t0) (fun t6 w =>
  Hx.Pu Try.prog (Go.Instr.fieldAt 70 t6 1) (fun t7 w =>
  Hx.Rd Try.prog (Go.Instr.loadAt 37 t7) (fun t8 w =>
  Hx.Rr Try.prog (Go.Builtin.append_ #[37, 37] 37 ⟨[t8, t1]⟩) (fun t10 w =>
  Hx.Pu Try.prog (Hx.nilS t0) (fun t11 w =>
  Hx.Pu Try.prog (Go.Instr.fieldAt 70 t11 1) (fun t12 w =>
  Hx.Uu Try.prog (Go.Instr.storeAt 37 t12 t10) (fun _ w =>
  K (Go.Value.tuple #[]) w) w) w) w) w) w) w) w)) w) w) w) w) w) w) w) w) w) w) w)) w) w) w) w) w) w

def H36_a : Hx.Ann := ⟨Hx.lookC Hconv, Hx.lookL []⟩

theorem H36_eq (t0 t1 : Go.Value) (K : Go.Value → Go.World → Prop) (w : Go.World) : H36 t0 t1 K w = Hx.wpE Try.prog H36_a (Hx.bodyOf Try.f36) (Hx.retQ Try.prog Try.f36.results K) (Hx.argE [t0, t1]) [] w := by kernel_rfl

theorem H36_ok (t0 t1 : Go.Value) {K : Go.Value → Go.World → Prop} {w : Go.World} (h : H36 t0 t1 K w) : Go.Calls Try.prog 36 #[t0, t1] w (Hx.RetK K) :=
  Hx.calls_of_wpE (A := H36_a) Try.func36 rfl (by kernel_rfl) (by kernel_rfl) (by simp [Try.ntmps36]) (H36_eq t0 t1 K w ▸ h)

theorem H36_in (t0 t1 : Go.Value) {R : Go.Value → Go.World → Prop} {w : Go.World} (h : ∀ K : Go.Value → Go.World → Prop, (∀ v w', R v w' → K v w') → H36 t0 t1 K w) : Go.Calls Try.prog 36 #[t0, t1] w (Hx.RetK R) := H36_ok t0 t1 (h R fun _ _ h => h)

def H37_1 (t0 : Go.Value) (t2 : Go.Value) (t6 : Go.Value) (t11 : Go.Value) (K : Go.Value → Go.World → Prop) (u junk : Nat → Go.Value) (nx1 : Hx.Inv) (ds : List Nat) (w : Go.World) : Prop :=
  Hx.Pu Try.prog (Hx.binS .lss 3 (Go.Operand.tmp 12) (Go.Operand.tmp 11) (u 1) t11) (fun t13 w =>
  Hx.iteE t13 (
  Hx.Pu Try.prog (Hx.binS .sub 3 (Go.Operand.tmp 16) (Go.Operand.const (Go.Value.int Go.IntKind.i64 1)) t2 (Go.Value.int Go.IntKind.i64 1)) (fun t17 w =>
  Hx.Pu Try.prog (Hx.binS .sub 3 (Go.Operand.tmp 17) (Go.Operand.tmp 18) t17 (u 1)) (fun t19 w =>
  Hx.Pu Try.prog (Go.Instr.indexAt 37 t6 t19) (fun t21 w =>
  Hx.Uu Try.prog (Go.Instr.storeAt 5 t21 (u 0)) (fun _ w =>
  Hx.Pu Try.prog (Hx.binS .shr 5 (Go.Operand.tmp 22) (Go.Operand.const (Go.Value.int Go.IntKind.u64 4)) (u 0) (Go.Value.int Go.IntKind.u64 4)) (fun t23 w =>
  Hx.Pu Try.prog (Hx.binS .shr 5 (Go.Operand.tmp 24) (Go.Operand.const (Go.Value.int Go.IntKind.u64 4)) t23 (Go.Value.int Go.IntKind.u64 4)) (fun t25 w =>
  Hx.Pu Try.prog (Hx.binS .add 3 (Go.Operand.tmp 12) (Go.Operand.const (Go.Value.int Go.IntKind.i64 1)) (u 1) (Go.Value.int Go.IntKind.i64 1)) (fun t26 w =>
  nx1 (Hx.vec [t25, t26]) ds w) w) w) w) w) w) w) w) (
  Hx.Cf Try.prog 36 ⟨[t0, t6]⟩ (fun t29 w =>
  Hx.retH ds (K (Go.Value.tuple #[]) w)) w)) w

/-- dedup/codec.number[uint8] -/
def H37 (t0 t1 t2 : Go.Value) (K : Go.Value → Go.World → Prop) (w : Go.World) : Prop :=
  Hx.Rr Try.prog (Go.Instr.makeSlice 37 t2 t2) (fun t9 w =>
  Hx.Rd Try.prog (Go.Builtin.len_ #[37] 3 ⟨[t9]⟩) (fun t11 w =>
  Hx.loopH (Hx.vec [t1, (Go.Value.int Go.IntKind.i64 0)]) [] (H37_1 t0 t2 t9 t11 K) w) w) w

def H37_a : Hx.Ann := ⟨Hx.lookC Hconv, Hx.lookL [(2, [1, 12])]⟩

theorem H37_eq (t0 t1 t2 : Go.Value) (K : Go.Value → Go.World → Prop) (w : Go.World) : H37 t0 t1 t2 K w = Hx.wpE Try.prog H37_a (Hx.bodyOf Try.f37) (Hx.retQ Try.prog Try.f37.results K) (Hx.argE [t0, t1, t2]) [] w := by kernel_rfl

theorem H37_ok (t0 t1 t2 : Go.Value) {K : Go.Value → Go.World → Prop} {w : Go.World} (h : H37 t0 t1 t2 K w) : Go.Calls Try.prog 37 #[t0, t1, t2] w (Hx.RetK K) :=
  Hx.calls_of_wpE (A := H37_a) Try.func37 rfl (by kernel_rfl) (by kernel_rfl) (by simp [Try.ntmps37]) (H37_eq t0 t1 t2 K w ▸ h)

theorem H37_in (t0 t1 t2 : Go.Value) {R : Go.Value → Go.World → Prop} {w : Go.World} (h : ∀ K : Go.Value → Go.World → Prop, (∀ v w', R v w' → K v w') → H37 t0 t1 t2 K w) : Go.Calls Try.prog 37 #[t0, t1, t2] w (Hx.RetK R) := H37_ok t0 t1 t2 (h R fun _ _ h => h)

def H38_1 (t0 : Go.Value) (t2 : Go.Value) (t6 : Go.Value) (t11 : Go.Value) (K : Go.Value → Go.World → Prop) (u junk : Nat → Go.Value) (nx1 : Hx.Inv) (ds : List Nat) (w : Go.World) : Prop :=
  Hx.Pu Try.prog (Hx.binS .lss 3 (Go.Operand.tmp 12) (Go.Operand.tmp 11) (u 1) t11) (fun t13 w =>
  Hx.iteE t13 (
  Hx.Pu Try.prog (Hx.binS .sub 3 (Go.Operand.tmp 16) (Go.Operand.const (Go.Value.int Go.IntKind.i64 1)) t2 (Go.Value.int Go.IntKind.i64 1)) (fun t17 w =>
  Hx.Pu Try.prog (Hx.binS .sub 3 (Go.Operand.tmp 17) (Go.Operand.tmp 18) t17 (u 1)) (fun t19 w =>
  Hx.Pu Try.prog (Go.convert 56 5 (u 0)) (fun t21 w =>
  Hx.Pu Try.prog (Go.Instr.indexAt 37 t6 t19) (fun t22 w =>
  Hx.Uu Try.prog (Go.Instr.storeAt 5 t22 t21) (fun _ w =>
  Hx.Pu Try.prog (Hx.binS .shr 56 (Go.Operand.tmp 23) (Go.Operand.const (Go.Value.int Go.IntKind.u64 4)) (u 0) (Go.Value.int Go.IntKind.u64 4)) (fun t24 w =>
  Hx.Pu Try.prog (Hx.binS .shr 56 (Go.Operand.tmp 25) (Go.Operand.const (Go.Value.int Go.IntKind.u64 4)) t24 (Go.Value.int Go.IntKind.u64 4)) (fun t26 w =>
  Hx.Pu Try.prog (Hx.binS .add 3 (Go.Operand.tmp 12) (Go.Operand.const (Go.Value.int Go.IntKind.i64 1)) (u 1) (Go.Value.int Go.IntKind.i64 1)) (fun t27 w =>
  nx1 (Hx.vec [t26, t27]) ds w) w) w) w) w) w) w) w) w) (
  Hx.Cf Try.prog 36 ⟨[t0, t6]⟩ (fun t30 w =>
  Hx.retH ds (K (Go.Value.tuple #[]) w)) w)) w

/-- dedup/codec.number[uint16] -/
def H38 (t0 t1 t2 : Go.Value) (K : Go.Value → Go.World → Prop) (w : Go.World) : Prop :=
  Hx.Rr Try.prog (Go.Instr.makeSlice 37 t2 t2) (fun t9 w =>
  Hx.Rd Try.prog (Go.Builtin.len_ #[37] 3 ⟨[t9]⟩) (fun t11 w =>
  Hx.loopH (Hx.vec [t1, (Go.Value.int Go.IntKind.i64 0)]) [] (H38_1 t0 t2 t9 t11 K) w) w) w

def H38_a : Hx.Ann := ⟨Hx.lookC Hconv, Hx.lookL [(2, [1, 12])]⟩

theorem H38_eq (t0 t1 t2 : Go.Value) (K : Go.Value → Go.World → Prop) (w : Go.World) : H38 t0 t1 t2 K w = Hx.wpE Try.prog H38_a (Hx.bodyOf Try.f38) (Hx.retQ Try.prog Try.f38.results K) (Hx.argE [t0, t1, t2]) [] w := by kernel_rfl

theorem H38_ok (t0 t1 t2 : Go.Value) {K : Go.Value → Go.World → Prop} {w : Go.World} (h : H38 t0 t1 t2 K w) : Go.Calls Try.prog 38 #[t0, t1, t2] w (Hx.RetK K) :=
  Hx.calls_of_wpE (A := H38_a) Try.func38 rfl (by kernel_rfl) (by kernel_rfl) (by simp [Try.ntmps38]) (H38_eq t0 t1 t2 K w ▸ h)

theorem H38_in (t0 t1 t2 : Go.Value) {R : Go.Value → Go.World → Prop} {w : Go.World} (h : ∀ K : Go.Value → Go.World → Prop, (∀ v w', R v w' → K v w') → H38 t0 t1 t2 K w) : Go.Calls Try.prog 38 #[t0, t1, t2] w (Hx.RetK R) := H38_ok t0 t1 t2 (h R fun _ _ h => h)

def H39_1 (t0 : Go.Value) (t2 : Go.Value) (t6 : Go.Value) (t11 : Go.Value) (K : Go.Value → Go.World → Prop) (u junk : Nat → Go.Value) (nx1 : Hx.Inv) (ds : List Nat) (w : Go.World) : Prop :=
  Hx.Pu Try.prog (Hx.binS .lss 3 (Go.Operand.tmp 12) (Go.Operand.tmp 11) (u 1) t11) (fun t13 w =>
  Hx.iteE t13 (
  Hx.Pu Try.prog (Hx.binS .sub 3 (Go.Operand.tmp 16) (Go.Operand.const (Go.Value.int Go.IntKind.i64 1)) t2 (Go.Value.int Go.IntKind.i64 1)) (fun t17 w =>
  Hx.Pu Try.prog (Hx.binS .sub 3 (Go.Operand.tmp 17) (Go.Operand.tmp 18) t17 (u 1)) (fun t19 w =>
  Hx.Pu Try.prog (Go.convert 58 5 (u 0)) (fun t21 w =>
  Hx.Pu Try.prog (Go.Instr.indexAt 37 t6 t19) (fun t22 w =>
  Hx.Uu Try.prog (Go.Instr.storeAt 5 t22 t21) (fun _ w =>
  Hx.Pu Try.prog (Hx.binS .shr 58 (Go.Operand.tmp 23) (Go.Operand.const (Go.Value.int Go.IntKind.u64 4)) (u 0) (Go.Value.int Go.IntKind.u64 4)) (fun t24 w =>
  Hx.Pu Try.prog (Hx.binS .shr 58 (Go.Operand.tmp 25) (Go.Operand.const (Go.Value.int Go.IntKind.u64 4)) t24 (Go.Value.int Go.IntKind.u64 4)) (fun t26 w =>
  Hx.Pu Try.prog (Hx.binS .add 3 (Go.Operand.tmp 12) (Go.Operand.const (Go.Value.int Go.IntKind.i64 1)) (u 1) (Go.Value.int Go.IntKind.i64 1)) (fun t27 w =>
  nx1 (Hx.vec [t26, t27]) ds w) w) w) w) w) w) w) w) w) (
  Hx.Cf Try.prog 36 ⟨[t0, t6]⟩ (fun t30 w =>
  Hx.retH ds (K (Go.Value.tuple #[]) w)) w)) w

/-- dedup/codec.number[uint32] -/
def H39 (t0 t1 t2 : Go.Value) (K : Go.Value → Go.World → Prop) (w : Go.World) : Prop :=
  Hx.Rr Try.prog (Go.Instr.makeSlice 37 t2 t2) (fun t9 w =>
  Hx.Rd Try.prog (Go.Builtin.len_ #[37] 3 ⟨[t9]⟩) (fun t11 w =>
  Hx.loopH (Hx.vec [t1, (Go.Value.int Go.IntKind.i64 0)]) [] (H39_1 t0 t2 t9 t11 K) w) w) w

def H39_a : Hx.Ann := ⟨Hx.lookC Hconv, Hx.lookL [(2, [1, 12])]⟩

theorem H39_eq (t0 t1 t2 : Go.Value) (K : Go.Value → Go.World → Prop) (w : Go.World) : H39 t0 t1 t2 K w = Hx.wpE Try.prog H39_a (Hx.bodyOf Try.f39) (Hx.retQ Try.prog Try.f39.results K) (Hx.argE [t0, t1, t2]) [] w := by kernel_rfl

theorem H39_ok (t0 t1 t2 : Go.Value) {K : Go.Value → Go.World → Prop} {w : Go.World} (h : H39 t0 t1 t2 K w) : Go.Calls Try.prog 39 #[t0, t1, t2] w (Hx.RetK K) :=
  Hx.calls_of_wpE (A := H39_a) Try.func39 rfl (by kernel_rfl) (by kernel_rfl) (by simp [Try.ntmps39]) (H39_eq t0 t1 t2 K w ▸ h)

theorem H39_in (t0 t1 t2 : Go.Value) {R : Go.Value → Go.World → Prop} {w : Go.World} (h : ∀ K : Go.Value → Go.World → Prop, (∀ v w', R v w' → K v w') → H39 t0 t1 t2 K w) : Go.Calls Try.prog 39 #[t0, t1, t2] w (Hx.RetK R) := H39_ok t0 t1 t2 (h R fun _ _ h => h)

/-- sort.SearchStrings$1 -/
def H40 (t0 t1 t2 : Go.Value) (K : Go.Value → Go.World → Prop) (w : Go.World) : Prop :=
  Hx.drw (fun w =>
  Hx.Rd Try.prog (Go.Instr.loadAt 24 t1) (fun t5 w =>
  Hx.Pu Try.prog (Go.Instr.indexAt 24 t5 t0) (fun t7 w =>
  Hx.Rd Try.prog (Go.Instr.loadAt 9 t7) (fun t8 w =>
  Hx.Rd Try.prog (Go.Instr.loadAt 9 t2) (fun t9 w =>
  Hx.Pu Try.prog (Hx.binS .geq 9 (Go.Operand.tmp 8) (Go.Operand.tmp 9) t8 t9) (fun t10 w =>
  K t10 w) w) w) w) w) w) w

def H40_a : Hx.Ann := ⟨Hx.lookC Hconv, Hx.lookL []⟩

theorem H40_eq (t0 t1 t2 : Go.Value) (K : Go.Value → Go.World → Prop) (w : Go.World) : H40 t0 t1 t2 K w = Hx.wpE Try.prog H40_a (Hx.bodyOf Try.f40) (Hx.retQ Try.prog Try.f40.results K) (Hx.argE [t0, t1, t2]) [] w := by kernel_rfl

theorem H40_ok (t0 t1 t2 : Go.Value) {K : Go.Value → Go.World → Prop} {w : Go.World} (h : H40 t0 t1 t2 K w) : Go.Calls Try.prog 40 #[t0, t1, t2] w (Hx.RetK K) :=
  Hx.calls_of_wpE (A := H40_a) Try.func40 rfl (by kernel_rfl) (by kernel_rfl) (by simp [Try.ntmps40]) (H40_eq t0 t1 t2 K w ▸ h)

theorem H40_in (t0 t1 t2 : Go.Value) {R : Go.Value → Go.World → Prop} {w : Go.World} (h : ∀ K : Go.Value → Go.World → Prop, (∀ v w', R v w' → K v w') → H40 t0 t1 t2 K w) : Go.Calls Try.prog 40 #[t0, t1, t2] w (Hx.RetK R) := H40_ok t0 t1 t2 (h R fun _ _ h => h)

/-- dedup/node.check$1 -/
def H41 (t0 : Go.Value) (K : Go.Value → Go.World → Prop) (w : Go.World) : Prop :=
  Hx.Cf Try.prog 15 ⟨[t0]⟩ (fun t4 w =>
  Hx.Pu Try.prog (Go.Op.unary .not t4) (fun t5 w =>
  K t5 w) w) w

def H41_a : Hx.Ann := ⟨Hx.lookC Hconv, Hx.lookL []⟩

theorem H41_eq (t0 : Go.Value) (K : Go.Value → Go.World → Prop) (w : Go.World) : H41 t0 K w = Hx.wpE Try.prog H41_a (Hx.bodyOf Try.f41) (Hx.retQ Try.prog Try.f41.results K) (Hx.argE [t0]) [] w := by kernel_rfl

theorem H41_ok (t0 : Go.Value) {K : Go.Value → Go.World → Prop} {w : Go.World} (h : H41 t0 K w) : Go.Calls Try.prog 41 #[t0] w (Hx.RetK K) :=
  Hx.calls_of_wpE (A := H41_a) Try.func41 rfl (by kernel_rfl) (by kernel_rfl) (by simp [Try.ntmps41]) (H41_eq t0 K w ▸ h)

theorem H41_in (t0 : Go.Value) {R : Go.Value → Go.World → Prop} {w : Go.World} (h : ∀ K : Go.Value → Go.World → Prop, (∀ v w', R v w' → K v w') → H41 t0 K w) : Go.Calls Try.prog 41 #[t0] w (Hx.RetK R) := H41_ok t0 (h R fun _ _ h => h)

/-- dedup/node.check$2 -/
def H42 (t0 : Go.Value) (K : Go.Value → Go.World → Prop) (w : Go.World) : Prop :=
  Hx.Cf Try.prog 16 ⟨[t0]⟩ (fun t4 w =>
  Hx.Pu Try.prog (Go.Op.unary .not t4) (fun t5 w =>
  K t5 w) w) w

def H42_a : Hx.Ann := ⟨Hx.lookC Hconv, Hx.lookL []⟩

theorem H42_eq (t0 : Go.Value) (K : Go.Value → Go.World → Prop) (w : Go.World) : H42 t0 K w = Hx.wpE Try.prog H42_a (Hx.bodyOf Try.f42) (Hx.retQ Try.prog Try.f42.results K) (Hx.argE [t0]) [] w := by kernel_rfl

theorem H42_ok (t0 : Go.Value) {K : Go.Value → Go.World → Prop} {w : Go.World} (h : H42 t0 K w) : Go.Calls Try.prog 42 #[t0] w (Hx.RetK K) :=
  Hx.calls_of_wpE (A := H42_a) Try.func42 rfl (by kernel_rfl) (by kernel_rfl) (by simp [Try.ntmps42]) (H42_eq t0 K w ▸ h)

theorem H42_in (t0 : Go.Value) {R : Go.Value → Go.World → Prop} {w : Go.World} (h : ∀ K : Go.Value → Go.World → Prop, (∀ v w', R v w' → K v w') → H42 t0 K w) : Go.Calls Try.prog 42 #[t0] w (Hx.RetK R) := H42_ok t0 (h R fun _ _ h => h)

/-- dedup/node.check$3 -/
def H43 (t0 : Go.Value) (K : Go.Value → Go.World → Prop) (w : Go.World) : Prop :=
  Hx.Pu Try.prog (Hx.binS .lss 3 (Go.Operand.tmp 3) (Go.Operand.const (Go.Value.int Go.IntKind.i64 0)) t0 (Go.Value.int Go.IntKind.i64 0)) (fun t4 w =>
  Hx.Gd t4 false (fun K w => K t0 w) (fun t6 w =>
  Hx.Gd t4 false (Hx.Pu Try.prog (Hx.binS .gtr 3 (Go.Operand.tmp 6) (Go.Operand.const (Go.Value.int Go.IntKind.i64 4294967295)) t6 (Go.Value.int Go.IntKind.i64 4294967295))) (fun t7 w =>
  Hx.Pu Try.prog (Hx.pickS t4 (Go.Value.bool true) t7) (fun t8 w =>
  K t8 w) w) w) w) w

def H43_a : Hx.Ann := ⟨Hx.lookC Hconv, Hx.lookL []⟩

theorem H43_eq (t0 : Go.Value) (K : Go.Value → Go.World → Prop) (w : Go.World) : H43 t0 K w = Hx.wpE Try.prog H43_a (Hx.bodyOf Try.f43) (Hx.retQ Try.prog Try.f43.results K) (Hx.argE [t0]) [] w := by kernel_rfl

theorem H43_ok (t0 : Go.Value) {K : Go.Value → Go.World → Prop} {w : Go.World} (h : H43 t0 K w) : Go.Calls Try.prog 43 #[t0] w (Hx.RetK K) :=
  Hx.calls_of_wpE (A := H43_a) Try.func43 rfl (by kernel_rfl) (by kernel_rfl) (by simp [Try.ntmps43]) (H43_eq t0 K w ▸ h)

theorem H43_in (t0 : Go.Value) {R : Go.Value → Go.World → Prop} {w : Go.World} (h : ∀ K : Go.Value → Go.World → Prop, (∀ v w', R v w' → K v w') → H43 t0 K w) : Go.Calls Try.prog 43 #[t0] w (Hx.RetK R) := H43_ok t0 (h R fun _ _ h => h)

/-- slices.ContainsFunc[[]string,string] -/
def H44 (t0 t1 : Go.Value) (K : Go.Value → Go.World → Prop) (w : Go.World) : Prop :=
  Hx.Cf Try.prog 49 ⟨[t0, t1]⟩ (fun t7 w =>
  Hx.Pu Try.prog (Hx.binS .geq 3 (Go.Operand.tmp 7) (Go.Operand.const (Go.Value.int Go.IntKind.i64 0)) t7 (Go.Value.int Go.IntKind.i64 0)) (fun t8 w =>
  K t8 w) w) w

def H44_a : Hx.Ann := ⟨Hx.lookC Hconv, Hx.lookL []⟩

theorem H44_eq (t0 t1 : Go.Value) (K : Go.Value → Go.World → Prop) (w : Go.World) : H44 t0 t1 K w = Hx.wpE Try.prog H44_a (Hx.bodyOf Try.f44) (Hx.retQ Try.prog Try.f44.results K) (Hx.argE [t0, t1]) [] w := by kernel_rfl

theorem H44_ok (t0 t1 : Go.Value) {K : Go.Value → Go.World → Prop} {w : Go.World} (h : H44 t0 t1 K w) : Go.Calls Try.prog 44 #[t0, t1] w (Hx.RetK K) :=
  Hx.calls_of_wpE (A := H44_a) Try.func44 rfl (by kernel_rfl) (by kernel_rfl) (by simp [Try.ntmps44]) (H44_eq t0 t1 K w ▸ h)

theorem H44_in (t0 t1 : Go.Value) {R : Go.Value → Go.World → Prop} {w : Go.World} (h : ∀ K : Go.Value → Go.World → Prop, (∀ v w', R v w' → K v w') → H44 t0 t1 K w) : Go.Calls Try.prog 44 #[t0, t1] w (Hx.RetK R) := H44_ok t0 t1 (h R fun _ _ h => h)

/-- dedup/node.shaped -/
def H45 (t0 t1 : Go.Value) (K : Go.Value → Go.World → Prop) (w : Go.World) : Prop :=
  Hx.Rr Try.prog (Go.Instr.box 27 t0) (fun t2 w =>
  Hx.Pu Try.prog (Go.Instr.fieldAt 27 t2 0) (fun t5 w =>
  Hx.Rd Try.prog (Go.Instr.loadAt 4 t5) (fun t6 w =>
  Hx.iteE t6 (
  Hx.Pu Try.prog (Go.Instr.fieldAt 27 t2 2) (fun t7 w =>
  Hx.Rd Try.prog (Go.Instr.loadAt 24 t7) (fun t8 w =>
  Hx.Rd Try.prog (Go.Builtin.len_ #[24] 3 ⟨[t8]⟩) (fun t9 w =>
  Hx.Pu Try.prog (Go.Instr.fieldAt 27 t2 1) (fun t10 w =>
  Hx.Rd Try.prog (Go.Instr.loadAt 24 t10) (fun t11 w =>
  Hx.Rd Try.prog (Go.Builtin.len_ #[24] 3 ⟨[t11]⟩) (fun t12 w =>
  Hx.Rd Try.prog (Hx.binS .eql 3 (Go.Operand.tmp 9) (Go.Operand.tmp 12) t9 t12) (fun t13 w =>
  Hx.Gd t13 true (Hx.Pu Try.prog (Go.Instr.fieldAt 27 t2 3)) (fun t15 w =>
  Hx.Gd t13 true (Hx.Rd Try.prog (Go.Instr.loadAt 25 t15)) (fun t16 w =>
  Hx.Gd t13 true (Hx.Rd Try.prog (Go.Builtin.len_ #[25] 3 ⟨[t16]⟩)) (fun t17 w =>
  Hx.Gd t13 true (Hx.Rd Try.prog (Hx.binS .eql 3 (Go.Operand.tmp 17) (Go.Operand.const (Go.Value.int Go.IntKind.i64 0)) t17 (Go.Value.int Go.IntKind.i64 0))) (fun t18 w =>
  Hx.Pu Try.prog (Hx.pickS t13 t18 (Go.Value.bool false)) (fun t19 w =>
  K t19 w) w) w) w) w) w) w) w) w) w) w) w) w) (
  Hx.Pu Try.prog (Go.Instr.fieldAt 27 t2 2) (fun t20 w =>
  Hx.Rd Try.prog (Go.Instr.loadAt 24 t20) (fun t21 w =>
  Hx.Rd Try.prog (Go.Builtin.len_ #[24] 3 ⟨[t21]⟩) (fun t22 w =>
  Hx.Rd Try.prog (Hx.binS .eql 3 (Go.Operand.tmp 22) (Go.Operand.const (Go.Value.int Go.IntKind.i64 0)) t22 (Go.Value.int Go.IntKind.i64 0)) (fun t23 w =>
  Hx.Gd t23 true (Hx.Pu Try.prog (Go.Instr.fieldAt 27 t2 3)) (fun t25 w =>
  Hx.Gd t23 true (Hx.Rd Try.prog (Go.Instr.loadAt 25 t25)) (fun t26 w =>
  Hx.Gd t23 true (Hx.Rd Try.prog (Go.Builtin.len_ #[25] 3 ⟨[t26]⟩)) (fun t27 w =>
  Hx.Gd t23 true (Hx.Pu Try.prog (Go.Instr.fieldAt 27 t2 1)) (fun t28 w =>
  Hx.Gd t23 true (Hx.Rd Try.prog (Go.Instr.loadAt 24 t28)) (fun t29 w =>
  Hx.Gd t23 true (Hx.Rd Try.prog (Go.Builtin.len_ #[24] 3 ⟨[t29]⟩)) (fun t30 w =>
  Hx.Gd t23 true (Hx.Pu Try.prog (Hx.binS .add 3 (Go.Operand.tmp 30) (Go.Operand.const (Go.Value.int Go.IntKind.i64 1)) t30 (Go.Value.int Go.IntKind.i64 1))) (fun t31 w =>
  Hx.Gd t23 true (Hx.Rd Try.prog (Hx.binS .eql 3 (Go.Operand.tmp 27) (Go.Operand.tmp 31) t27 t31)) (fun t32 w =>
  Hx.Pu Try.prog (Hx.pickS t23 t32 (Go.Value.bool false)) (fun t33 w =>
  Hx.Gd t33 true (fun K w => K t1 w) (fun t35 w =>
  Hx.Gd t33 true (fun K w => K t35 w) (fun t36 w =>
  Hx.Gd t36 false (Hx.Pu Try.prog (Go.Instr.fieldAt 27 t2 1)) (fun t37 w =>
  Hx.Gd t36 false (Hx.Rd Try.prog (Go.Instr.loadAt 24 t37)) (fun t38 w =>
  Hx.Gd t36 false (Hx.Rd Try.prog (Go.Builtin.len_ #[24] 3 ⟨[t38]⟩)) (fun t39 w =>
  Hx.Gd t36 false (Hx.Pu Try.prog (Hx.binS .gtr 3 (Go.Operand.tmp 39) (Go.Operand.const (Go.Value.int Go.IntKind.i64 0)) t39 (Go.Value.int Go.IntKind.i64 0))) (fun t40 w =>
  Hx.Gd t33 true (Hx.Pu Try.prog (Hx.pickS t36 (Go.Value.bool true) t40)) (fun t41 w =>
  Hx.Pu Try.prog (Hx.pickS t33 t41 (Go.Value.bool false)) (fun t42 w =>
  K t42 w) w) w) w) w) w) w) w) w) w) w) w) w) w) w) w) w) w) w) w) w) w)) w) w) w

def H45_a : Hx.Ann := ⟨Hx.lookC Hconv, Hx.lookL []⟩

theorem H45_eq (t0 t1 : Go.Value) (K : Go.Value → Go.World → Prop) (w : Go.World) : H45 t0 t1 K w = Hx.wpE Try.prog H45_a (Hx.bodyOf Try.f45) (Hx.retQ Try.prog Try.f45.results K) (Hx.argE [t0, t1]) [] w := by kernel_rfl

theorem H45_ok (t0 t1 : Go.Value) {K : Go.Value → Go.World → Prop} {w : Go.World} (h : H45 t0 t1 K w) : Go.Calls Try.prog 45 #[t0, t1] w (Hx.RetK K) :=
  Hx.calls_of_wpE (A := H45_a) Try.func45 rfl (by kernel_rfl) (by kernel_rfl) (by simp [Try.ntmps45]) (H45_eq t0 t1 K w ▸ h)

theorem H45_in (t0 t1 : Go.Value) {R : Go.Value → Go.World → Prop} {w : Go.World} (h : ∀ K : Go.Value → Go.World → Prop, (∀ v w', R v w' → K v w') → H45 t0 t1 K w) : Go.Calls Try.prog 45 #[t0, t1] w (Hx.RetK R) := H45_ok t0 t1 (h R fun _ _ h => h)

/-- slices.ContainsFunc[[]int,int] -/
def H46 (t0 t1 : Go.Value) (K : Go.Value → Go.World → Prop) (w : Go.World) : Prop :=
  Hx.Cf Try.prog 50 ⟨[t0, t1]⟩ (fun t7 w =>
  Hx.Pu Try.prog (Hx.binS .geq 3 (Go.Operand.tmp 7) (Go.Operand.const (Go.Value.int Go.IntKind.i64 0)) t7 (Go.Value.int Go.IntKind.i64 0)) (fun t8 w =>
  K t8 w) w) w

def H46_a : Hx.Ann := ⟨Hx.lookC Hconv, Hx.lookL []⟩

theorem H46_eq (t0 t1 : Go.Value) (K : Go.Value → Go.World → Prop) (w : Go.World) : H46 t0 t1 K w = Hx.wpE Try.prog H46_a (Hx.bodyOf Try.f46) (Hx.retQ Try.prog Try.f46.results K) (Hx.argE [t0, t1]) [] w := by kernel_rfl

theorem H46_ok (t0 t1 : Go.Value) {K : Go.Value → Go.World → Prop} {w : Go.World} (h : H46 t0 t1 K w) : Go.Calls Try.prog 46 #[t0, t1] w (Hx.RetK K) :=
  Hx.calls_of_wpE (A := H46_a) Try.func46 rfl (by kernel_rfl) (by kernel_rfl) (by simp [Try.ntmps46]) (H46_eq t0 t1 K w ▸ h)

theorem H46_in (t0 t1 : Go.Value) {R : Go.Value → Go.World → Prop} {w : Go.World} (h : ∀ K : Go.Value → Go.World → Prop, (∀ v w', R v w' → K v w') → H46 t0 t1 K w) : Go.Calls Try.prog 46 #[t0, t1] w (Hx.RetK R) := H46_ok t0 t1 (h R fun _ _ h => h)

def H47_1 (t0 : Go.Value) (K : Go.Value → Go.World → Prop) (u junk : Nat → Go.Value) (nx1 : Hx.Inv) (ds : List Nat) (w : Go.World) : Prop :=
  Hx.Rd Try.prog (Go.Builtin.len_ #[24] 3 ⟨[t0]⟩) (fun t6 w =>
  Hx.Pu Try.prog (Hx.binS .lss 3 (Go.Operand.tmp 4) (Go.Operand.tmp 6) (u 0) t6) (fun t7 w =>
  Hx.iteE t7 (
  Hx.drw (fun w =>
  Hx.Pu Try.prog (Hx.binS .sub 3 (Go.Operand.tmp 11) (Go.Operand.const (Go.Value.int Go.IntKind.i64 1)) (u 0) (Go.Value.int Go.IntKind.i64 1)) (fun t12 w =>
  Hx.Pu Try.prog (Go.Instr.indexAt 24 t0 t12) (fun t13 w =>
  Hx.Rd Try.prog (Go.Instr.loadAt 9 t13) (fun t14 w =>
  Hx.Pu Try.prog (Go.Instr.indexAt 24 t0 (u 0)) (fun t17 w =>
  Hx.Rd Try.prog (Go.Instr.loadAt 9 t17) (fun t18 w =>
  Hx.Pu Try.prog (Hx.binS .geq 9 (Go.Operand.tmp 14) (Go.Operand.tmp 18) t14 t18) (fun t19 w =>
  Hx.iteE t19 (
  Hx.retH ds (K (Go.Value.bool false) w)) (
  Hx.Pu Try.prog (Hx.binS .add 3 (Go.Operand.tmp 8) (Go.Operand.const (Go.Value.int Go.IntKind.i64 1)) (u 0) (Go.Value.int Go.IntKind.i64 1)) (fun t9 w =>
  nx1 (Hx.vec [t9]) ds w) w)) w) w) w) w) w) w) w) (
  Hx.retH ds (K (Go.Value.bool true) w))) w) w

/-- dedup/node.rises -/
def H47 (t0 : Go.Value) (K : Go.Value → Go.World → Prop) (w : Go.World) : Prop :=
  Hx.loopH (Hx.vec [(Go.Value.int Go.IntKind.i64 1)]) [] (H47_1 t0 K) w

def H47_a : Hx.Ann := ⟨Hx.lookC Hconv, Hx.lookL [(2, [3])]⟩

theorem H47_eq (t0 : Go.Value) (K : Go.Value → Go.World → Prop) (w : Go.World) : H47 t0 K w = Hx.wpE Try.prog H47_a (Hx.bodyOf Try.f47) (Hx.retQ Try.prog Try.f47.results K) (Hx.argE [t0]) [] w := by kernel_rfl

theorem H47_ok (t0 : Go.Value) {K : Go.Value → Go.World → Prop} {w : Go.World} (h : H47 t0 K w) : Go.Calls Try.prog 47 #[t0] w (Hx.RetK K) :=
  Hx.calls_of_wpE (A := H47_a) Try.func47 rfl (by kernel_rfl) (by kernel_rfl) (by simp [Try.ntmps47]) (H47_eq t0 K w ▸ h)

theorem H47_in (t0 : Go.Value) {R : Go.Value → Go.World → Prop} {w : Go.World} (h : ∀ K : Go.Value → Go.World → Prop, (∀ v w', R v w' → K v w') → H47 t0 K w) : Go.Calls Try.prog 47 #[t0] w (Hx.RetK R) := H47_ok t0 (h R fun _ _ h => h)

/-- slices.rotateLeft[string] -/
def H48 (t0 t1 : Go.Value) (K : Go.Value → Go.World → Prop) (w : Go.World) : Prop :=
  Hx.Pu Try.prog (Go.Instr.sliceAt 24 t0 none (some t1) none) (fun t6 w =>
  Hx.Cf Try.prog 51 ⟨[t6]⟩ (fun t7 w =>
  Hx.Pu Try.prog (Go.Instr.sliceAt 24 t0 (some t1) none none) (fun t10 w =>
  Hx.Cf Try.prog 51 ⟨[t10]⟩ (fun t11 w =>
  Hx.Cf Try.prog 51 ⟨[t0]⟩ (fun t13 w =>
  K (Go.Value.tuple #[]) w) w) w) w) w) w

def H48_a : Hx.Ann := ⟨Hx.lookC Hconv, Hx.lookL []⟩

theorem H48_eq (t0 t1 : Go.Value) (K : Go.Value → Go.World → Prop) (w : Go.World) : H48 t0 t1 K w = Hx.wpE Try.prog H48_a (Hx.bodyOf Try.f48) (Hx.retQ Try.prog Try.f48.results K) (Hx.argE [t0, t1]) [] w := by kernel_rfl

theorem H48_ok (t0 t1 : Go.Value) {K : Go.Value → Go.World → Prop} {w : Go.World} (h : H48 t0 t1 K w) : Go.Calls Try.prog 48 #[t0, t1] w (Hx.RetK K) :=
  Hx.calls_of_wpE (A := H48_a) Try.func48 rfl (by kernel_rfl) (by kernel_rfl) (by simp [Try.ntmps48]) (H48_eq t0 t1 K w ▸ h)

theorem H48_in (t0 t1 : Go.Value) {R : Go.Value → Go.World → Prop} {w : Go.World} (h : ∀ K : Go.Value → Go.World → Prop, (∀ v w', R v w' → K v w') → H48 t0 t1 K w) : Go.Calls Try.prog 48 #[t0, t1] w (Hx.RetK R) := H48_ok t0 t1 (h R fun _ _ h => h)

def H49_1 (t0 : Go.Value) (t1 : Go.Value) (t7 : Go.Value) (K : Go.Value → Go.World → Prop) (u junk : Nat → Go.Value) (nx1 : Hx.Inv) (ds : List Nat) (w : Go.World) : Prop :=
  Hx.Pu Try.prog (Hx.binS .lss 3 (Go.Operand.tmp 8) (Go.Operand.tmp 7) (u 0) t7) (fun t9 w =>
  Hx.iteE t9 (
  Hx.Pu Try.prog (Go.Instr.indexAt 24 t0 (u 0)) (fun t14 w =>
  Hx.Rd Try.prog (Go.Instr.loadAt 9 t14) (fun t15 w =>
  Hx.Cv Try.prog t1 ⟨[t15]⟩ (fun t16 w =>
  Hx.iteE t16 (
  Hx.retH ds (K (u 0) w)) (
  Hx.Pu Try.prog (Hx.binS .add 3 (Go.Operand.tmp 8) (Go.Operand.const (Go.Value.int Go.IntKind.i64 1)) (u 0) (Go.Value.int Go.IntKind.i64 1)) (fun t18 w =>
  nx1 (Hx.vec [t18]) ds w) w)) w) w) w) (
  Hx.retH ds (K (Go.Value.int Go.IntKind.i64 (-1)) w))) w

/-- slices.IndexFunc[[]string,string] -/
def H49 (t0 t1 : Go.Value) (K : Go.Value → Go.World → Prop) (w : Go.World) : Prop :=
  Hx.Rd Try.prog (Go.Builtin.len_ #[24] 3 ⟨[t0]⟩) (fun t7 w =>
  Hx.loopH (Hx.vec [(Go.Value.int Go.IntKind.i64 0)]) [] (H49_1 t0 t1 t7 K) w) w

def H49_a : Hx.Ann := ⟨Hx.lookC Hconv, Hx.lookL [(2, [8])]⟩

theorem H49_eq (t0 t1 : Go.Value) (K : Go.Value → Go.World → Prop) (w : Go.World) : H49 t0 t1 K w = Hx.wpE Try.prog H49_a (Hx.bodyOf Try.f49) (Hx.retQ Try.prog Try.f49.results K) (Hx.argE [t0, t1]) [] w := by kernel_rfl

theorem H49_ok (t0 t1 : Go.Value) {K : Go.Value → Go.World → Prop} {w : Go.World} (h : H49 t0 t1 K w) : Go.Calls Try.prog 49 #[t0, t1] w (Hx.RetK K) :=
  Hx.calls_of_wpE (A := H49_a) Try.func49 rfl (by kernel_rfl) (by kernel_rfl) (by simp [Try.ntmps49]) (H49_eq t0 t1 K w ▸ h)

theorem H49_in (t0 t1 : Go.Value) {R : Go.Value → Go.World → Prop} {w : Go.World} (h : ∀ K : Go.Value → Go.World → Prop, (∀ v w', R v w' → K v w') → H49 t0 t1 K w) : Go.Calls Try.prog 49 #[t0, t1] w (Hx.RetK R) := H49_ok t0 t1 (h R fun _ _ h => h)

def H50_1 (t0 : Go.Value) (t1 : Go.Value) (t7 : Go.Value) (K : Go.Value → Go.World → Prop) (u junk : Nat → Go.Value) (nx1 : Hx.Inv) (ds : List Nat) (w : Go.World) : Prop :=
  Hx.Pu Try.prog (Hx.binS .lss 3 (Go.Operand.tmp 8) (Go.Operand.tmp 7) (u 0) t7) (fun t9 w =>
  Hx.iteE t9 (
  Hx.Pu Try.prog (Go.Instr.indexAt 25 t0 (u 0)) (fun t14 w =>
  Hx.Rd Try.prog (Go.Instr.loadAt 3 t14) (fun t15 w =>
  Hx.Cv Try.prog t1 ⟨[t15]⟩ (fun t16 w =>
  Hx.iteE t16 (
  Hx.retH ds (K (u 0) w)) (
  Hx.Pu Try.prog (Hx.binS .add 3 (Go.Operand.tmp 8) (Go.Operand.const (Go.Value.int Go.IntKind.i64 1)) (u 0) (Go.Value.int Go.IntKind.i64 1)) (fun t18 w =>
  nx1 (Hx.vec [t18]) ds w) w)) w) w) w) (
  Hx.retH ds (K (Go.Value.int Go.IntKind.i64 (-1)) w))) w

/-- slices.IndexFunc[[]int,int] -/
def H50 (t0 t1 : Go.Value) (K : Go.Value → Go.World → Prop) (w : Go.World) : Prop :=
  Hx.Rd Try.prog (Go.Builtin.len_ #[25] 3 ⟨[t0]⟩) (fun t7 w =>
  Hx.loopH (Hx.vec [(Go.Value.int Go.IntKind.i64 0)]) [] (H50_1 t0 t1 t7 K) w) w

def H50_a : Hx.Ann := ⟨Hx.lookC Hconv, Hx.lookL [(2, [8])]⟩

theorem H50_eq (t0 t1 : Go.Value) (K : Go.Value → Go.World → Prop) (w : Go.World) : H50 t0 t1 K w = Hx.wpE Try.prog H50_a (Hx.bodyOf Try.f50) (Hx.retQ Try.prog Try.f50.results K) (Hx.argE [t0, t1]) [] w := by kernel_rfl

theorem H50_ok (t0 t1 : Go.Value) {K : Go.Value → Go.World → Prop} {w : Go.World} (h : H50 t0 t1 K w) : Go.Calls Try.prog 50 #[t0, t1] w (Hx.RetK K) :=
  Hx.calls_of_wpE (A := H50_a) Try.func50 rfl (by kernel_rfl) (by kernel_rfl) (by simp [Try.ntmps50]) (H50_eq t0 t1 K w ▸ h)

theorem H50_in (t0 t1 : Go.Value) {R : Go.Value → Go.World → Prop} {w : Go.World} (h : ∀ K : Go.Value → Go.World → Prop, (∀ v w', R v w' → K v w') → H50 t0 t1 K w) : Go.Calls Try.prog 50 #[t0, t1] w (Hx.RetK R) := H50_ok t0 t1 (h R fun _ _ h => h)

def H51_1 (t0 : Go.Value) (K : Go.Value → Go.World → Prop) (u junk : Nat → Go.Value) (nx1 : Hx.Inv) (ds : List Nat) (w : Go.World) : Prop :=
  Hx.Pu Try.prog (Hx.binS .lss 3 (Go.Operand.tmp 7) (Go.Operand.tmp 8) (u 0) (u 1)) (fun t9 w =>
  Hx.iteE t9 (
  Hx.drw (fun w =>
  Hx.Pu Try.prog (Go.Instr.indexAt 24 t0 (u 1)) (fun t20 w =>
  Hx.Rd Try.prog (Go.Instr.loadAt 9 t20) (fun t21 w =>
  Hx.Pu Try.prog (Go.Instr.indexAt 24 t0 (u 0)) (fun t24 w =>
  Hx.Rd Try.prog (Go.Instr.loadAt 9 t24) (fun t25 w =>
  Hx.Pu Try.prog (Go.Instr.indexAt 24 t0 (u 0)) (fun t26 w =>
  Hx.Uu Try.prog (Go.Instr.storeAt 9 t26 t21) (fun _ w =>
  Hx.Pu Try.prog (Go.Instr.indexAt 24 t0 (u 1)) (fun t27 w =>
  Hx.Uu Try.prog (Go.Instr.storeAt 9 t27 t25) (fun _ w =>
  Hx.Pu Try.prog (Hx.binS .add 3 (Go.Operand.tmp 10) (Go.Operand.const (Go.Value.int Go.IntKind.i64 1)) (u 0) (Go.Value.int Go.IntKind.i64 1)) (fun t11 w =>
  Hx.Pu Try.prog (Hx.binS .sub 3 (Go.Operand.tmp 12) (Go.Operand.const (Go.Value.int Go.IntKind.i64 1)) (u 1) (Go.Value.int Go.IntKind.i64 1)) (fun t13 w =>
  nx1 (Hx.vec [t11, t13]) ds w) w) w) w) w) w) w) w) w) w) w) w) (
  Hx.retH ds (K (Go.Value.tuple #[]) w))) w

/-- slices.Reverse[[]string,string] -/
def H51 (t0 : Go.Value) (K : Go.Value → Go.World → Prop) (w : Go.World) : Prop :=
  Hx.Rd Try.prog (Go.Builtin.len_ #[24] 3 ⟨[t0]⟩) (fun t5 w =>
  Hx.Pu Try.prog (Hx.binS .sub 3 (Go.Operand.tmp 5) (Go.Operand.const (Go.Value.int Go.IntKind.i64 1)) t5 (Go.Value.int Go.IntKind.i64 1)) (fun t6 w =>
  Hx.loopH (Hx.vec [(Go.Value.int Go.IntKind.i64 0), t6]) [] (H51_1 t0 K) w) w) w

def H51_a : Hx.Ann := ⟨Hx.lookC Hconv, Hx.lookL [(1, [2, 3])]⟩

theorem H51_eq (t0 : Go.Value) (K : Go.Value → Go.World → Prop) (w : Go.World) : H51 t0 K w = Hx.wpE Try.prog H51_a (Hx.bodyOf Try.f51) (Hx.retQ Try.prog Try.f51.results K) (Hx.argE [t0]) [] w := by kernel_rfl

theorem H51_ok (t0 : Go.Value) {K : Go.Value → Go.World → Prop} {w : Go.World} (h : H51 t0 K w) : Go.Calls Try.prog 51 #[t0] w (Hx.RetK K) :=
  Hx.calls_of_wpE (A := H51_a) Try.func51 rfl (by kernel_rfl) (by kernel_rfl) (by simp [Try.ntmps51]) (H51_eq t0 K w ▸ h)

theorem H51_in (t0 : Go.Value) {R : Go.Value → Go.World → Prop} {w : Go.World} (h : ∀ K : Go.Value → Go.World → Prop, (∀ v w', R v w' → K v w') → H51 t0 K w) : Go.Calls Try.prog 51 #[t0] w (Hx.RetK R) := H51_ok t0 (h R fun _ _ h => h)

end Go.Proofs
