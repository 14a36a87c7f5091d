/-
  PRINTED BY wip/tools/gen.py, a program of this session: the functions of the program as predicate transformers.
-/
import Derived.Test.YtflndenagilnmaaProg
import Derived.Test.YtflndenagilnmaaEng5
set_option linter.unusedVariables false
set_option maxRecDepth 100000
set_option maxHeartbeats 4000000
namespace Go.Proofs
open Go
def Hconv : List (Nat × Nat × Nat) := [(3, 5, 0), (3, 56, 0), (3, 58, 0), (3, 75, 0), (5, 58, 0), (9, 37, 2), (37, 9, 1), (56, 5, 0), (58, 5, 0), (75, 3, 0)]
/-- gosem.cut.init -/
def H2 (K : Go.Value → Go.World → Prop) (w : Go.World) : Prop :=
  Hx.Cf Try.prog 1 ⟨[]⟩ (fun t0 w =>
  K (Go.Value.tuple #[]) w) w

def H2_a : Hx.Ann := ⟨Hx.lookC Hconv, Hx.lookL []⟩

theorem H2_eq (K : Go.Value → Go.World → Prop) (w : Go.World) : H2  K w = Hx.wpE Try.prog H2_a (Hx.bodyOf Try.f2) (Hx.retQ Try.prog Try.f2.results K) (Hx.argE []) [] w := by kernel_rfl

theorem H2_ok {K : Go.Value → Go.World → Prop} {w : Go.World} (h : H2  K w) : Go.Calls Try.prog 2 #[] w (Hx.RetK K) :=
  Hx.calls_of_wpE (A := H2_a) Try.func2 rfl (by kernel_rfl) (by kernel_rfl) (by simp [Try.ntmps2]) (H2_eq  K w ▸ h)

theorem H2_in {R : Go.Value → Go.World → Prop} {w : Go.World} (h : ∀ K : Go.Value → Go.World → Prop, (∀ v w', R v w' → K v w') → H2  K w) : Go.Calls Try.prog 2 #[] w (Hx.RetK R) := H2_ok  (h R fun _ _ h => h)

def H3_5 (t4 : Go.Value) (t5 : Go.Value) (t6 : Go.Value) (nx1 : Hx.Inv) (ds : List Nat) (w : Go.World) : Prop :=
  Hx.Pu Try.prog (Hx.binS .add 3 (Go.Operand.tmp 20) (Go.Operand.const (Go.Value.int Go.IntKind.i64 1)) t6 (Go.Value.int Go.IntKind.i64 1)) (fun t21 w =>
  nx1 (Hx.vec [t4, t5, t21]) ds w) w

def H3_4 (t3 : Go.Value) (t4 : Go.Value) (t5 : Go.Value) (t6 : Go.Value) (K : Go.Value → Go.World → Prop) (nx1 : Hx.Inv) (ds : List Nat) (w : Go.World) : Prop :=
  Hx.Pu Try.prog (Go.Instr.fieldAt 27 t3 0) (fun t182 w =>
  Hx.Rd Try.prog (Go.Instr.loadAt 4 t182) (fun t183 w =>
  Hx.Pu Try.prog (Go.Op.unary .not t183) (fun t184 w =>
  Hx.Gd t184 false (Hx.Pu Try.prog (Go.Instr.fieldAt 27 t3 1)) (fun t186 w =>
  Hx.Gd t184 false (Hx.Rd Try.prog (Go.Instr.loadAt 24 t186)) (fun t187 w =>
  Hx.Gd t184 false (fun K w => K t4 w) (fun t188 w =>
  Hx.Gd t184 false (Hx.Cf Try.prog 7 ⟨[t187, t188]⟩) (fun t189 w =>
  Hx.Gd t184 false (Hx.Pu Try.prog (Go.Op.unary .not t189)) (fun t190 w =>
  Hx.Pu Try.prog (Hx.pickS t184 (Go.Value.bool true) t190) (fun t191 w =>
  Hx.Gd t191 false (Hx.Pu Try.prog (Go.Instr.fieldAt 27 t3 2)) (fun t193 w =>
  Hx.Gd t191 false (Hx.Rd Try.prog (Go.Instr.loadAt 24 t193)) (fun t194 w =>
  Hx.Gd t191 false (fun K w => K t5 w) (fun t195 w =>
  Hx.Gd t191 false (Hx.Cf Try.prog 7 ⟨[t194, t195]⟩) (fun t196 w =>
  Hx.Gd t191 false (Hx.Pu Try.prog (Go.Op.unary .not t196)) (fun t197 w =>
  Hx.Pu Try.prog (Hx.pickS t191 (Go.Value.bool true) t197) (fun t198 w =>
  Hx.iteE t198 (
  Hx.retH ds (K (Go.Value.bool false) w)) (
  H3_5 t4 t5 t6 nx1 ds w)) w) w) w) w) w) w) w) w) w) w) w) w) w) w) w

def H3_3 (t3 : Go.Value) (t4 : Go.Value) (t5 : Go.Value) (t6 : Go.Value) (t7 : Go.Value) (t8 : Go.Value) (t9 : Go.Value) (t10 : Go.Value) (K : Go.Value → Go.World → Prop) (nx1 : Hx.Inv) (ds : List Nat) (w : Go.World) : Prop :=
  Hx.Rd Try.prog (Hx.binS .neq 4 (Go.Operand.tmp 71) (Go.Operand.tmp 72) t10 t8) (fun t73 w =>
  Hx.iteE t73 (
  Hx.retH ds (K (Go.Value.bool false) w)) (
  Hx.iteE t8 (
  Hx.drw (fun w =>
  Hx.Pu Try.prog (Go.Instr.sliceAt 24 t4 none (some t7) none) (fun t78 w =>
  Hx.Pu Try.prog (Hx.binS .add 3 (Go.Operand.tmp 81) (Go.Operand.const (Go.Value.int Go.IntKind.i64 1)) t7 (Go.Value.int Go.IntKind.i64 1)) (fun t82 w =>
  Hx.Pu Try.prog (Go.Instr.sliceAt 24 t4 (some t82) none none) (fun t83 w =>
  Hx.Rr Try.prog (Go.Instr.buildSlice 24 0 ⟨[]⟩) (fun t75 w =>
  Hx.Rr Try.prog (Go.Builtin.append_ #[24, 24] 24 ⟨[t75, t78]⟩) (fun t79 w =>
  Hx.Rr Try.prog (Go.Builtin.append_ #[24, 24] 24 ⟨[t79, t83]⟩) (fun t84 w =>
  Hx.drw (fun w =>
  Hx.Pu Try.prog (Go.Instr.sliceAt 24 t5 none (some t7) none) (fun t88 w =>
  Hx.Pu Try.prog (Hx.binS .add 3 (Go.Operand.tmp 91) (Go.Operand.const (Go.Value.int Go.IntKind.i64 1)) t7 (Go.Value.int Go.IntKind.i64 1)) (fun t92 w =>
  Hx.Pu Try.prog (Go.Instr.sliceAt 24 t5 (some t92) none none) (fun t93 w =>
  Hx.Rr Try.prog (Go.Instr.buildSlice 24 0 ⟨[]⟩) (fun t85 w =>
  Hx.Rr Try.prog (Go.Builtin.append_ #[24, 24] 24 ⟨[t85, t88]⟩) (fun t89 w =>
  Hx.Rr Try.prog (Go.Builtin.append_ #[24, 24] 24 ⟨[t89, t93]⟩) (fun t94 w =>
  Hx.Rd Try.prog (Go.Instr.loadAt 27 t9) (fun t95 w =>
  Hx.Uu Try.prog (Go.Instr.storeAt 27 t3 t95) (fun _ w =>
  H3_4 t3 t84 t94 t6 K nx1 ds w) w) w) w) w) w) w) w) w) w) w) w) w) w) w) w) w) (
  Hx.Rd Try.prog (Go.Instr.loadAt 27 t9) (fun t95 w =>
  Hx.Uu Try.prog (Go.Instr.storeAt 27 t3 t95) (fun _ w =>
  H3_4 t3 t4 t5 t6 K nx1 ds w) w) w))) w

def H3_8 (t3 : Go.Value) (t4 : Go.Value) (t5 : Go.Value) (t6 : Go.Value) (K : Go.Value → Go.World → Prop) (nx1 : Hx.Inv) (ds : List Nat) (w : Go.World) : Prop :=
  H3_4 t3 t4 t5 t6 K nx1 ds w

def H3_7 (t0 : Go.Value) (t3 : Go.Value) (t4 : Go.Value) (t5 : Go.Value) (t6 : Go.Value) (t7 : Go.Value) (K : Go.Value → Go.World → Prop) (nx1 : Hx.Inv) (ds : List Nat) (w : Go.World) : Prop :=
  Hx.drw (fun w =>
  Hx.Pu Try.prog (Go.Instr.sliceAt 24 t5 none (some t7) none) (fun t169 w =>
  Hx.Pu Try.prog (Go.Instr.indexAt 22 t0 t6) (fun t173 w =>
  Hx.Pu Try.prog (Go.Instr.fieldAt 29 t173 1) (fun t174 w =>
  Hx.Rd Try.prog (Go.Instr.loadAt 9 t174) (fun t175 w =>
  Hx.Pu Try.prog (Go.Instr.sliceAt 24 t5 (some t7) none none) (fun t180 w =>
  (Hx.Rr Try.prog (Go.Instr.buildSlice 24 0 ⟨[]⟩) (fun t166 w =>
  (Hx.Rd Try.prog (Go.Instr.loadAt 9 t174) (fun u w' => u = t175 ∧ w' = w) w) ∧
  (Hx.Rr Try.prog (Go.Builtin.append_ #[24, 24] 24 ⟨[t166, t169]⟩) (fun t170 w =>
  (Hx.Rd Try.prog (Go.Instr.loadAt 9 t174) (fun u w' => u = t175 ∧ w' = w) w) ∧
  Hx.Rr Try.prog (Go.Instr.buildSlice 24 1 ⟨[(0, t175)]⟩) (fun t176 w =>
  Hx.Rr Try.prog (Go.Builtin.append_ #[24, 24] 24 ⟨[t170, t176]⟩) (fun t177 w =>
  Hx.Rr Try.prog (Go.Builtin.append_ #[24, 24] 24 ⟨[t177, t180]⟩) (fun t181 w =>
  H3_8 t3 t4 t181 t6 K nx1 ds w) w) w) w) w) ∧
  (Hx.Rr Try.prog (Go.Instr.buildSlice 24 1 ⟨[(0, t175)]⟩) (fun t176 w =>
  Hx.Rr Try.prog (Go.Builtin.append_ #[24, 24] 24 ⟨[t166, t169]⟩) (fun t170 w =>
  Hx.Rr Try.prog (Go.Builtin.append_ #[24, 24] 24 ⟨[t170, t176]⟩) (fun t177 w =>
  Hx.Rr Try.prog (Go.Builtin.append_ #[24, 24] 24 ⟨[t177, t180]⟩) (fun t181 w =>
  H3_8 t3 t4 t181 t6 K nx1 ds w) w) w) w) w)) w) ∧
  (Hx.Rr Try.prog (Go.Instr.buildSlice 24 1 ⟨[(0, t175)]⟩) (fun t176 w =>
  Hx.Rr Try.prog (Go.Instr.buildSlice 24 0 ⟨[]⟩) (fun t166 w =>
  Hx.Rr Try.prog (Go.Builtin.append_ #[24, 24] 24 ⟨[t166, t169]⟩) (fun t170 w =>
  Hx.Rr Try.prog (Go.Builtin.append_ #[24, 24] 24 ⟨[t170, t176]⟩) (fun t177 w =>
  Hx.Rr Try.prog (Go.Builtin.append_ #[24, 24] 24 ⟨[t177, t180]⟩) (fun t181 w =>
  H3_8 t3 t4 t181 t6 K nx1 ds w) w) w) w) w) w)) w) w) w) w) w) w

def H3_6 (t0 : Go.Value) (t3 : Go.Value) (t4 : Go.Value) (t5 : Go.Value) (t6 : Go.Value) (t7 : Go.Value) (t8 : Go.Value) (t11 : Go.Value) (t12 : Go.Value) (K : Go.Value → Go.World → Prop) (nx1 : Hx.Inv) (ds : List Nat) (w : Go.World) : Prop :=
  Hx.Pu Try.prog (Go.Instr.indexAt 22 t0 t6) (fun t113 w =>
  Hx.Pu Try.prog (Go.Instr.fieldAt 29 t113 0) (fun t114 w =>
  Hx.Rd Try.prog (Go.Instr.loadAt 9 t114) (fun t115 w =>
  Hx.Rd Try.prog (Go.Builtin.len_ #[9] 3 ⟨[t115]⟩) (fun t116 w =>
  Hx.Pu Try.prog (Hx.binS .lss 3 (Go.Operand.tmp 116) (Go.Operand.const (Go.Value.int Go.IntKind.i64 1)) t116 (Go.Value.int Go.IntKind.i64 1)) (fun t117 w =>
  Hx.Gd t117 false (fun K w => K t0 w) (fun t119 w =>
  Hx.Gd t117 false (fun K w => K t6 w) (fun t120 w =>
  Hx.Gd t117 false (Hx.Pu Try.prog (Go.Instr.indexAt 22 t119 t120)) (fun t121 w =>
  Hx.Gd t117 false (Hx.Pu Try.prog (Go.Instr.fieldAt 29 t121 0)) (fun t122 w =>
  Hx.Gd t117 false (Hx.Rd Try.prog (Go.Instr.loadAt 9 t122)) (fun t123 w =>
  Hx.Gd t117 false (Hx.Rd Try.prog (Go.Builtin.len_ #[9] 3 ⟨[t123]⟩)) (fun t124 w =>
  Hx.Gd t117 false (Hx.Pu Try.prog (Hx.binS .gtr 3 (Go.Operand.tmp 124) (Go.Operand.const (Go.Value.int Go.IntKind.i64 64)) t124 (Go.Value.int Go.IntKind.i64 64))) (fun t125 w =>
  Hx.Pu Try.prog (Hx.pickS t117 (Go.Value.bool true) t125) (fun t126 w =>
  Hx.Gd t126 false (fun K w => K t0 w) (fun t128 w =>
  Hx.Gd t126 false (fun K w => K t6 w) (fun t129 w =>
  Hx.Gd t126 false (Hx.Pu Try.prog (Go.Instr.indexAt 22 t128 t129)) (fun t130 w =>
  Hx.Gd t126 false (Hx.Pu Try.prog (Go.Instr.fieldAt 29 t130 1)) (fun t131 w =>
  Hx.Gd t126 false (Hx.Rd Try.prog (Go.Instr.loadAt 9 t131)) (fun t132 w =>
  Hx.Gd t126 false (Hx.Rd Try.prog (Go.Builtin.len_ #[9] 3 ⟨[t132]⟩)) (fun t133 w =>
  Hx.Gd t126 false (Hx.Pu Try.prog (Hx.binS .gtr 3 (Go.Operand.tmp 133) (Go.Operand.const (Go.Value.int Go.IntKind.i64 64)) t133 (Go.Value.int Go.IntKind.i64 64))) (fun t134 w =>
  Hx.Pu Try.prog (Hx.pickS t126 (Go.Value.bool true) t134) (fun t135 w =>
  Hx.iteE t135 (
  Hx.Rd Try.prog (Hx.binS .neq 32 (Go.Operand.tmp 136) (Go.Operand.const (Go.Value.int Go.IntKind.i64 91)) t12 (Go.Value.int Go.IntKind.i64 91)) (fun t137 w =>
  Hx.iteE t137 (
  Hx.retH ds (K (Go.Value.bool false) w)) (
  H3_5 t4 t5 t6 nx1 ds w)) w) (
  Hx.Rd Try.prog (Hx.binS .neq 32 (Go.Operand.tmp 138) (Go.Operand.const (Go.Value.int Go.IntKind.i64 0)) t12 (Go.Value.int Go.IntKind.i64 0)) (fun t139 w =>
  Hx.iteE t139 (
  Hx.retH ds (K (Go.Value.bool false) w)) (
  Hx.Rd Try.prog (Go.Instr.loadAt 27 t11) (fun t140 w =>
  Hx.Uu Try.prog (Go.Instr.storeAt 27 t3 t140) (fun _ w =>
  Hx.iteE t8 (
  Hx.Pu Try.prog (Go.Instr.indexAt 22 t0 t6) (fun t146 w =>
  Hx.Pu Try.prog (Go.Instr.fieldAt 29 t146 1) (fun t147 w =>
  Hx.Rd Try.prog (Go.Instr.loadAt 9 t147) (fun t148 w =>
  Hx.Pu Try.prog (Go.Instr.indexAt 24 t5 t7) (fun t149 w =>
  Hx.Uu Try.prog (Go.Instr.storeAt 9 t149 t148) (fun _ w =>
  H3_4 t3 t4 t5 t6 K nx1 ds w) w) w) w) w) w) (
  Hx.drw (fun w =>
  Hx.Pu Try.prog (Go.Instr.sliceAt 24 t4 none (some t7) none) (fun t153 w =>
  Hx.Pu Try.prog (Go.Instr.indexAt 22 t0 t6) (fun t157 w =>
  Hx.Pu Try.prog (Go.Instr.fieldAt 29 t157 0) (fun t158 w =>
  Hx.Rd Try.prog (Go.Instr.loadAt 9 t158) (fun t159 w =>
  Hx.Pu Try.prog (Go.Instr.sliceAt 24 t4 (some t7) none none) (fun t164 w =>
  (Hx.Rr Try.prog (Go.Instr.buildSlice 24 0 ⟨[]⟩) (fun t150 w =>
  (Hx.Rd Try.prog (Go.Instr.loadAt 9 t158) (fun u w' => u = t159 ∧ w' = w) w) ∧
  (Hx.Rr Try.prog (Go.Builtin.append_ #[24, 24] 24 ⟨[t150, t153]⟩) (fun t154 w =>
  (Hx.Rd Try.prog (Go.Instr.loadAt 9 t158) (fun u w' => u = t159 ∧ w' = w) w) ∧
  Hx.Rr Try.prog (Go.Instr.buildSlice 24 1 ⟨[(0, t159)]⟩) (fun t160 w =>
  Hx.Rr Try.prog (Go.Builtin.append_ #[24, 24] 24 ⟨[t154, t160]⟩) (fun t161 w =>
  Hx.Rr Try.prog (Go.Builtin.append_ #[24, 24] 24 ⟨[t161, t164]⟩) (fun t165 w =>
  H3_7 t0 t3 t165 t5 t6 t7 K nx1 ds w) w) w) w) w) ∧
  (Hx.Rr Try.prog (Go.Instr.buildSlice 24 1 ⟨[(0, t159)]⟩) (fun t160 w =>
  Hx.Rr Try.prog (Go.Builtin.append_ #[24, 24] 24 ⟨[t150, t153]⟩) (fun t154 w =>
  Hx.Rr Try.prog (Go.Builtin.append_ #[24, 24] 24 ⟨[t154, t160]⟩) (fun t161 w =>
  Hx.Rr Try.prog (Go.Builtin.append_ #[24, 24] 24 ⟨[t161, t164]⟩) (fun t165 w =>
  H3_7 t0 t3 t165 t5 t6 t7 K nx1 ds w) w) w) w) w)) w) ∧
  (Hx.Rr Try.prog (Go.Instr.buildSlice 24 1 ⟨[(0, t159)]⟩) (fun t160 w =>
  Hx.Rr Try.prog (Go.Instr.buildSlice 24 0 ⟨[]⟩) (fun t150 w =>
  Hx.Rr Try.prog (Go.Builtin.append_ #[24, 24] 24 ⟨[t150, t153]⟩) (fun t154 w =>
  Hx.Rr Try.prog (Go.Builtin.append_ #[24, 24] 24 ⟨[t154, t160]⟩) (fun t161 w =>
  Hx.Rr Try.prog (Go.Builtin.append_ #[24, 24] 24 ⟨[t161, t164]⟩) (fun t165 w =>
  H3_7 t0 t3 t165 t5 t6 t7 K nx1 ds w) w) w) w) w) w)) w) w) w) w) w) w)) w) w)) w)) w) w) w) w) w) w) w) w) w) w) w) w) w) w) w) w) w) w) w) w) w

def H3_2 (t0 : Go.Value) (t3 : Go.Value) (t4 : Go.Value) (t5 : Go.Value) (t6 : Go.Value) (K : Go.Value → Go.World → Prop) (nx1 : Hx.Inv) (u junk : Nat → Go.Value) (nx2 : Hx.Inv) (ds : List Nat) (w : Go.World) : Prop :=
  Hx.drw (fun w =>
  Hx.Rd Try.prog (Go.Builtin.len_ #[24] 3 ⟨[t4]⟩) (fun t24 w =>
  Hx.Pu Try.prog (Hx.binS .lss 3 (Go.Operand.tmp 22) (Go.Operand.tmp 24) (u 0) t24) (fun t25 w =>
  Hx.Gd t25 true (fun K w => K t4 w) (fun t27 w =>
  Hx.Gd t25 true (fun K w => K (u 0) w) (fun t28 w =>
  Hx.Gd t25 true (Hx.Pu Try.prog (Go.Instr.indexAt 24 t27 t28)) (fun t29 w =>
  Hx.Gd t25 true (Hx.Rd Try.prog (Go.Instr.loadAt 9 t29)) (fun t30 w =>
  Hx.Gd t25 true (fun K w => K t0 w) (fun t31 w =>
  Hx.Gd t25 true (fun K w => K t6 w) (fun t32 w =>
  Hx.Gd t25 true (Hx.Pu Try.prog (Go.Instr.indexAt 22 t31 t32)) (fun t33 w =>
  Hx.Gd t25 true (Hx.Pu Try.prog (Go.Instr.fieldAt 29 t33 0)) (fun t34 w =>
  Hx.Gd t25 true (Hx.Rd Try.prog (Go.Instr.loadAt 9 t34)) (fun t35 w =>
  Hx.Gd t25 true (Hx.Pu Try.prog (Hx.binS .lss 9 (Go.Operand.tmp 30) (Go.Operand.tmp 35) t30 t35)) (fun t36 w =>
  Hx.Pu Try.prog (Hx.pickS t25 t36 (Go.Value.bool false)) (fun t37 w =>
  Hx.iteE t37 (
  Hx.Pu Try.prog (Hx.binS .add 3 (Go.Operand.tmp 38) (Go.Operand.const (Go.Value.int Go.IntKind.i64 1)) (u 0) (Go.Value.int Go.IntKind.i64 1)) (fun t39 w =>
  nx2 (Hx.vec [t39]) ds w) w) (
  Hx.drw (fun w =>
  Hx.Rd Try.prog (Go.Builtin.len_ #[24] 3 ⟨[t4]⟩) (fun t42 w =>
  Hx.Pu Try.prog (Hx.binS .lss 3 (Go.Operand.tmp 40) (Go.Operand.tmp 42) (u 0) t42) (fun t43 w =>
  Hx.Gd t43 true (fun K w => K t4 w) (fun t45 w =>
  Hx.Gd t43 true (fun K w => K (u 0) w) (fun t46 w =>
  Hx.Gd t43 true (Hx.Pu Try.prog (Go.Instr.indexAt 24 t45 t46)) (fun t47 w =>
  Hx.Gd t43 true (Hx.Rd Try.prog (Go.Instr.loadAt 9 t47)) (fun t48 w =>
  Hx.Gd t43 true (fun K w => K t0 w) (fun t49 w =>
  Hx.Gd t43 true (fun K w => K t6 w) (fun t50 w =>
  Hx.Gd t43 true (Hx.Pu Try.prog (Go.Instr.indexAt 22 t49 t50)) (fun t51 w =>
  Hx.Gd t43 true (Hx.Pu Try.prog (Go.Instr.fieldAt 29 t51 0)) (fun t52 w =>
  Hx.Gd t43 true (Hx.Rd Try.prog (Go.Instr.loadAt 9 t52)) (fun t53 w =>
  Hx.Gd t43 true (Hx.Rd Try.prog (Hx.binS .eql 9 (Go.Operand.tmp 48) (Go.Operand.tmp 53) t48 t53)) (fun t54 w =>
  Hx.Pu Try.prog (Hx.pickS t43 t54 (Go.Value.bool false)) (fun t55 w =>
  Hx.Pu Try.prog (Go.Instr.indexAt 22 t0 t6) (fun t58 w =>
  Hx.Pu Try.prog (Go.Instr.fieldAt 29 t58 2) (fun t59 w =>
  Hx.Rd Try.prog (Go.Instr.loadAt 4 t59) (fun t60 w =>
  Hx.iteE t60 (
  Hx.drw (fun w =>
  Hx.Rd Try.prog (Go.Instr.loadAt 27 t3) (fun t62 w =>
  Hx.Pu Try.prog (Go.Instr.indexAt 22 t0 t6) (fun t65 w =>
  Hx.Pu Try.prog (Go.Instr.fieldAt 29 t65 0) (fun t66 w =>
  Hx.Rd Try.prog (Go.Instr.loadAt 9 t66) (fun t67 w =>
  (Hx.Cf Try.prog 5 ⟨[t62, t67]⟩ (fun t68 w =>
  Hx.Pu Try.prog (Go.Instr.extract t68 0) (fun t69 w =>
  Hx.Pu Try.prog (Go.Instr.extract t68 1) (fun t70 w =>
  Hx.Rr Try.prog (Go.Instr.alloc 27 true (.tuple #[])) (fun t9 w =>
  Hx.Uu Try.prog (Go.Instr.storeAt 27 t9 t69) (fun _ w =>
  H3_3 t3 t4 t5 t6 (u 0) t55 t9 t70 K nx1 ds w) w) w) w) w) w) ∧
  (Hx.Rr Try.prog (Go.Instr.alloc 27 true (.tuple #[])) (fun t9 w =>
  (Hx.Rd Try.prog (Go.Instr.loadAt 9 t66) (fun u w' => u = t67 ∧ w' = w) w) ∧
  (Hx.Rd Try.prog (Go.Instr.loadAt 27 t3) (fun u w' => u = t62 ∧ w' = w) w) ∧
  Hx.Cf Try.prog 5 ⟨[t62, t67]⟩ (fun t68 w =>
  Hx.Pu Try.prog (Go.Instr.extract t68 0) (fun t69 w =>
  Hx.Pu Try.prog (Go.Instr.extract t68 1) (fun t70 w =>
  Hx.Uu Try.prog (Go.Instr.storeAt 27 t9 t69) (fun _ w =>
  H3_3 t3 t4 t5 t6 (u 0) t55 t9 t70 K nx1 ds w) w) w) w) w) w)) w) w) w) w) w) (
  Hx.drw (fun w =>
  Hx.Rd Try.prog (Go.Instr.loadAt 27 t3) (fun t97 w =>
  Hx.Pu Try.prog (Go.Instr.indexAt 22 t0 t6) (fun t100 w =>
  Hx.Pu Try.prog (Go.Instr.fieldAt 29 t100 0) (fun t101 w =>
  Hx.Rd Try.prog (Go.Instr.loadAt 9 t101) (fun t102 w =>
  Hx.Pu Try.prog (Go.Instr.indexAt 22 t0 t6) (fun t105 w =>
  Hx.Pu Try.prog (Go.Instr.fieldAt 29 t105 1) (fun t106 w =>
  Hx.Rd Try.prog (Go.Instr.loadAt 9 t106) (fun t107 w =>
  (Hx.Cf Try.prog 6 ⟨[t97, t102, t107]⟩ (fun t108 w =>
  Hx.Pu Try.prog (Go.Instr.extract t108 0) (fun t109 w =>
  Hx.Pu Try.prog (Go.Instr.extract t108 1) (fun t110 w =>
  Hx.Rr Try.prog (Go.Instr.alloc 27 true (.tuple #[])) (fun t11 w =>
  Hx.Uu Try.prog (Go.Instr.storeAt 27 t11 t109) (fun _ w =>
  H3_6 t0 t3 t4 t5 t6 (u 0) t55 t11 t110 K nx1 ds w) w) w) w) w) w) ∧
  (Hx.Rr Try.prog (Go.Instr.alloc 27 true (.tuple #[])) (fun t11 w =>
  (Hx.Rd Try.prog (Go.Instr.loadAt 9 t106) (fun u w' => u = t107 ∧ w' = w) w) ∧
  (Hx.Rd Try.prog (Go.Instr.loadAt 9 t101) (fun u w' => u = t102 ∧ w' = w) w) ∧
  (Hx.Rd Try.prog (Go.Instr.loadAt 27 t3) (fun u w' => u = t97 ∧ w' = w) w) ∧
  Hx.Cf Try.prog 6 ⟨[t97, t102, t107]⟩ (fun t108 w =>
  Hx.Pu Try.prog (Go.Instr.extract t108 0) (fun t109 w =>
  Hx.Pu Try.prog (Go.Instr.extract t108 1) (fun t110 w =>
  Hx.Uu Try.prog (Go.Instr.storeAt 27 t11 t109) (fun _ w =>
  H3_6 t0 t3 t4 t5 t6 (u 0) t55 t11 t110 K nx1 ds w) w) w) w) w) w)) w) w) w) w) w) w) w) w)) w) w) w) w) w) w) w) w) w) w) w) w) w) w) w) w) w)) w) w) w) w) w) w) w) w) w) w) w) w) w) w

def H3_1 (t0 : Go.Value) (t3 : Go.Value) (K : Go.Value → Go.World → Prop) (u junk : Nat → Go.Value) (nx1 : Hx.Inv) (ds : List Nat) (w : Go.World) : Prop :=
  Hx.Rd Try.prog (Go.Builtin.len_ #[22] 3 ⟨[t0]⟩) (fun t18 w =>
  Hx.Pu Try.prog (Hx.binS .lss 3 (Go.Operand.tmp 16) (Go.Operand.tmp 18) (u 2) t18) (fun t19 w =>
  Hx.iteE t19 (
  Hx.loopH (Hx.vec [(Go.Value.int Go.IntKind.i64 0)]) ds (H3_2 t0 t3 (u 0) (u 1) (u 2) K nx1) w) (
  Hx.retH ds (K (Go.Value.bool true) w))) w) w

/-- dedup/deduplaw09.NodeMaps -/
def H3 (t0 : Go.Value) (K : Go.Value → Go.World → Prop) (w : Go.World) : Prop :=
  Hx.Cf Try.prog 4 ⟨[]⟩ (fun t13 w =>
  Hx.Pu Try.prog (Go.Op.unary .not t13) (fun t14 w =>
  Hx.iteE t14 (
  K (Go.Value.bool false) w) (
  Hx.Pu Try.prog (Go.Instr.build 27 ⟨[(0, (Go.Value.bool true))]⟩) (fun t15 w =>
  Hx.Rr Try.prog (Go.Instr.alloc 27 true (.tuple #[])) (fun t3 w =>
  Hx.Uu Try.prog (Go.Instr.storeAt 27 t3 t15) (fun _ w =>
  Hx.loopH (Hx.vec [(Go.Value.slice none 0 0), (Go.Value.slice none 0 0), (Go.Value.int Go.IntKind.i64 0)]) [] (H3_1 t0 t3 K) w) w) w) w)) w) w

def H3_a : Hx.Ann := ⟨Hx.lookC Hconv, Hx.lookL [(6, [4, 5, 6]), (9, [7])]⟩

theorem H3_eq (t0 : Go.Value) (K : Go.Value → Go.World → Prop) (w : Go.World) : H3 t0 K w = Hx.wpE Try.prog H3_a (Hx.bodyOf Try.f3) (Hx.retQ Try.prog Try.f3.results K) (Hx.argE [t0]) [] w := by kernel_rfl

theorem H3_ok (t0 : Go.Value) {K : Go.Value → Go.World → Prop} {w : Go.World} (h : H3 t0 K w) : Go.Calls Try.prog 3 #[t0] w (Hx.RetK K) :=
  Hx.calls_of_wpE (A := H3_a) Try.func3 rfl (by kernel_rfl) (by kernel_rfl) (by simp [Try.ntmps3]) (H3_eq t0 K w ▸ h)

theorem H3_in (t0 : Go.Value) {R : Go.Value → Go.World → Prop} {w : Go.World} (h : ∀ K : Go.Value → Go.World → Prop, (∀ v w', R v w' → K v w') → H3 t0 K w) : Go.Calls Try.prog 3 #[t0] w (Hx.RetK R) := H3_ok t0 (h R fun _ _ h => h)

/-- dedup/deduplaw09.lives -/
def H4 (K : Go.Value → Go.World → Prop) (w : Go.World) : Prop :=
  Hx.Cf Try.prog 9 ⟨[]⟩ (fun t6 w =>
  Hx.Cf Try.prog 8 ⟨[(Go.Value.int Go.IntKind.i64 512), t6]⟩ (fun t7 w =>
  Hx.Pu Try.prog (Go.Instr.extract t7 0) (fun t8 w =>
  Hx.Pu Try.prog (Go.Instr.extract t7 1) (fun t9 w =>
  Hx.Cf Try.prog 9 ⟨[]⟩ (fun t11 w =>
  Hx.Cf Try.prog 10 ⟨[t11, (Go.Value.string { data := #[98] })]⟩ (fun t12 w =>
  Hx.Pu Try.prog (Go.Instr.extract t12 0) (fun t13 w =>
  Hx.Pu Try.prog (Go.Instr.extract t12 1) (fun t14 w =>
  Hx.Cf Try.prog 9 ⟨[]⟩ (fun t15 w =>
  Hx.Cf Try.prog 11 ⟨[t15]⟩ (fun t16 w =>
  Hx.Rd Try.prog (Hx.binS .eql 3 (Go.Operand.tmp 16) (Go.Operand.const (Go.Value.int Go.IntKind.i64 26)) t16 (Go.Value.int Go.IntKind.i64 26)) (fun t17 w =>
  Hx.Gd t17 true (fun K w => K t9 w) (fun t19 w =>
  Hx.Gd t17 true (Hx.Rd Try.prog (Hx.binS .eql 32 (Go.Operand.tmp 19) (Go.Operand.const (Go.Value.int Go.IntKind.i64 0)) t19 (Go.Value.int Go.IntKind.i64 0))) (fun t20 w =>
  Hx.Pu Try.prog (Hx.pickS t17 t20 (Go.Value.bool false)) (fun t21 w =>
  Hx.Gd t21 true (fun K w => K t8 w) (fun t23 w =>
  Hx.Gd t21 true (Hx.Rd Try.prog (Go.Builtin.len_ #[37] 3 ⟨[t23]⟩)) (fun t24 w =>
  Hx.Gd t21 true (Hx.Rd Try.prog (Hx.binS .eql 3 (Go.Operand.tmp 24) (Go.Operand.const (Go.Value.int Go.IntKind.i64 512)) t24 (Go.Value.int Go.IntKind.i64 512))) (fun t25 w =>
  Hx.Pu Try.prog (Hx.pickS t21 t25 (Go.Value.bool false)) (fun t26 w =>
  Hx.Gd t26 true (fun K w => K t8 w) (fun t28 w =>
  Hx.Gd t26 true (Hx.Pu Try.prog (Go.Instr.indexAt 37 t28 (Go.Value.int Go.IntKind.i64 0))) (fun t29 w =>
  Hx.Gd t26 true (Hx.Rd Try.prog (Go.Instr.loadAt 5 t29)) (fun t30 w =>
  Hx.Gd t26 true (Hx.Rd Try.prog (Hx.binS .eql 5 (Go.Operand.tmp 30) (Go.Operand.const (Go.Value.int Go.IntKind.u8 68)) t30 (Go.Value.int Go.IntKind.u8 68))) (fun t31 w =>
  Hx.Pu Try.prog (Hx.pickS t26 t31 (Go.Value.bool false)) (fun t32 w =>
  Hx.Gd t32 true (fun K w => K t13 w) (fun t34 w =>
  Hx.Gd t32 true (Hx.Rd Try.prog (Hx.binS .eql 3 (Go.Operand.tmp 34) (Go.Operand.const (Go.Value.int Go.IntKind.i64 1)) t34 (Go.Value.int Go.IntKind.i64 1))) (fun t35 w =>
  Hx.Pu Try.prog (Hx.pickS t32 t35 (Go.Value.bool false)) (fun t36 w =>
  Hx.Gd t36 true (fun K w => K t14 w) (fun t38 w =>
  Hx.Gd t36 true (Hx.Pu Try.prog (Go.Op.unary .not t38)) (fun t39 w =>
  Hx.Pu Try.prog (Hx.pickS t36 t39 (Go.Value.bool false)) (fun t40 w =>
  K t40 w) w) w) w) w) w) w) w) w) w) w) w) w) w) w) w) w) w) w) w) w) w) w) w) w) w) w) w) w) w

def H4_a : Hx.Ann := ⟨Hx.lookC Hconv, Hx.lookL []⟩

theorem H4_eq (K : Go.Value → Go.World → Prop) (w : Go.World) : H4  K w = Hx.wpE Try.prog H4_a (Hx.bodyOf Try.f4) (Hx.retQ Try.prog Try.f4.results K) (Hx.argE []) [] w := by kernel_rfl

theorem H4_ok {K : Go.Value → Go.World → Prop} {w : Go.World} (h : H4  K w) : Go.Calls Try.prog 4 #[] w (Hx.RetK K) :=
  Hx.calls_of_wpE (A := H4_a) Try.func4 rfl (by kernel_rfl) (by kernel_rfl) (by simp [Try.ntmps4]) (H4_eq  K w ▸ h)

theorem H4_in {R : Go.Value → Go.World → Prop} {w : Go.World} (h : ∀ K : Go.Value → Go.World → Prop, (∀ v w', R v w' → K v w') → H4  K w) : Go.Calls Try.prog 4 #[] w (Hx.RetK R) := H4_ok  (h R fun _ _ h => h)

/-- dedup/node.Remove -/
def H5 (t0 t1 : Go.Value) (K : Go.Value → Go.World → Prop) (w : Go.World) : Prop :=
  Hx.Rr Try.prog (Go.Instr.box 27 t0) (fun t2 w =>
  Hx.Rr Try.prog (Go.Instr.alloc 27 true (.tuple #[])) (fun t4 w =>
  Hx.Rd Try.prog (Go.Instr.loadAt 27 t2) (fun t9 w =>
  Hx.Cf Try.prog 12 ⟨[t9]⟩ (fun t10 w =>
  Hx.Rr Try.prog (Go.Instr.alloc 27 true (.tuple #[])) (fun t6 w =>
  Hx.Uu Try.prog (Go.Instr.storeAt 27 t6 t10) (fun _ w =>
  Hx.Rd Try.prog (Go.Instr.loadAt 27 t2) (fun t12 w =>
  Hx.Cf Try.prog 10 ⟨[t12, t1]⟩ (fun t14 w =>
  Hx.Pu Try.prog (Go.Instr.extract t14 0) (fun t15 w =>
  Hx.Pu Try.prog (Go.Instr.extract t14 1) (fun t16 w =>
  Hx.Pu Try.prog (Go.Op.unary .not t16) (fun t18 w =>
  Hx.Gd t18 false (fun K w => K t15 w) (fun t20 w =>
  Hx.Gd t18 false (Hx.Pu Try.prog (Go.Instr.fieldAt 27 t2 2)) (fun t21 w =>
  Hx.Gd t18 false (Hx.Rd Try.prog (Go.Instr.loadAt 24 t21)) (fun t22 w =>
  Hx.Gd t18 false (Hx.Rd Try.prog (Go.Builtin.len_ #[24] 3 ⟨[t22]⟩)) (fun t23 w =>
  Hx.Gd t18 false (Hx.Pu Try.prog (Hx.binS .geq 3 (Go.Operand.tmp 20) (Go.Operand.tmp 23) t20 t23)) (fun t24 w =>
  Hx.Pu Try.prog (Hx.pickS t18 (Go.Value.bool true) t24) (fun t25 w =>
  Hx.iteE t25 (
  Hx.Rd Try.prog (Go.Instr.loadAt 27 t6) (fun t26 w =>
  Hx.Uu Try.prog (Go.Instr.storeAt 27 t4 t26) (fun _ w =>
  Hx.Rd Try.prog (Go.Instr.loadAt 27 t4) (fun r0 w => K (Go.Value.tuple #[r0, (Go.Value.bool false)]) w) w) w) w) (
  Hx.Pu Try.prog (Go.Instr.fieldAt 27 t6 1) (fun t27 w =>
  Hx.Rd Try.prog (Go.Instr.loadAt 24 t27) (fun t28 w =>
  Hx.Pu Try.prog (Hx.binS .add 3 (Go.Operand.tmp 30) (Go.Operand.const (Go.Value.int Go.IntKind.i64 1)) t15 (Go.Value.int Go.IntKind.i64 1)) (fun t31 w =>
  Hx.Cf Try.prog 13 ⟨[t28, t15, t31]⟩ (fun t32 w =>
  Hx.Pu Try.prog (Go.Instr.fieldAt 27 t6 1) (fun t33 w =>
  Hx.Uu Try.prog (Go.Instr.storeAt 24 t33 t32) (fun _ w =>
  Hx.Pu Try.prog (Go.Instr.fieldAt 27 t6 2) (fun t34 w =>
  Hx.Rd Try.prog (Go.Instr.loadAt 24 t34) (fun t35 w =>
  Hx.Pu Try.prog (Hx.binS .add 3 (Go.Operand.tmp 37) (Go.Operand.const (Go.Value.int Go.IntKind.i64 1)) t15 (Go.Value.int Go.IntKind.i64 1)) (fun t38 w =>
  Hx.Cf Try.prog 13 ⟨[t35, t15, t38]⟩ (fun t39 w =>
  Hx.Pu Try.prog (Go.Instr.fieldAt 27 t6 2) (fun t40 w =>
  Hx.Uu Try.prog (Go.Instr.storeAt 24 t40 t39) (fun _ w =>
  Hx.Rd Try.prog (Go.Instr.loadAt 27 t6) (fun t41 w =>
  Hx.Uu Try.prog (Go.Instr.storeAt 27 t4 t41) (fun _ w =>
  Hx.Rd Try.prog (Go.Instr.loadAt 27 t4) (fun r0 w => K (Go.Value.tuple #[r0, (Go.Value.bool true)]) w) w) w) w) w) w) w) w) w) w) w) w) w) w) w) w)) w) w) w) w) w) w) w) w) w) w) w) w) w) w) w) w) w

def H5_a : Hx.Ann := ⟨Hx.lookC Hconv, Hx.lookL []⟩

theorem H5_eq (t0 t1 : Go.Value) (K : Go.Value → Go.World → Prop) (w : Go.World) : H5 t0 t1 K w = Hx.wpE Try.prog H5_a (Hx.bodyOf Try.f5) (Hx.retQ Try.prog Try.f5.results K) (Hx.argE [t0, t1]) [] w := by kernel_rfl

theorem H5_ok (t0 t1 : Go.Value) {K : Go.Value → Go.World → Prop} {w : Go.World} (h : H5 t0 t1 K w) : Go.Calls Try.prog 5 #[t0, t1] w (Hx.RetK K) :=
  Hx.calls_of_wpE (A := H5_a) Try.func5 rfl (by kernel_rfl) (by kernel_rfl) (by simp [Try.ntmps5]) (H5_eq t0 t1 K w ▸ h)

theorem H5_in (t0 t1 : Go.Value) {R : Go.Value → Go.World → Prop} {w : Go.World} (h : ∀ K : Go.Value → Go.World → Prop, (∀ v w', R v w' → K v w') → H5 t0 t1 K w) : Go.Calls Try.prog 5 #[t0, t1] w (Hx.RetK R) := H5_ok t0 t1 (h R fun _ _ h => h)

/-- dedup/node.Put -/
def H6 (t0 t1 t2 : Go.Value) (K : Go.Value → Go.World → Prop) (w : Go.World) : Prop :=
  Hx.Rr Try.prog (Go.Instr.box 27 t0) (fun t3 w =>
  Hx.Rr Try.prog (Go.Instr.alloc 27 true (.tuple #[])) (fun t6 w =>
  Hx.Pu Try.prog (Go.Instr.fieldAt 27 t3 0) (fun t11 w =>
  Hx.Rd Try.prog (Go.Instr.loadAt 4 t11) (fun t12 w =>
  Hx.Pu Try.prog (Go.Op.unary .not t12) (fun t13 w =>
  Hx.Gd t13 false (Hx.Rd Try.prog (Go.Instr.loadAt 27 t3)) (fun t15 w =>
  Hx.Gd t13 false (Hx.Cf Try.prog 14 ⟨[t15]⟩) (fun t16 w =>
  Hx.Gd t13 false (Hx.Rd Try.prog (Hx.binS .neq 32 (Go.Operand.tmp 16) (Go.Operand.const (Go.Value.int Go.IntKind.i64 0)) t16 (Go.Value.int Go.IntKind.i64 0))) (fun t17 w =>
  Hx.Pu Try.prog (Hx.pickS t13 (Go.Value.bool true) t17) (fun t18 w =>
  Hx.iteE t18 (
  Hx.Pu Try.prog (Go.Instr.build 27 ⟨[]⟩) (fun t19 w =>
  Hx.Uu Try.prog (Go.Instr.storeAt 27 t6 t19) (fun _ w =>
  Hx.Rd Try.prog (Go.Instr.loadAt 27 t6) (fun r0 w => K (Go.Value.tuple #[r0, (Go.Value.int Go.IntKind.i64 90)]) w) w) w) w) (
  Hx.Cf Try.prog 15 ⟨[t1]⟩ (fun t21 w =>
  Hx.Pu Try.prog (Go.Op.unary .not t21) (fun t22 w =>
  Hx.Gd t22 false (fun K w => K t2 w) (fun t24 w =>
  Hx.Gd t22 false (Hx.Cf Try.prog 16 ⟨[t24]⟩) (fun t25 w =>
  Hx.Gd t22 false (Hx.Pu Try.prog (Go.Op.unary .not t25)) (fun t26 w =>
  Hx.Pu Try.prog (Hx.pickS t22 (Go.Value.bool true) t26) (fun t27 w =>
  Hx.iteE t27 (
  Hx.Pu Try.prog (Go.Instr.build 27 ⟨[]⟩) (fun t28 w =>
  Hx.Uu Try.prog (Go.Instr.storeAt 27 t6 t28) (fun _ w =>
  Hx.Rd Try.prog (Go.Instr.loadAt 27 t6) (fun r0 w => K (Go.Value.tuple #[r0, (Go.Value.int Go.IntKind.i64 91)]) w) w) w) w) (
  Hx.Rd Try.prog (Go.Instr.loadAt 27 t3) (fun t29 w =>
  Hx.Cf Try.prog 12 ⟨[t29]⟩ (fun t30 w =>
  Hx.Rr Try.prog (Go.Instr.alloc 27 true (.tuple #[])) (fun t8 w =>
  Hx.Uu Try.prog (Go.Instr.storeAt 27 t8 t30) (fun _ w =>
  Hx.Rd Try.prog (Go.Instr.loadAt 27 t3) (fun t32 w =>
  Hx.Cf Try.prog 10 ⟨[t32, t1]⟩ (fun t34 w =>
  Hx.Pu Try.prog (Go.Instr.extract t34 0) (fun t35 w =>
  Hx.Pu Try.prog (Go.Instr.extract t34 1) (fun t36 w =>
  Hx.iteE t36 (
  Hx.Pu Try.prog (Go.Instr.fieldAt 27 t8 2) (fun t38 w =>
  Hx.Rd Try.prog (Go.Instr.loadAt 24 t38) (fun t39 w =>
  Hx.Pu Try.prog (Go.Instr.indexAt 24 t39 t35) (fun t42 w =>
  Hx.Uu Try.prog (Go.Instr.storeAt 9 t42 t2) (fun _ w =>
  Hx.Rd Try.prog (Go.Instr.loadAt 27 t8) (fun t43 w =>
  Hx.Uu Try.prog (Go.Instr.storeAt 27 t6 t43) (fun _ w =>
  Hx.Rd Try.prog (Go.Instr.loadAt 27 t6) (fun r0 w => K (Go.Value.tuple #[r0, (Go.Value.int Go.IntKind.i64 0)]) w) w) w) w) w) w) w) w) (
  Hx.Pu Try.prog (Go.Instr.fieldAt 27 t8 1) (fun t44 w =>
  Hx.Rd Try.prog (Go.Instr.loadAt 24 t44) (fun t45 w =>
  Hx.Rr Try.prog (Go.Instr.buildSlice 24 1 ⟨[(0, t1)]⟩) (fun t48 w =>
  Hx.Cf Try.prog 17 ⟨[t45, t35, t48]⟩ (fun t49 w =>
  Hx.Pu Try.prog (Go.Instr.fieldAt 27 t8 1) (fun t50 w =>
  Hx.Uu Try.prog (Go.Instr.storeAt 24 t50 t49) (fun _ w =>
  Hx.Pu Try.prog (Go.Instr.fieldAt 27 t8 2) (fun t51 w =>
  Hx.Rd Try.prog (Go.Instr.loadAt 24 t51) (fun t52 w =>
  Hx.Rr Try.prog (Go.Instr.buildSlice 24 1 ⟨[(0, t2)]⟩) (fun t55 w =>
  Hx.Cf Try.prog 17 ⟨[t52, t35, t55]⟩ (fun t56 w =>
  Hx.Pu Try.prog (Go.Instr.fieldAt 27 t8 2) (fun t57 w =>
  Hx.Uu Try.prog (Go.Instr.storeAt 24 t57 t56) (fun _ w =>
  Hx.Rd Try.prog (Go.Instr.loadAt 27 t8) (fun t58 w =>
  Hx.Uu Try.prog (Go.Instr.storeAt 27 t6 t58) (fun _ w =>
  Hx.Rd Try.prog (Go.Instr.loadAt 27 t6) (fun r0 w => K (Go.Value.tuple #[r0, (Go.Value.int Go.IntKind.i64 0)]) w) w) w) w) w) w) w) w) w) w) w) w) w) w) w) w)) w) w) w) w) w) w) w) w)) w) w) w) w) w) w)) w) w) w) w) w) w) w) w) w

def H6_a : Hx.Ann := ⟨Hx.lookC Hconv, Hx.lookL []⟩

theorem H6_eq (t0 t1 t2 : Go.Value) (K : Go.Value → Go.World → Prop) (w : Go.World) : H6 t0 t1 t2 K w = Hx.wpE Try.prog H6_a (Hx.bodyOf Try.f6) (Hx.retQ Try.prog Try.f6.results K) (Hx.argE [t0, t1, t2]) [] w := by kernel_rfl

theorem H6_ok (t0 t1 t2 : Go.Value) {K : Go.Value → Go.World → Prop} {w : Go.World} (h : H6 t0 t1 t2 K w) : Go.Calls Try.prog 6 #[t0, t1, t2] w (Hx.RetK K) :=
  Hx.calls_of_wpE (A := H6_a) Try.func6 rfl (by kernel_rfl) (by kernel_rfl) (by simp [Try.ntmps6]) (H6_eq t0 t1 t2 K w ▸ h)

theorem H6_in (t0 t1 t2 : Go.Value) {R : Go.Value → Go.World → Prop} {w : Go.World} (h : ∀ K : Go.Value → Go.World → Prop, (∀ v w', R v w' → K v w') → H6 t0 t1 t2 K w) : Go.Calls Try.prog 6 #[t0, t1, t2] w (Hx.RetK R) := H6_ok t0 t1 t2 (h R fun _ _ h => h)

def H7_1 (t0 : Go.Value) (t1 : Go.Value) (K : Go.Value → Go.World → Prop) (u junk : Nat → Go.Value) (nx1 : Hx.Inv) (ds : List Nat) (w : Go.World) : Prop :=
  Hx.Rd Try.prog (Go.Builtin.len_ #[24] 3 ⟨[t0]⟩) (fun t13 w =>
  Hx.Pu Try.prog (Hx.binS .lss 3 (Go.Operand.tmp 11) (Go.Operand.tmp 13) (u 0) t13) (fun t14 w =>
  Hx.iteE t14 (
  Hx.drw (fun w =>
  Hx.Pu Try.prog (Go.Instr.indexAt 24 t0 (u 0)) (fun t19 w =>
  Hx.Rd Try.prog (Go.Instr.loadAt 9 t19) (fun t20 w =>
  Hx.Pu Try.prog (Go.Instr.indexAt 24 t1 (u 0)) (fun t23 w =>
  Hx.Rd Try.prog (Go.Instr.loadAt 9 t23) (fun t24 w =>
  Hx.Rd Try.prog (Hx.binS .neq 9 (Go.Operand.tmp 20) (Go.Operand.tmp 24) t20 t24) (fun t25 w =>
  Hx.iteE t25 (
  Hx.retH ds (K (Go.Value.bool false) w)) (
  Hx.Pu Try.prog (Hx.binS .add 3 (Go.Operand.tmp 15) (Go.Operand.const (Go.Value.int Go.IntKind.i64 1)) (u 0) (Go.Value.int Go.IntKind.i64 1)) (fun t16 w =>
  nx1 (Hx.vec [t16]) ds w) w)) w) w) w) w) w) w) (
  Hx.retH ds (K (Go.Value.bool true) w))) w) w

/-- dedup/deduplaw09.sameTexts -/
def H7 (t0 t1 : Go.Value) (K : Go.Value → Go.World → Prop) (w : Go.World) : Prop :=
  Hx.Rd Try.prog (Go.Builtin.len_ #[24] 3 ⟨[t0]⟩) (fun t7 w =>
  Hx.Rd Try.prog (Go.Builtin.len_ #[24] 3 ⟨[t1]⟩) (fun t9 w =>
  Hx.Rd Try.prog (Hx.binS .neq 3 (Go.Operand.tmp 7) (Go.Operand.tmp 9) t7 t9) (fun t10 w =>
  Hx.iteE t10 (
  K (Go.Value.bool false) w) (
  Hx.loopH (Hx.vec [(Go.Value.int Go.IntKind.i64 0)]) [] (H7_1 t0 t1 K) w)) w) w) w

def H7_a : Hx.Ann := ⟨Hx.lookC Hconv, Hx.lookL [(4, [5])]⟩

theorem H7_eq (t0 t1 : Go.Value) (K : Go.Value → Go.World → Prop) (w : Go.World) : H7 t0 t1 K w = Hx.wpE Try.prog H7_a (Hx.bodyOf Try.f7) (Hx.retQ Try.prog Try.f7.results K) (Hx.argE [t0, t1]) [] w := by kernel_rfl

theorem H7_ok (t0 t1 : Go.Value) {K : Go.Value → Go.World → Prop} {w : Go.World} (h : H7 t0 t1 K w) : Go.Calls Try.prog 7 #[t0, t1] w (Hx.RetK K) :=
  Hx.calls_of_wpE (A := H7_a) Try.func7 rfl (by kernel_rfl) (by kernel_rfl) (by simp [Try.ntmps7]) (H7_eq t0 t1 K w ▸ h)

theorem H7_in (t0 t1 : Go.Value) {R : Go.Value → Go.World → Prop} {w : Go.World} (h : ∀ K : Go.Value → Go.World → Prop, (∀ v w', R v w' → K v w') → H7 t0 t1 K w) : Go.Calls Try.prog 7 #[t0, t1] w (Hx.RetK R) := H7_ok t0 t1 (h R fun _ _ h => h)

def H8_1 (t0 : Go.Value) (t3 : Go.Value) (t7 : Go.Value) (K : Go.Value → Go.World → Prop) (w : Go.World) : Prop :=
  Hx.Rd Try.prog (Go.Instr.loadAt 27 t3) (fun t27 w =>
  Hx.Cf Try.prog 19 ⟨[t27]⟩ (fun t28 w =>
  Hx.Cf Try.prog 20 ⟨[t0]⟩ (fun t30 w =>
  Hx.Cf Try.prog 21 ⟨[t30, (Go.Value.string { data := #[68, 78, 79, 68] })]⟩ (fun t32 w =>
  Hx.Cf Try.prog 22 ⟨[t30, t7]⟩ (fun t35 w =>
  Hx.Cf Try.prog 22 ⟨[t30, (Go.Value.int Go.IntKind.u8 0)]⟩ (fun t37 w =>
  Hx.Pu Try.prog (Go.Instr.fieldAt 27 t3 1) (fun t39 w =>
  Hx.Rd Try.prog (Go.Instr.loadAt 24 t39) (fun t40 w =>
  Hx.Rd Try.prog (Go.Builtin.len_ #[24] 3 ⟨[t40]⟩) (fun t41 w =>
  Hx.Pu Try.prog (Go.convert 3 56 t41) (fun t42 w =>
  Hx.Cf Try.prog 23 ⟨[t30, t42]⟩ (fun t43 w =>
  Hx.Rd Try.prog (Go.Builtin.len_ #[9] 3 ⟨[t28]⟩) (fun t46 w =>
  Hx.Pu Try.prog (Go.convert 3 58 t46) (fun t47 w =>
  Hx.Cf Try.prog 24 ⟨[t30, t47]⟩ (fun t48 w =>
  Hx.Cf Try.prog 25 ⟨[t30]⟩ (fun t51 w =>
  Hx.Pu Try.prog (Go.Instr.extract t51 0) (fun t52 w =>
  Hx.Pu Try.prog (Go.Instr.extract t51 1) (fun t53 w =>
  Hx.Pu Try.prog (Hx.binS .add 9 (Go.Operand.tmp 55) (Go.Operand.tmp 56) t52 t28) (fun t57 w =>
  Hx.Cf Try.prog 26 ⟨[t57]⟩ (fun t58 w =>
  Hx.Cf Try.prog 24 ⟨[t30, t58]⟩ (fun t59 w =>
  Hx.Cf Try.prog 21 ⟨[t30, t28]⟩ (fun t62 w =>
  Hx.Cf Try.prog 25 ⟨[t30]⟩ (fun t65 w =>
  Hx.Pu Try.prog (Go.Instr.extract t65 0) (fun t66 w =>
  Hx.Pu Try.prog (Go.Instr.extract t65 1) (fun t67 w =>
  Hx.Rr Try.prog (Go.Instr.makeSlice 37 t0 t0) (fun t69 w =>
  Hx.Rr Try.prog (Go.Builtin.copy_ #[37, 9] 3 ⟨[t69, t66]⟩) (fun t72 w =>
  K (Go.Value.tuple #[t69, (Go.Value.int Go.IntKind.i64 0)]) w) w) w) w) w) w) w) w) w) w) w) w) w) w) w) w) w) w) w) w) w) w) w) w) w) w) w

/-- dedup/node.Encode -/
def H8 (t0 t1 : Go.Value) (K : Go.Value → Go.World → Prop) (w : Go.World) : Prop :=
  Hx.Rr Try.prog (Go.Instr.box 27 t1) (fun t3 w =>
  Hx.Rd Try.prog (Go.Instr.loadAt 27 t3) (fun t13 w =>
  Hx.Cf Try.prog 14 ⟨[t13]⟩ (fun t14 w =>
  Hx.Rd Try.prog (Hx.binS .neq 32 (Go.Operand.tmp 15) (Go.Operand.const (Go.Value.int Go.IntKind.i64 0)) t14 (Go.Value.int Go.IntKind.i64 0)) (fun t16 w =>
  Hx.iteE t16 (
  K (Go.Value.tuple #[(Go.Value.slice none 0 0), t14]) w) (
  Hx.Cf Try.prog 18 ⟨[t0]⟩ (fun t19 w =>
  Hx.Pu Try.prog (Go.Op.unary .not t19) (fun t20 w =>
  Hx.iteE t20 (
  K (Go.Value.tuple #[(Go.Value.slice none 0 0), (Go.Value.int Go.IntKind.i64 1)]) w) (
  Hx.Rd Try.prog (Go.Instr.loadAt 27 t3) (fun t21 w =>
  Hx.Cf Try.prog 11 ⟨[t21]⟩ (fun t22 w =>
  Hx.Pu Try.prog (Hx.binS .gtr 3 (Go.Operand.tmp 22) (Go.Operand.tmp 23) t22 t0) (fun t24 w =>
  Hx.iteE t24 (
  K (Go.Value.tuple #[(Go.Value.slice none 0 0), (Go.Value.int Go.IntKind.i64 2)]) w) (
  Hx.Pu Try.prog (Go.Instr.fieldAt 27 t3 0) (fun t25 w =>
  Hx.Rd Try.prog (Go.Instr.loadAt 4 t25) (fun t26 w =>
  Hx.iteE t26 (
  H8_1 t0 t3 (Go.Value.int Go.IntKind.u8 1) K w) (
  H8_1 t0 t3 (Go.Value.int Go.IntKind.u8 2) K w)) w) w)) w) w) w)) w) w)) w) w) w) w

def H8_a : Hx.Ann := ⟨Hx.lookC Hconv, Hx.lookL []⟩

theorem H8_eq (t0 t1 : Go.Value) (K : Go.Value → Go.World → Prop) (w : Go.World) : H8 t0 t1 K w = Hx.wpE Try.prog H8_a (Hx.bodyOf Try.f8) (Hx.retQ Try.prog Try.f8.results K) (Hx.argE [t0, t1]) [] w := by kernel_rfl

theorem H8_ok (t0 t1 : Go.Value) {K : Go.Value → Go.World → Prop} {w : Go.World} (h : H8 t0 t1 K w) : Go.Calls Try.prog 8 #[t0, t1] w (Hx.RetK K) :=
  Hx.calls_of_wpE (A := H8_a) Try.func8 rfl (by kernel_rfl) (by kernel_rfl) (by simp [Try.ntmps8]) (H8_eq t0 t1 K w ▸ h)

theorem H8_in (t0 t1 : Go.Value) {R : Go.Value → Go.World → Prop} {w : Go.World} (h : ∀ K : Go.Value → Go.World → Prop, (∀ v w', R v w' → K v w') → H8 t0 t1 K w) : Go.Calls Try.prog 8 #[t0, t1] w (Hx.RetK R) := H8_ok t0 t1 (h R fun _ _ h => h)

/-- dedup/deduplaw09.two -/
def H9 (K : Go.Value → Go.World → Prop) (w : Go.World) : Prop :=
  Hx.Rr Try.prog (Go.Instr.alloc 27 true (.tuple #[])) (fun t0 w =>
  Hx.Rr Try.prog (Go.Instr.buildSlice 24 2 ⟨[(0, (Go.Value.string { data := #[97] })), (1, (Go.Value.string { data := #[98, 98] }))]⟩) (fun t1 w =>
  Hx.Rr Try.prog (Go.Instr.buildSlice 24 2 ⟨[(0, (Go.Value.string { data := #[49] })), (1, (Go.Value.string { data := #[50, 50] }))]⟩) (fun t2 w =>
  Hx.Pu Try.prog (Go.Instr.build 27 ⟨[(0, (Go.Value.bool true)), (1, t1), (2, t2)]⟩) (fun t3 w =>
  Hx.Uu Try.prog (Go.Instr.storeAt 27 t0 t3) (fun _ w =>
  Hx.Rd Try.prog (Go.Instr.loadAt 27 t0) (fun r0 w => K r0 w) w) w) w) w) w) w

def H9_a : Hx.Ann := ⟨Hx.lookC Hconv, Hx.lookL []⟩

theorem H9_eq (K : Go.Value → Go.World → Prop) (w : Go.World) : H9  K w = Hx.wpE Try.prog H9_a (Hx.bodyOf Try.f9) (Hx.retQ Try.prog Try.f9.results K) (Hx.argE []) [] w := by kernel_rfl

theorem H9_ok {K : Go.Value → Go.World → Prop} {w : Go.World} (h : H9  K w) : Go.Calls Try.prog 9 #[] w (Hx.RetK K) :=
  Hx.calls_of_wpE (A := H9_a) Try.func9 rfl (by kernel_rfl) (by kernel_rfl) (by simp [Try.ntmps9]) (H9_eq  K w ▸ h)

theorem H9_in {R : Go.Value → Go.World → Prop} {w : Go.World} (h : ∀ K : Go.Value → Go.World → Prop, (∀ v w', R v w' → K v w') → H9  K w) : Go.Calls Try.prog 9 #[] w (Hx.RetK R) := H9_ok  (h R fun _ _ h => h)

/-- dedup/node.Find -/
def H10 (t0 t1 : Go.Value) (K : Go.Value → Go.World → Prop) (w : Go.World) : Prop :=
  Hx.Rr Try.prog (Go.Instr.box 27 t0) (fun t2 w =>
  Hx.Rr Try.prog (Go.Instr.box 9 t1) (fun t3 w =>
  Hx.Pu Try.prog (Go.Instr.fieldAt 27 t2 0) (fun t7 w =>
  Hx.Rd Try.prog (Go.Instr.loadAt 4 t7) (fun t8 w =>
  Hx.Pu Try.prog (Go.Op.unary .not t8) (fun t9 w =>
  Hx.iteE t9 (
  Hx.Pu Try.prog (Go.Instr.fieldAt 27 t2 1) (fun t10 w =>
  Hx.Rd Try.prog (Go.Instr.loadAt 24 t10) (fun t11 w =>
  Hx.Rd Try.prog (Go.Builtin.len_ #[24] 3 ⟨[t11]⟩) (fun t12 w =>
  Hx.Cf Try.prog 27 ⟨[t12, (Go.Value.func (Go.Fn.func 28) ⟨[]⟩ ⟨[t2, t3]⟩)]⟩ (fun t14 w =>
  K (Go.Value.tuple #[t14, (Go.Value.bool false)]) w) w) w) w) w) (
  Hx.Pu Try.prog (Go.Instr.fieldAt 27 t2 1) (fun t15 w =>
  Hx.Rd Try.prog (Go.Instr.loadAt 24 t15) (fun t16 w =>
  Hx.Rd Try.prog (Go.Instr.loadAt 9 t3) (fun t17 w =>
  Hx.Cf Try.prog 29 ⟨[t16, t17]⟩ (fun t18 w =>
  Hx.drw (fun w =>
  Hx.Pu Try.prog (Go.Instr.fieldAt 27 t2 1) (fun t21 w =>
  Hx.Rd Try.prog (Go.Instr.loadAt 24 t21) (fun t22 w =>
  Hx.Rd Try.prog (Go.Builtin.len_ #[24] 3 ⟨[t22]⟩) (fun t23 w =>
  Hx.Pu Try.prog (Hx.binS .lss 3 (Go.Operand.tmp 20) (Go.Operand.tmp 23) t18 t23) (fun t24 w =>
  Hx.Gd t24 true (Hx.Pu Try.prog (Go.Instr.fieldAt 27 t2 1)) (fun t26 w =>
  Hx.Gd t24 true (Hx.Rd Try.prog (Go.Instr.loadAt 24 t26)) (fun t27 w =>
  Hx.Gd t24 true (fun K w => K t18 w) (fun t28 w =>
  Hx.Gd t24 true (Hx.Pu Try.prog (Go.Instr.indexAt 24 t27 t28)) (fun t29 w =>
  Hx.Gd t24 true (Hx.Rd Try.prog (Go.Instr.loadAt 9 t29)) (fun t30 w =>
  Hx.Gd t24 true (Hx.Rd Try.prog (Go.Instr.loadAt 9 t3)) (fun t31 w =>
  Hx.Gd t24 true (Hx.Rd Try.prog (Hx.binS .eql 9 (Go.Operand.tmp 30) (Go.Operand.tmp 31) t30 t31)) (fun t32 w =>
  Hx.Pu Try.prog (Hx.pickS t24 t32 (Go.Value.bool false)) (fun t33 w =>
  K (Go.Value.tuple #[t18, t33]) w) w) w) w) w) w) w) w) w) w) w) w) w) w) w) w) w) w)) w) w) w) w) w

def H10_a : Hx.Ann := ⟨Hx.lookC Hconv, Hx.lookL []⟩

theorem H10_eq (t0 t1 : Go.Value) (K : Go.Value → Go.World → Prop) (w : Go.World) : H10 t0 t1 K w = Hx.wpE Try.prog H10_a (Hx.bodyOf Try.f10) (Hx.retQ Try.prog Try.f10.results K) (Hx.argE [t0, t1]) [] w := by kernel_rfl

theorem H10_ok (t0 t1 : Go.Value) {K : Go.Value → Go.World → Prop} {w : Go.World} (h : H10 t0 t1 K w) : Go.Calls Try.prog 10 #[t0, t1] w (Hx.RetK K) :=
  Hx.calls_of_wpE (A := H10_a) Try.func10 rfl (by kernel_rfl) (by kernel_rfl) (by simp [Try.ntmps10]) (H10_eq t0 t1 K w ▸ h)

theorem H10_in (t0 t1 : Go.Value) {R : Go.Value → Go.World → Prop} {w : Go.World} (h : ∀ K : Go.Value → Go.World → Prop, (∀ v w', R v w' → K v w') → H10 t0 t1 K w) : Go.Calls Try.prog 10 #[t0, t1] w (Hx.RetK R) := H10_ok t0 t1 (h R fun _ _ h => h)

def H11_2 (t1 : Go.Value) (t18 : Go.Value) (K : Go.Value → Go.World → Prop) (u junk : Nat → Go.Value) (nx2 : Hx.Inv) (ds : List Nat) (w : Go.World) : Prop :=
  Hx.Pu Try.prog (Hx.binS .lss 3 (Go.Operand.tmp 19) (Go.Operand.tmp 18) (u 1) t18) (fun t20 w =>
  Hx.iteE t20 (
  Hx.Rd Try.prog (Go.Instr.loadAt 27 t1) (fun t23 w =>
  Hx.Cf Try.prog 30 ⟨[t23, (u 1)]⟩ (fun t25 w =>
  Hx.Pu Try.prog (Hx.binS .add 3 (Go.Operand.tmp 22) (Go.Operand.tmp 25) (u 0) t25) (fun t26 w =>
  Hx.Pu Try.prog (Hx.binS .add 3 (Go.Operand.tmp 19) (Go.Operand.const (Go.Value.int Go.IntKind.i64 1)) (u 1) (Go.Value.int Go.IntKind.i64 1)) (fun t27 w =>
  nx2 (Hx.vec [t26, t27]) ds w) w) w) w) w) (
  Hx.retH ds (K (u 0) w))) w

def H11_1 (t1 : Go.Value) (t3 : Go.Value) (K : Go.Value → Go.World → Prop) (w : Go.World) : Prop :=
  Hx.Pu Try.prog (Go.Instr.fieldAt 27 t1 1) (fun t16 w =>
  Hx.Rd Try.prog (Go.Instr.loadAt 24 t16) (fun t17 w =>
  Hx.Rd Try.prog (Go.Builtin.len_ #[24] 3 ⟨[t17]⟩) (fun t18 w =>
  Hx.loopH (Hx.vec [t3, (Go.Value.int Go.IntKind.i64 0)]) [] (H11_2 t1 t18 K) w) w) w) w

/-- dedup/node.Size -/
def H11 (t0 : Go.Value) (K : Go.Value → Go.World → Prop) (w : Go.World) : Prop :=
  Hx.Rr Try.prog (Go.Instr.box 27 t0) (fun t1 w =>
  Hx.Pu Try.prog (Go.Instr.fieldAt 27 t1 0) (fun t5 w =>
  Hx.Rd Try.prog (Go.Instr.loadAt 4 t5) (fun t6 w =>
  Hx.Pu Try.prog (Go.Op.unary .not t6) (fun t7 w =>
  Hx.Gd t7 true (Hx.Pu Try.prog (Go.Instr.fieldAt 27 t1 3)) (fun t9 w =>
  Hx.Gd t7 true (Hx.Rd Try.prog (Go.Instr.loadAt 25 t9)) (fun t10 w =>
  Hx.Gd t7 true (Hx.Rd Try.prog (Go.Builtin.len_ #[25] 3 ⟨[t10]⟩)) (fun t11 w =>
  Hx.Gd t7 true (Hx.Pu Try.prog (Hx.binS .gtr 3 (Go.Operand.tmp 11) (Go.Operand.const (Go.Value.int Go.IntKind.i64 0)) t11 (Go.Value.int Go.IntKind.i64 0))) (fun t12 w =>
  Hx.Pu Try.prog (Hx.pickS t7 t12 (Go.Value.bool false)) (fun t13 w =>
  Hx.iteE t13 (
  Hx.Pu Try.prog (Hx.binS .add 3 (Go.Operand.tmp 14) (Go.Operand.const (Go.Value.int Go.IntKind.i64 4)) (Go.Value.int Go.IntKind.i64 16) (Go.Value.int Go.IntKind.i64 4)) (fun t15 w =>
  H11_1 t1 t15 K w) w) (
  H11_1 t1 (Go.Value.int Go.IntKind.i64 16) K w)) w) w) w) w) w) w) w) w) w

def H11_a : Hx.Ann := ⟨Hx.lookC Hconv, Hx.lookL [(5, [3, 19])]⟩

theorem H11_eq (t0 : Go.Value) (K : Go.Value → Go.World → Prop) (w : Go.World) : H11 t0 K w = Hx.wpE Try.prog H11_a (Hx.bodyOf Try.f11) (Hx.retQ Try.prog Try.f11.results K) (Hx.argE [t0]) [] w := by kernel_rfl

theorem H11_ok (t0 : Go.Value) {K : Go.Value → Go.World → Prop} {w : Go.World} (h : H11 t0 K w) : Go.Calls Try.prog 11 #[t0] w (Hx.RetK K) :=
  Hx.calls_of_wpE (A := H11_a) Try.func11 rfl (by kernel_rfl) (by kernel_rfl) (by simp [Try.ntmps11]) (H11_eq t0 K w ▸ h)

theorem H11_in (t0 : Go.Value) {R : Go.Value → Go.World → Prop} {w : Go.World} (h : ∀ K : Go.Value → Go.World → Prop, (∀ v w', R v w' → K v w') → H11 t0 K w) : Go.Calls Try.prog 11 #[t0] w (Hx.RetK R) := H11_ok t0 (h R fun _ _ h => h)

/-- dedup/node.copied -/
def H12 (t0 : Go.Value) (K : Go.Value → Go.World → Prop) (w : Go.World) : Prop :=
  Hx.Rr Try.prog (Go.Instr.box 27 t0) (fun t1 w =>
  Hx.Rr Try.prog (Go.Instr.alloc 27 true (.tuple #[])) (fun t2 w =>
  Hx.drw (fun w =>
  Hx.Pu Try.prog (Go.Instr.fieldAt 27 t1 0) (fun t3 w =>
  Hx.Rd Try.prog (Go.Instr.loadAt 4 t3) (fun t4 w =>
  Hx.Pu Try.prog (Go.Instr.fieldAt 27 t1 1) (fun t5 w =>
  Hx.Rd Try.prog (Go.Instr.loadAt 24 t5) (fun t6 w =>
  Hx.Pu Try.prog (Go.Instr.fieldAt 27 t1 2) (fun t8 w =>
  Hx.Rd Try.prog (Go.Instr.loadAt 24 t8) (fun t9 w =>
  Hx.Pu Try.prog (Go.Instr.fieldAt 27 t1 3) (fun t11 w =>
  Hx.Rd Try.prog (Go.Instr.loadAt 25 t11) (fun t12 w =>
  Hx.Cf Try.prog 31 ⟨[t6]⟩ (fun t7 w =>
  (Hx.Rd Try.prog (Go.Instr.loadAt 25 t11) (fun u w' => u = t12 ∧ w' = w) w) ∧
  (Hx.Rd Try.prog (Go.Instr.loadAt 24 t8) (fun u w' => u = t9 ∧ w' = w) w) ∧
  (Hx.Rd Try.prog (Go.Instr.loadAt 4 t3) (fun u w' => u = t4 ∧ w' = w) w) ∧
  Hx.Cf Try.prog 31 ⟨[t9]⟩ (fun t10 w =>
  (Hx.Rd Try.prog (Go.Instr.loadAt 25 t11) (fun u w' => u = t12 ∧ w' = w) w) ∧
  (Hx.Rd Try.prog (Go.Instr.loadAt 4 t3) (fun u w' => u = t4 ∧ w' = w) w) ∧
  Hx.Cf Try.prog 32 ⟨[t12]⟩ (fun t13 w =>
  (Hx.Rd Try.prog (Go.Instr.loadAt 4 t3) (fun u w' => u = t4 ∧ w' = w) w) ∧
  Hx.Pu Try.prog (Go.Instr.build 27 ⟨[(0, t4), (1, t7), (2, t10), (3, t13)]⟩) (fun t14 w =>
  Hx.Uu Try.prog (Go.Instr.storeAt 27 t2 t14) (fun _ w =>
  Hx.Rd Try.prog (Go.Instr.loadAt 27 t2) (fun r0 w => K r0 w) w) w) w) w) w) w) w) w) w) w) w) w) w) w) w) w) w

def H12_a : Hx.Ann := ⟨Hx.lookC Hconv, Hx.lookL []⟩

theorem H12_eq (t0 : Go.Value) (K : Go.Value → Go.World → Prop) (w : Go.World) : H12 t0 K w = Hx.wpE Try.prog H12_a (Hx.bodyOf Try.f12) (Hx.retQ Try.prog Try.f12.results K) (Hx.argE [t0]) [] w := by kernel_rfl

theorem H12_ok (t0 : Go.Value) {K : Go.Value → Go.World → Prop} {w : Go.World} (h : H12 t0 K w) : Go.Calls Try.prog 12 #[t0] w (Hx.RetK K) :=
  Hx.calls_of_wpE (A := H12_a) Try.func12 rfl (by kernel_rfl) (by kernel_rfl) (by simp [Try.ntmps12]) (H12_eq t0 K w ▸ h)

theorem H12_in (t0 : Go.Value) {R : Go.Value → Go.World → Prop} {w : Go.World} (h : ∀ K : Go.Value → Go.World → Prop, (∀ v w', R v w' → K v w') → H12 t0 K w) : Go.Calls Try.prog 12 #[t0] w (Hx.RetK R) := H12_ok t0 (h R fun _ _ h => h)

/-- slices.Delete[[]string,string] -/
def H13 (t0 t1 t2 : Go.Value) (K : Go.Value → Go.World → Prop) (w : Go.World) : Prop :=
  Hx.Rd Try.prog (Go.Builtin.len_ #[24] 3 ⟨[t0]⟩) (fun t12 w =>
  Hx.Pu Try.prog (Go.Instr.sliceAt 24 t0 (some t1) (some t2) (some t12)) (fun t13 w =>
  Hx.Rd Try.prog (Hx.binS .eql 3 (Go.Operand.tmp 14) (Go.Operand.tmp 15) t1 t2) (fun t16 w =>
  Hx.iteE t16 (
  K t0 w) (
  Hx.Rd Try.prog (Go.Builtin.len_ #[24] 3 ⟨[t0]⟩) (fun t19 w =>
  Hx.drw (fun w =>
  Hx.Pu Try.prog (Go.Instr.sliceAt 24 t0 none (some t1) none) (fun t22 w =>
  Hx.Pu Try.prog (Go.Instr.sliceAt 24 t0 (some t2) none none) (fun t25 w =>
  Hx.Rr Try.prog (Go.Builtin.append_ #[24, 24] 24 ⟨[t22, t25]⟩) (fun t26 w =>
  Hx.Rd Try.prog (Go.Builtin.len_ #[24] 3 ⟨[t26]⟩) (fun t29 w =>
  Hx.Pu Try.prog (Go.Instr.sliceAt 24 t26 (some t29) (some t19) none) (fun t31 w =>
  Hx.Rr Try.prog (Go.Builtin.clear_ #[24] 0 ⟨[t31]⟩) (fun _ w =>
  K t26 w) w) w) w) w) w) w) w) w)) w) w) w

def H13_a : Hx.Ann := ⟨Hx.lookC Hconv, Hx.lookL []⟩

theorem H13_eq (t0 t1 t2 : Go.Value) (K : Go.Value → Go.World → Prop) (w : Go.World) : H13 t0 t1 t2 K w = Hx.wpE Try.prog H13_a (Hx.bodyOf Try.f13) (Hx.retQ Try.prog Try.f13.results K) (Hx.argE [t0, t1, t2]) [] w := by kernel_rfl

theorem H13_ok (t0 t1 t2 : Go.Value) {K : Go.Value → Go.World → Prop} {w : Go.World} (h : H13 t0 t1 t2 K w) : Go.Calls Try.prog 13 #[t0, t1, t2] w (Hx.RetK K) :=
  Hx.calls_of_wpE (A := H13_a) Try.func13 rfl (by kernel_rfl) (by kernel_rfl) (by simp [Try.ntmps13]) (H13_eq t0 t1 t2 K w ▸ h)

theorem H13_in (t0 t1 t2 : Go.Value) {R : Go.Value → Go.World → Prop} {w : Go.World} (h : ∀ K : Go.Value → Go.World → Prop, (∀ v w', R v w' → K v w') → H13 t0 t1 t2 K w) : Go.Calls Try.prog 13 #[t0, t1, t2] w (Hx.RetK R) := H13_ok t0 t1 t2 (h R fun _ _ h => h)

/-- dedup/node.Check -/
def H14 (t0 : Go.Value) (K : Go.Value → Go.World → Prop) (w : Go.World) : Prop :=
  Hx.Rr Try.prog (Go.Instr.box 27 t0) (fun t1 w =>
  Hx.Rd Try.prog (Go.Instr.loadAt 27 t1) (fun t3 w =>
  Hx.Cf Try.prog 33 ⟨[t3, (Go.Value.bool false)]⟩ (fun t4 w =>
  K t4 w) w) w) w

def H14_a : Hx.Ann := ⟨Hx.lookC Hconv, Hx.lookL []⟩

theorem H14_eq (t0 : Go.Value) (K : Go.Value → Go.World → Prop) (w : Go.World) : H14 t0 K w = Hx.wpE Try.prog H14_a (Hx.bodyOf Try.f14) (Hx.retQ Try.prog Try.f14.results K) (Hx.argE [t0]) [] w := by kernel_rfl

theorem H14_ok (t0 : Go.Value) {K : Go.Value → Go.World → Prop} {w : Go.World} (h : H14 t0 K w) : Go.Calls Try.prog 14 #[t0] w (Hx.RetK K) :=
  Hx.calls_of_wpE (A := H14_a) Try.func14 rfl (by kernel_rfl) (by kernel_rfl) (by simp [Try.ntmps14]) (H14_eq t0 K w ▸ h)

theorem H14_in (t0 : Go.Value) {R : Go.Value → Go.World → Prop} {w : Go.World} (h : ∀ K : Go.Value → Go.World → Prop, (∀ v w', R v w' → K v w') → H14 t0 K w) : Go.Calls Try.prog 14 #[t0] w (Hx.RetK R) := H14_ok t0 (h R fun _ _ h => h)

/-- dedup/node.keyRight -/
def H15 (t0 : Go.Value) (K : Go.Value → Go.World → Prop) (w : Go.World) : Prop :=
  Hx.Rd Try.prog (Go.Builtin.len_ #[9] 3 ⟨[t0]⟩) (fun t4 w =>
  Hx.Pu Try.prog (Hx.binS .geq 3 (Go.Operand.tmp 4) (Go.Operand.const (Go.Value.int Go.IntKind.i64 1)) t4 (Go.Value.int Go.IntKind.i64 1)) (fun t5 w =>
  Hx.Gd t5 true (fun K w => K t0 w) (fun t7 w =>
  Hx.Gd t5 true (Hx.Rd Try.prog (Go.Builtin.len_ #[9] 3 ⟨[t7]⟩)) (fun t8 w =>
  Hx.Gd t5 true (Hx.Pu Try.prog (Hx.binS .leq 3 (Go.Operand.tmp 8) (Go.Operand.const (Go.Value.int Go.IntKind.i64 64)) t8 (Go.Value.int Go.IntKind.i64 64))) (fun t9 w =>
  Hx.Pu Try.prog (Hx.pickS t5 t9 (Go.Value.bool false)) (fun t10 w =>
  K t10 w) w) w) w) w) w) w

def H15_a : Hx.Ann := ⟨Hx.lookC Hconv, Hx.lookL []⟩

theorem H15_eq (t0 : Go.Value) (K : Go.Value → Go.World → Prop) (w : Go.World) : H15 t0 K w = Hx.wpE Try.prog H15_a (Hx.bodyOf Try.f15) (Hx.retQ Try.prog Try.f15.results K) (Hx.argE [t0]) [] w := by kernel_rfl

theorem H15_ok (t0 : Go.Value) {K : Go.Value → Go.World → Prop} {w : Go.World} (h : H15 t0 K w) : Go.Calls Try.prog 15 #[t0] w (Hx.RetK K) :=
  Hx.calls_of_wpE (A := H15_a) Try.func15 rfl (by kernel_rfl) (by kernel_rfl) (by simp [Try.ntmps15]) (H15_eq t0 K w ▸ h)

theorem H15_in (t0 : Go.Value) {R : Go.Value → Go.World → Prop} {w : Go.World} (h : ∀ K : Go.Value → Go.World → Prop, (∀ v w', R v w' → K v w') → H15 t0 K w) : Go.Calls Try.prog 15 #[t0] w (Hx.RetK R) := H15_ok t0 (h R fun _ _ h => h)

/-- dedup/node.valueRight -/
def H16 (t0 : Go.Value) (K : Go.Value → Go.World → Prop) (w : Go.World) : Prop :=
  Hx.Rd Try.prog (Go.Builtin.len_ #[9] 3 ⟨[t0]⟩) (fun t4 w =>
  Hx.Pu Try.prog (Hx.binS .leq 3 (Go.Operand.tmp 4) (Go.Operand.const (Go.Value.int Go.IntKind.i64 64)) t4 (Go.Value.int Go.IntKind.i64 64)) (fun t5 w =>
  K t5 w) w) w

def H16_a : Hx.Ann := ⟨Hx.lookC Hconv, Hx.lookL []⟩

theorem H16_eq (t0 : Go.Value) (K : Go.Value → Go.World → Prop) (w : Go.World) : H16 t0 K w = Hx.wpE Try.prog H16_a (Hx.bodyOf Try.f16) (Hx.retQ Try.prog Try.f16.results K) (Hx.argE [t0]) [] w := by kernel_rfl

theorem H16_ok (t0 : Go.Value) {K : Go.Value → Go.World → Prop} {w : Go.World} (h : H16 t0 K w) : Go.Calls Try.prog 16 #[t0] w (Hx.RetK K) :=
  Hx.calls_of_wpE (A := H16_a) Try.func16 rfl (by kernel_rfl) (by kernel_rfl) (by simp [Try.ntmps16]) (H16_eq t0 K w ▸ h)

theorem H16_in (t0 : Go.Value) {R : Go.Value → Go.World → Prop} {w : Go.World} (h : ∀ K : Go.Value → Go.World → Prop, (∀ v w', R v w' → K v w') → H16 t0 K w) : Go.Calls Try.prog 16 #[t0] w (Hx.RetK R) := H16_ok t0 (h R fun _ _ h => h)

/-- slices.Insert[[]string,string] -/
def H17 (t0 t1 t2 : Go.Value) (K : Go.Value → Go.World → Prop) (w : Go.World) : Prop :=
  Hx.Pu Try.prog (Go.Instr.sliceAt 24 t0 (some t1) none none) (fun t12 w =>
  Hx.Rd Try.prog (Go.Builtin.len_ #[24] 3 ⟨[t2]⟩) (fun t14 w =>
  Hx.Rd Try.prog (Hx.binS .eql 3 (Go.Operand.tmp 15) (Go.Operand.const (Go.Value.int Go.IntKind.i64 0)) t14 (Go.Value.int Go.IntKind.i64 0)) (fun t16 w =>
  Hx.iteE t16 (
  K t0 w) (
  Hx.Rd Try.prog (Go.Builtin.len_ #[24] 3 ⟨[t0]⟩) (fun t19 w =>
  Hx.Rd Try.prog (Hx.binS .eql 3 (Go.Operand.tmp 20) (Go.Operand.tmp 21) t1 t19) (fun t22 w =>
  Hx.iteE t22 (
  Hx.Rr Try.prog (Go.Builtin.append_ #[24, 24] 24 ⟨[t0, t2]⟩) (fun t25 w =>
  K t25 w) w) (
  Hx.Pu Try.prog (Hx.binS .add 3 (Go.Operand.tmp 26) (Go.Operand.tmp 27) t19 t14) (fun t28 w =>
  Hx.Pu Try.prog (Go.Builtin.cap_ #[24] 3 ⟨[t0]⟩) (fun t30 w =>
  Hx.Pu Try.prog (Hx.binS .gtr 3 (Go.Operand.tmp 28) (Go.Operand.tmp 30) t28 t30) (fun t31 w =>
  Hx.iteE t31 (
  Hx.Pu Try.prog (Go.Instr.sliceAt 24 t0 none (some t1) none) (fun t34 w =>
  Hx.Pu Try.prog (Hx.binS .add 3 (Go.Operand.tmp 35) (Go.Operand.tmp 36) t19 t14) (fun t37 w =>
  Hx.Pu Try.prog (Hx.binS .sub 3 (Go.Operand.tmp 37) (Go.Operand.tmp 38) t37 t1) (fun t39 w =>
  Hx.Rr Try.prog (Go.Builtin.append_ #[24, 3] 24 ⟨[t34, t39]⟩) (fun t40 w =>
  Hx.Pu Try.prog (Go.Instr.sliceAt 24 t40 (some t1) none none) (fun t43 w =>
  Hx.Rr Try.prog (Go.Builtin.copy_ #[24, 24] 3 ⟨[t43, t2]⟩) (fun t45 w =>
  Hx.drw (fun w =>
  Hx.Pu Try.prog (Hx.binS .add 3 (Go.Operand.tmp 47) (Go.Operand.tmp 48) t1 t14) (fun t49 w =>
  Hx.Pu Try.prog (Go.Instr.sliceAt 24 t40 (some t49) none none) (fun t50 w =>
  Hx.Pu Try.prog (Go.Instr.sliceAt 24 t0 (some t1) none none) (fun t53 w =>
  Hx.Rr Try.prog (Go.Builtin.copy_ #[24, 24] 3 ⟨[t50, t53]⟩) (fun t54 w =>
  K t40 w) w) w) w) w) w) w) w) w) w) w) w) (
  Hx.Pu Try.prog (Hx.binS .add 3 (Go.Operand.tmp 57) (Go.Operand.tmp 58) t19 t14) (fun t59 w =>
  Hx.Pu Try.prog (Go.Instr.sliceAt 24 t0 none (some t59) none) (fun t60 w =>
  Hx.Pu Try.prog (Hx.binS .add 3 (Go.Operand.tmp 63) (Go.Operand.tmp 64) t1 t14) (fun t65 w =>
  Hx.Pu Try.prog (Go.Instr.sliceAt 24 t60 (some t65) none none) (fun t66 w =>
  Hx.Cf Try.prog 34 ⟨[t2, t66]⟩ (fun t67 w =>
  Hx.Pu Try.prog (Go.Op.unary .not t67) (fun t68 w =>
  Hx.iteE t68 (
  Hx.drw (fun w =>
  Hx.Pu Try.prog (Hx.binS .add 3 (Go.Operand.tmp 70) (Go.Operand.tmp 71) t1 t14) (fun t72 w =>
  Hx.Pu Try.prog (Go.Instr.sliceAt 24 t60 (some t72) none none) (fun t73 w =>
  Hx.Pu Try.prog (Go.Instr.sliceAt 24 t60 (some t1) none none) (fun t76 w =>
  Hx.Rr Try.prog (Go.Builtin.copy_ #[24, 24] 3 ⟨[t73, t76]⟩) (fun t77 w =>
  Hx.Pu Try.prog (Go.Instr.sliceAt 24 t60 (some t1) none none) (fun t80 w =>
  Hx.Rr Try.prog (Go.Builtin.copy_ #[24, 24] 3 ⟨[t80, t2]⟩) (fun t82 w =>
  K t60 w) w) w) w) w) w) w) w) (
  Hx.Pu Try.prog (Go.Instr.sliceAt 24 t60 (some t19) none none) (fun t86 w =>
  Hx.Rr Try.prog (Go.Builtin.copy_ #[24, 24] 3 ⟨[t86, t2]⟩) (fun t88 w =>
  Hx.Pu Try.prog (Go.Instr.sliceAt 24 t60 (some t1) none none) (fun t91 w =>
  Hx.Cf Try.prog 35 ⟨[t91, t14]⟩ (fun t93 w =>
  K t60 w) w) w) w) w)) w) w) w) w) w) w)) w) w) w)) w) w)) w) w) w

def H17_a : Hx.Ann := ⟨Hx.lookC Hconv, Hx.lookL []⟩

theorem H17_eq (t0 t1 t2 : Go.Value) (K : Go.Value → Go.World → Prop) (w : Go.World) : H17 t0 t1 t2 K w = Hx.wpE Try.prog H17_a (Hx.bodyOf Try.f17) (Hx.retQ Try.prog Try.f17.results K) (Hx.argE [t0, t1, t2]) [] w := by kernel_rfl

theorem H17_ok (t0 t1 t2 : Go.Value) {K : Go.Value → Go.World → Prop} {w : Go.World} (h : H17 t0 t1 t2 K w) : Go.Calls Try.prog 17 #[t0, t1, t2] w (Hx.RetK K) :=
  Hx.calls_of_wpE (A := H17_a) Try.func17 rfl (by kernel_rfl) (by kernel_rfl) (by simp [Try.ntmps17]) (H17_eq t0 t1 t2 K w ▸ h)

theorem H17_in (t0 t1 t2 : Go.Value) {R : Go.Value → Go.World → Prop} {w : Go.World} (h : ∀ K : Go.Value → Go.World → Prop, (∀ v w', R v w' → K v w') → H17 t0 t1 t2 K w) : Go.Calls Try.prog 17 #[t0, t1, t2] w (Hx.RetK R) := H17_ok t0 t1 t2 (h R fun _ _ h => h)

/-- dedup/node.sizeRight -/
def H18 (t0 : Go.Value) (K : Go.Value → Go.World → Prop) (w : Go.World) : Prop :=
  Hx.Pu Try.prog (Hx.binS .geq 3 (Go.Operand.tmp 3) (Go.Operand.const (Go.Value.int Go.IntKind.i64 512)) t0 (Go.Value.int Go.IntKind.i64 512)) (fun t4 w =>
  Hx.Gd t4 true (fun K w => K t0 w) (fun t6 w =>
  Hx.Gd t4 true (Hx.Pu Try.prog (Hx.binS .leq 3 (Go.Operand.tmp 6) (Go.Operand.const (Go.Value.int Go.IntKind.i64 4096)) t6 (Go.Value.int Go.IntKind.i64 4096))) (fun t7 w =>
  Hx.Pu Try.prog (Hx.pickS t4 t7 (Go.Value.bool false)) (fun t8 w =>
  Hx.Gd t8 true (fun K w => K t0 w) (fun t10 w =>
  Hx.Gd t8 true (fun K w => K t0 w) (fun t11 w =>
  Hx.Gd t8 true (Hx.Pu Try.prog (Hx.binS .sub 3 (Go.Operand.tmp 11) (Go.Operand.const (Go.Value.int Go.IntKind.i64 1)) t11 (Go.Value.int Go.IntKind.i64 1))) (fun t12 w =>
  Hx.Gd t8 true (Hx.Pu Try.prog (Hx.binS .and 3 (Go.Operand.tmp 10) (Go.Operand.tmp 12) t10 t12)) (fun t13 w =>
  Hx.Gd t8 true (Hx.Rd Try.prog (Hx.binS .eql 3 (Go.Operand.tmp 13) (Go.Operand.const (Go.Value.int Go.IntKind.i64 0)) t13 (Go.Value.int Go.IntKind.i64 0))) (fun t14 w =>
  Hx.Pu Try.prog (Hx.pickS t8 t14 (Go.Value.bool false)) (fun t15 w =>
  K t15 w) w) w) w) w) w) w) w) w) w) w

def H18_a : Hx.Ann := ⟨Hx.lookC Hconv, Hx.lookL []⟩

theorem H18_eq (t0 : Go.Value) (K : Go.Value → Go.World → Prop) (w : Go.World) : H18 t0 K w = Hx.wpE Try.prog H18_a (Hx.bodyOf Try.f18) (Hx.retQ Try.prog Try.f18.results K) (Hx.argE [t0]) [] w := by kernel_rfl

theorem H18_ok (t0 : Go.Value) {K : Go.Value → Go.World → Prop} {w : Go.World} (h : H18 t0 K w) : Go.Calls Try.prog 18 #[t0] w (Hx.RetK K) :=
  Hx.calls_of_wpE (A := H18_a) Try.func18 rfl (by kernel_rfl) (by kernel_rfl) (by simp [Try.ntmps18]) (H18_eq t0 K w ▸ h)

theorem H18_in (t0 : Go.Value) {R : Go.Value → Go.World → Prop} {w : Go.World} (h : ∀ K : Go.Value → Go.World → Prop, (∀ v w', R v w' → K v w') → H18 t0 K w) : Go.Calls Try.prog 18 #[t0] w (Hx.RetK R) := H18_ok t0 (h R fun _ _ h => h)

end Go.Proofs
