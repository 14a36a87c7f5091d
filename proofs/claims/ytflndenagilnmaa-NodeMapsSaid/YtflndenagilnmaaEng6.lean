/-
  ENGINE, part 6: the primitives' laws, for any program: what simp does with a printed function.
-/
import Derived.Test.YtflndenagilnmaaEng5
import Derived.Laws.Slices
import Derived.Deep.AppendSrc
import Derived.Laws.OwnMore
import Derived.IntWalk
import Derived.Laws.Strings
set_option linter.unusedVariables false
set_option linter.unusedSimpArgs false
namespace Go.Hx
open Go Go.RowKit

variable {P : Program} {K : Value → World → Prop} {w : World}

/-! ### The order in which simp looks: never into what follows -/
theorem Pu_congr {s s' : Sem Value} (h : s = s') : Pu P s K w = Pu P s' K w := by rw [h]
theorem Rd_congr {s s' : Sem Value} (h : s = s') : Rd P s K w = Rd P s' K w := by rw [h]
theorem Rr_congr {s s' : Sem Value} (h : s = s') : Rr P s K w = Rr P s' K w := by rw [h]
theorem Uu_congr {s s' : Sem Unit} (h : s = s') : Uu P s K w = Uu P s' K w := by rw [h]
theorem Cf_congr {f : FuncId} {a a' : Array Value} (h : a = a') : Cf P f a K w = Cf P f a' K w := by rw [h]
theorem Cv_congr {v v' : Value} {a a' : Array Value} (hv : v = v') (h : a = a') : Cv P v a K w = Cv P v' a' K w := by rw [hv, h]
theorem iteE_congr {v v' : Value} {A B : Prop} (h : v = v') : iteE v A B = iteE v' A B := by rw [h]
theorem Gd_congr {v v' : Value} {want : Bool} {B : (Value → World → Prop) → World → Prop} (h : v = v') : Gd v want B K w = Gd v' want B K w := by rw [h]
theorem loopH_congr {v0 v0' : Nat → Value} {ds : List Nat} {B : (u junk : Nat → Value) → Inv → List Nat → World → Prop} (h : v0 = v0') : loopH v0 ds B w = loopH v0' ds B w := by rw [h]
theorem drw_congr {K : World → Prop} {w w' : World} (h : w = w') : drw K w = drw K w' := by rw [h]

def optK (o : Option Value) (K : Value → World → Prop) (w : World) : Prop :=
  match o with
  | some v => K v w
  | none => False
theorem optK_congr {o o' : Option Value} (h : o = o') : optK o K w = optK o' K w := by rw [h]
@[simp] theorem optK_some {v : Value} : optK (some v) K w = K v w := rfl

theorem readOf_bind {α β : Type} : ∀ (s : Sem α) (f : α → Sem β), readOf P w (s.bind f) = (readOf P w s).bind fun a => readOf P w (f a)
  | .pure a, f => rfl
  | .program k, f => readOf_bind (k P) f
  | .load m a k, f => by
    simp only [Sem.bind, readOf]
    cases w.cell? a with
    | none => rfl
    | some v => exact readOf_bind (k v) f
  | .shape r k, f => readOf_bind (k _) f
  | .frozen a k, f => readOf_bind (k _) f
  | .getObj r k, f => by
    simp only [Sem.bind, readOf]
    cases w.heap[r]? with
    | none => rfl
    | some o => cases o <;> first | rfl | exact readOf_bind (k _) f
  | .store .., f => rfl
  | .new .., f => rfl
  | .freeze .., f => rfl
  | .setObj .., f => rfl
  | .choose .., f => rfl
  | .sys .., f => rfl
  | .mark .., f => rfl
  | .halt .., f => rfl
/-! ### Control -/
@[simp] theorem drw_eq {K : World → Prop} : drw K w = K w.drew := rfl
@[simp] theorem retH_nil {p : Prop} : retH [] p = p := rfl
@[simp] theorem iteE_true {A B : Prop} : iteE (.bool true) A B = A := rfl
@[simp] theorem iteE_false {A B : Prop} : iteE (.bool false) A B = B := rfl
@[simp] theorem Gd_tt {B : (Value → World → Prop) → World → Prop} : Gd (.bool true) true B K w = B K w := rfl
@[simp] theorem Gd_ff {B : (Value → World → Prop) → World → Prop} : Gd (.bool false) false B K w = B K w := rfl
@[simp] theorem Gd_tf {B : (Value → World → Prop) → World → Prop} : Gd (.bool true) false B K w = K undef w := rfl
@[simp] theorem Gd_ft {B : (Value → World → Prop) → World → Prop} : Gd (.bool false) true B K w = K undef w := rfl
@[simp] theorem Gd_undef {want : Bool} {B : (Value → World → Prop) → World → Prop} : Gd undef want B K w = K undef w := rfl
theorem iteE_of {b : Bool} {A B : Prop} (h1 : b = true → A) (h2 : b = false → B) : iteE (.bool b) A B := by cases b; exact h2 rfl; exact h1 rfl
theorem iteE_dec {p : Prop} [Decidable p] {A B : Prop} (h1 : p → A) (h2 : ¬p → B) : iteE (.bool (decide p)) A B := by
  by_cases h : p
  · simp [h, h1 h]
  · simp [h, h2 h]

@[simp] theorem Pu_pick_t {a b : Value} : Pu P (pickS (.bool true) a b) K w = K a w := rfl
@[simp] theorem Pu_pick_f {a b : Value} : Pu P (pickS (.bool false) a b) K w = K b w := rfl
theorem Pu_pick {c : Bool} {a b : Value} : Pu P (pickS (.bool c) a b) K w = K (if c then a else b) w := by cases c <;> rfl
@[simp] theorem Pu_pick_or {c d : Bool} : Pu P (pickS (.bool c) (.bool true) (.bool d)) K w = K (.bool (c || d)) w := by cases c <;> rfl
@[simp] theorem Pu_pick_and {c d : Bool} : Pu P (pickS (.bool c) (.bool d) (.bool false)) K w = K (.bool (c && d)) w := by cases c <;> rfl
@[simp] theorem Pu_nil {a : Addr} : Pu P (nilS (.pointer (some a))) K w = K (.pointer (some a)) w := rfl
@[simp] theorem Pu_nil_func {f : FuncId} {a b : Array Value} : Pu P (nilS (.func (.func f) a b)) K w = K (.func (.func f) a b) w := rfl
@[simp] theorem Pu_nil_yield {l : Nat} {a b : Array Value} : Pu P (nilS (.func (.yield l) a b)) K w = K (.func (.yield l) a b) w := rfl
@[simp] theorem Pu_not {b : Bool} : Pu P (Op.unary .not (.bool b)) K w = K (.bool !b) w := rfl
@[simp] theorem Pu_neg {k : IntKind} {n : Int} : Pu P (Op.unary .neg (.int k n)) K w = K (.int k (k.wrap (0 - n))) w := rfl
@[simp] theorem Pu_extract {vs : Array Value} {i : Nat} : Pu P (Instr.extract (.tuple vs) i) K w = optK vs[i]? K w := by
  simp only [Pu, Instr.extract]
  cases h : vs[i]? <;> rfl

/-! ### Whole numbers -/
section ints
variable {t : TypeId} {xo yo : Operand} {k : IntKind} {a b : Int}
theorem binS_pure {op : BinOp} {x y : Value} (h : isEq op = false) : binS op t xo yo x y = binOp op t x y := by
  cases op <;> first | rfl | (simp [isEq] at h)
@[simp] theorem Pu_add : Pu P (binS .add t xo yo (.int k a) (.int k b)) K w = K (.int k (k.wrap (a + b))) w := by
  unfold Pu; rw [binS_pure rfl]; simp [binOp, Op.intArith, pureOf, pure]
@[simp] theorem Pu_sub : Pu P (binS .sub t xo yo (.int k a) (.int k b)) K w = K (.int k (k.wrap (a - b))) w := by
  unfold Pu; rw [binS_pure rfl]; simp [binOp, Op.intArith, pureOf, pure]
@[simp] theorem Pu_mul : Pu P (binS .mul t xo yo (.int k a) (.int k b)) K w = K (.int k (k.wrap (a * b))) w := by
  unfold Pu; rw [binS_pure rfl]; simp [binOp, Op.intArith, pureOf, pure]
@[simp] theorem Pu_lss : Pu P (binS .lss t xo yo (.int k a) (.int k b)) K w = K (.bool (decide (a < b))) w := by
  unfold Pu; rw [binS_pure rfl]; simp [binOp, Op.intCmp, pureOf, pure]
@[simp] theorem Pu_leq : Pu P (binS .leq t xo yo (.int k a) (.int k b)) K w = K (.bool (decide (a ≤ b))) w := by
  unfold Pu; rw [binS_pure rfl]; simp [binOp, Op.intCmp, pureOf, pure]
@[simp] theorem Pu_gtr : Pu P (binS .gtr t xo yo (.int k a) (.int k b)) K w = K (.bool (decide (b < a))) w := by
  unfold Pu; rw [binS_pure rfl]; simp [binOp, Op.intCmp, pureOf, pure]
@[simp] theorem Pu_geq : Pu P (binS .geq t xo yo (.int k a) (.int k b)) K w = K (.bool (decide (b ≤ a))) w := by
  unfold Pu; rw [binS_pure rfl]; simp [binOp, Op.intCmp, pureOf, pure]
theorem Pu_quo (hb : b ≠ 0) : Pu P (binS .quo t xo yo (.int k a) (.int k b)) K w = K (.int k (k.wrap (a.tdiv b))) w := by
  unfold Pu; rw [binS_pure rfl]; simp [binOp, Op.intDiv, pureOf, pure, hb]
theorem Pu_rem (hb : b ≠ 0) : Pu P (binS .rem t xo yo (.int k a) (.int k b)) K w = K (.int k (a.tmod b)) w := by
  unfold Pu; rw [binS_pure rfl]; simp [binOp, Op.intDiv, pureOf, pure, hb]
theorem Pu_bits {op : BinOp} (h : op = .and ∨ op = .or ∨ op = .xor ∨ op = .andNot) {v : Value} (hv : pureOf P (Op.intBits op k a b) = some v) : Pu P (binS op t xo yo (.int k a) (.int k b)) K w = K v w := by
  rcases h with rfl | rfl | rfl | rfl <;> (unfold Pu; rw [binS_pure rfl]; simp [binOp, hv])
@[simp] theorem Pu_and : Pu P (binS .and t xo yo (.int k a) (.int k b)) K w = K (.int k (k.wrap (BitVec.ofInt k.bits a &&& BitVec.ofInt k.bits b).toNat)) w := by
  unfold Pu; rw [binS_pure rfl]; simp [binOp, Op.intBits, pureOf, pure]
@[simp] theorem Pu_or : Pu P (binS .or t xo yo (.int k a) (.int k b)) K w = K (.int k (k.wrap (BitVec.ofInt k.bits a ||| BitVec.ofInt k.bits b).toNat)) w := by
  unfold Pu; rw [binS_pure rfl]; simp [binOp, Op.intBits, pureOf, pure]
@[simp] theorem Pu_xor : Pu P (binS .xor t xo yo (.int k a) (.int k b)) K w = K (.int k (k.wrap (BitVec.ofInt k.bits a ^^^ BitVec.ofInt k.bits b).toNat)) w := by
  unfold Pu; rw [binS_pure rfl]; simp [binOp, Op.intBits, pureOf, pure]
theorem Pu_shl {yk : IntKind} (hb : 0 ≤ b) : Pu P (binS .shl t xo yo (.int k a) (.int yk b)) K w = K (.int k (k.wrap (a * 2 ^ (min b.toNat k.bits)))) w := by
  unfold Pu; rw [binS_pure rfl]; simp [binOp, Op.shift, pureOf, pure, show ¬ b < 0 by omega]
theorem Pu_shr {yk : IntKind} (hb : 0 ≤ b) : Pu P (binS .shr t xo yo (.int k a) (.int yk b)) K w = K (.int k (a.fdiv (2 ^ (min b.toNat k.bits)))) w := by
  unfold Pu; rw [binS_pure rfl]; simp [binOp, Op.shift, pureOf, pure, show ¬ b < 0 by omega]
@[simp] theorem Rd_eql : Rd P (binS .eql t xo yo (.int k a) (.int k b)) K w = K (.bool (decide (a = b))) w := by
  have : (a == b) = decide (a = b) := by by_cases h : a = b <;> simp [h]
  simp [Rd, binS, eqGuard, binOp, Op.intCmp, readOf, pure, bind, Sem.bind, this]
@[simp] theorem Rd_neq : Rd P (binS .neq t xo yo (.int k a) (.int k b)) K w = K (.bool (decide (a ≠ b))) w := by
  have : (a != b) = decide (a ≠ b) := by by_cases h : a = b <;> simp [h]
  simp [Rd, binS, eqGuard, binOp, Op.intCmp, readOf, pure, bind, Sem.bind, this]
end ints
theorem wrap_i64 {n : Int} (h0 : -9223372036854775808 ≤ n) (h1 : n ≤ 9223372036854775807) : IntKind.i64.wrap n = n := IntWalk.i64_in n ⟨h0, h1⟩
theorem wrap_u8 {n : Int} (h0 : 0 ≤ n) (h1 : n ≤ 255) : IntKind.u8.wrap n = n := IntWalk.u8_in n ⟨h0, h1⟩
theorem wrap_u16 {n : Int} (h0 : 0 ≤ n) (h1 : n ≤ 65535) : IntKind.u16.wrap n = n := IntWalk.u16_in n ⟨h0, h1⟩
theorem wrap_u32 {n : Int} (h0 : 0 ≤ n) (h1 : n ≤ 4294967295) : IntKind.u32.wrap n = n := IntWalk.u32_in n ⟨h0, h1⟩
theorem wrap_u64 {n : Int} (h0 : 0 ≤ n) (h1 : n ≤ 18446744073709551615) : IntKind.u64.wrap n = n := by
  simp [IntKind.wrap, IntKind.bits, IntKind.signed]; omega
@[simp] theorem Pu_conv_int {s d : TypeId} {k k' : IntKind} {n : Int} (hs : ∃ x, P.underlying s = some x) (hd : P.underlying d = some (.int k')) :
    Pu P (convert s d (.int k n)) K w = K (.int k' (k'.wrap n)) w := by
  obtain ⟨x, hs⟩ := hs
  simp [Pu, convert, underlying, program, hs, hd, pureOf, bind, Sem.bind, pure, Conv.intToInt]

/-! ### Strings -/
section strings
variable {t : TypeId} {xo yo : Operand} {x y : ByteArray}
def slt (x y : ByteArray) : Bool := Op.bytesLess x.toList y.toList
theorem ba_beq (x y : ByteArray) : (x.toList == y.toList) = decide (x = y) := by
  have h : x.toList = y.toList ↔ x = y := by
    constructor
    · intro h
      have h2 : x.data.toList = y.data.toList := by rwa [Go.ByteArray.toList_eq, Go.ByteArray.toList_eq] at h
      cases x; cases y
      simp only [ByteArray.mk.injEq]
      exact Array.ext' h2
    · rintro rfl; rfl
  by_cases hxy : x = y
  · simp [hxy]
  · have := mt h.1 hxy; simp [hxy, this]
@[simp] theorem Pu_slss : Pu P (binS .lss t xo yo (.string x) (.string y)) K w = K (.bool (slt x y)) w := by
  unfold Pu; rw [binS_pure rfl]; simp [binOp, Op.stringOp, pureOf, pure, slt]
@[simp] theorem Pu_sgeq : Pu P (binS .geq t xo yo (.string x) (.string y)) K w = K (.bool (!slt x y)) w := by
  unfold Pu; rw [binS_pure rfl]; simp [binOp, Op.stringOp, pureOf, pure, slt]
@[simp] theorem Pu_sleq : Pu P (binS .leq t xo yo (.string x) (.string y)) K w = K (.bool (slt x y || decide (x = y))) w := by
  unfold Pu; rw [binS_pure rfl]; simp [binOp, Op.stringOp, pureOf, pure, slt, ba_beq]
@[simp] theorem Pu_sgtr : Pu P (binS .gtr t xo yo (.string x) (.string y)) K w = K (.bool (!(slt x y || decide (x = y)))) w := by
  unfold Pu; rw [binS_pure rfl]; simp [binOp, Op.stringOp, pureOf, pure, slt, ba_beq]
theorem Pu_sadd (h : x.size + y.size ≤ 9223372036854775807) : Pu P (binS .add t xo yo (.string x) (.string y)) K w = K (.string (x ++ y)) w := by
  have h' : ¬ (9223372036854775807 : Int) < ((x.size : Int) + (y.size : Int)) := by omega
  unfold Pu; rw [binS_pure rfl]; simp [binOp, Op.stringOp, pureOf, pure, IntKind.max, IntKind.signed, IntKind.bits, h']
@[simp] theorem Rd_seql : Rd P (binS .eql t xo yo (.string x) (.string y)) K w = K (.bool (decide (x = y))) w := by
  simp [Rd, binS, eqGuard, binOp, Op.stringOp, readOf, pure, bind, Sem.bind, ba_beq]
@[simp] theorem Rd_sneq : Rd P (binS .neq t xo yo (.string x) (.string y)) K w = K (.bool (!decide (x = y))) w := by
  simp [Rd, binS, eqGuard, binOp, Op.stringOp, readOf, pure, bind, Sem.bind, ba_beq]
theorem Rd_slen (h : P.underlying t = some .string) {ty : TypeId} : Rd P (Builtin.len_ #[t] ty ⟨[.string x]⟩) K w = K (.int .i64 x.size) w := by
  simp [Rd, Builtin.len_, underlying, program, h, readOf, pure, bind, Sem.bind, goInt]
theorem Pu_sindex (h : P.underlying t = some .string) {k : IntKind} {i : Nat} (hi : i < x.size) : Pu P (Instr.index t (.string x) (.int k i)) K w = K (.int .u8 (x[i]'hi).toNat) w := by
  simp [Pu, Instr.index, asIntOf, underlying, program, h, pureOf, pure, bind, Sem.bind, hi]
end strings

section eqs
variable {t : TypeId} {xo yo : Operand}
theorem Rd_eql_of {x y : Value} {r : Bool} (hg : binS .eql t xo yo x y = (do pure (.bool (← Op.equal t x y)) : Sem Value)) (h : ∀ d, readOf P w (Op.equalIn (d + 1) t x y) = some r) :
    Rd P (binS .eql t xo yo x y) K w = K (.bool r) w := by
  have h1 : readOf P w (Op.equal t x y) = some r := h 9999
  unfold Rd
  rw [hg]
  simp only [bind, readOf_bind, h1, Option.bind_some, pure, readOf]
theorem Rd_neq_of {x y : Value} {r : Bool} (hg : binS .neq t xo yo x y = (do pure (.bool (!(← Op.equal t x y))) : Sem Value)) (h : ∀ d, readOf P w (Op.equalIn (d + 1) t x y) = some r) :
    Rd P (binS .neq t xo yo x y) K w = K (.bool !r) w := by
  have h1 : readOf P w (Op.equal t x y) = some r := h 9999
  unfold Rd
  rw [hg]
  simp only [bind, readOf_bind, h1, Option.bind_some, pure, readOf]
theorem eqIn_bool (h : P.underlying t = some .bool) (a b : Bool) (d : Nat) : readOf P w (Op.equalIn (d + 1) t (.bool a) (.bool b)) = some (a == b) := by
  simp [Op.equalIn, underlying, program, h, readOf, pure, bind, Sem.bind]
theorem eqIn_ptr_nil {e : TypeId} (h : P.underlying t = some (.pointer e)) (a : Option Addr) (d : Nat) : readOf P w (Op.equalIn (d + 1) t (.pointer a) (.pointer none)) = some a.isNone := by
  cases a <;> simp [Op.equalIn, underlying, program, h, readOf, pure, bind, Sem.bind]
theorem eqIn_sl_nil {e : TypeId} (h : P.underlying t = some (.slice e)) (a : Option Addr) (n c : Nat) (d : Nat) : readOf P w (Op.equalIn (d + 1) t (.slice a n c) (.slice none 0 0)) = some a.isNone := by
  cases a <;> simp [Op.equalIn, underlying, program, h, readOf, pure, bind, Sem.bind]
theorem eqIn_map_nil {k e : TypeId} (h : P.underlying t = some (.map k e)) (a : Option Nat) (d : Nat) : readOf P w (Op.equalIn (d + 1) t (.map a) (.map none)) = some a.isNone := by
  cases a <;> simp [Op.equalIn, underlying, program, h, readOf, pure, bind, Sem.bind]
theorem Rd_beql (h : P.underlying t = some .bool) {a b : Bool} : Rd P (binS .eql t xo yo (.bool a) (.bool b)) K w = K (.bool (a == b)) w := Rd_eql_of rfl (eqIn_bool h a b)
theorem Rd_bneq (h : P.underlying t = some .bool) {a b : Bool} : Rd P (binS .neq t xo yo (.bool a) (.bool b)) K w = K (.bool (!(a == b))) w := Rd_neq_of rfl (eqIn_bool h a b)
theorem Rd_peql_nil {e : TypeId} (h : P.underlying t = some (.pointer e)) {a : Option Addr} : Rd P (binS .eql t xo yo (.pointer a) (.pointer none)) K w = K (.bool a.isNone) w := by
  cases a <;> exact Rd_eql_of rfl (eqIn_ptr_nil h _)
theorem Rd_pneq_nil {e : TypeId} (h : P.underlying t = some (.pointer e)) {a : Option Addr} : Rd P (binS .neq t xo yo (.pointer a) (.pointer none)) K w = K (.bool !a.isNone) w := by
  cases a <;> exact Rd_neq_of rfl (eqIn_ptr_nil h _)
theorem Rd_sleql_nil {e : TypeId} (h : P.underlying t = some (.slice e)) {a : Option Addr} {n c : Nat} : Rd P (binS .eql t xo yo (.slice a n c) (.slice none 0 0)) K w = K (.bool a.isNone) w := Rd_eql_of rfl (eqIn_sl_nil h a n c)
theorem Rd_slneq_nil {e : TypeId} (h : P.underlying t = some (.slice e)) {a : Option Addr} {n c : Nat} : Rd P (binS .neq t xo yo (.slice a n c) (.slice none 0 0)) K w = K (.bool !a.isNone) w := Rd_neq_of rfl (eqIn_sl_nil h a n c)
theorem Rd_meql_nil {k e : TypeId} (h : P.underlying t = some (.map k e)) {a : Option Nat} : Rd P (binS .eql t xo yo (.map a) (.map none)) K w = K (.bool a.isNone) w := Rd_eql_of rfl (eqIn_map_nil h a)
theorem Rd_mneq_nil {k e : TypeId} (h : P.underlying t = some (.map k e)) {a : Option Nat} : Rd P (binS .neq t xo yo (.map a) (.map none)) K w = K (.bool !a.isNone) w := Rd_neq_of rfl (eqIn_map_nil h a)
end eqs

/-! ### Addresses -/
@[simp] theorem add_none (b o n : Nat) : (⟨b, o, none⟩ : Addr).add n = ⟨b, o + n, none⟩ := by
  unfold Addr.add; split
  · simp [*]
  · rfl
theorem Pu_field {s : TypeId} {fs : Array Field} {i : Nat} {f : Field} {inf : TypeInfo} (h : P.underlying s = some (.struct fs)) (hf : fs[i]? = some f) (hi : P.info? f.type = some inf) (hz : inf.size ≠ 0) {b o : Nat} :
    Pu P (Instr.fieldAt s (.pointer (some ⟨b, o, none⟩)) i) K w = K (.pointer (some ⟨b, o + f.offset, none⟩)) w := by
  simp [Pu, Instr.fieldAt, underlying, program, h, hf, fieldPlace, sizeOf, typeInfo, hi, hz, Instr.sureAddr, pureOf, pure, bind, Sem.bind]
theorem Pu_indexAddr {t e : TypeId} {inf : TypeInfo} (h : P.underlying t = some (.slice e)) (hi : P.info? e = some inf) {k : IntKind} {i : Int} {b o n c : Nat} (h0 : 0 ≤ i) (h1 : i < n) :
    Pu P (Instr.indexAt t (.slice (some ⟨b, o, none⟩) n c) (.int k i)) K w = K (.pointer (some ⟨b, o + i.toNat * inf.size, none⟩)) w := by
  simp [Pu, Instr.indexAt, asIntOf, underlying, program, h, sizeOf, typeInfo, hi, pureOf, pure, bind, Sem.bind, h0, h1]
theorem Rd_len {t e : TypeId} (h : P.underlying t = some (.slice e)) {ty : TypeId} {a : Option Addr} {n c : Nat} : Rd P (Builtin.len_ #[t] ty ⟨[.slice a n c]⟩) K w = K (.int .i64 n) w := by
  simp [Rd, Builtin.len_, underlying, program, h, readOf, pure, bind, Sem.bind, goInt]
theorem Pu_cap {t e : TypeId} (h : P.underlying t = some (.slice e)) {ty : TypeId} {a : Option Addr} {n c : Nat} : Pu P (Builtin.cap_ #[t] ty ⟨[.slice a n c]⟩) K w = K (.int .i64 c) w := by
  simp [Pu, Builtin.cap_, underlying, program, h, pureOf, pure, bind, Sem.bind, goInt]
theorem Rd_mlen {t k e : TypeId} (h : P.underlying t = some (.map k e)) {ty : TypeId} {r : Nat} {es : Array MapEntry} {cl : Nat} (hr : w.heap[r]? = some (.map es cl)) : Rd P (Builtin.len_ #[t] ty ⟨[.map (some r)]⟩) K w = K (.int .i64 es.size) w := by
  simp [Rd, Builtin.len_, underlying, program, h, getObj, hr, readOf, pure, bind, Sem.bind, goInt]

/-! ### Reads and writes -/
def plainT (d : TypeDesc) : Bool := match d with | .struct _ | .array .. => false | _ => true
theorem Rd_load {t : TypeId} {d : TypeDesc} (h : P.underlying t = some d) (hd : plainT d = true) {b o : Nat} :
    Rd P (Instr.loadAt t (.pointer (some ⟨b, o, none⟩))) K w = optK (w.cell? ⟨b, o, none⟩) K w := by
  cases d <;> simp [plainT] at hd <;>
    (cases hc : w.cell? ⟨b, o, none⟩ <;> simp [Rd, Instr.loadAt, Instr.sureAddr, loadVar, isAgg, underlying, program, h, load, readOf, pure, bind, Sem.bind, hc, optK])
def cellsAt (w : World) (b o : Nat) : Nat → Option (List Value)
  | 0 => some []
  | n + 1 => match w.cell? ⟨b, o, none⟩ with
    | some v => (cellsAt w b (o + 1) n).map (v :: ·)
    | none => none
@[simp] theorem cellsAt_zero {b o : Nat} : cellsAt w b o 0 = some [] := rfl
theorem cellsAt_succ {b o n : Nat} {v : Value} {vs : List Value} (h : w.cell? ⟨b, o, none⟩ = some v) (h2 : cellsAt w b (o + 1) n = some vs) : cellsAt w b o (n + 1) = some (v :: vs) := by simp [cellsAt, h, h2]
theorem cellsAt_iff {b : Nat} : ∀ {n o : Nat} {vs : List Value}, cellsAt w b o n = some vs ↔ vs.length = n ∧ ∀ j v, vs[j]? = some v → w.cell? ⟨b, o + j, none⟩ = some v
  | 0, o, vs => by
    constructor
    · intro h; simp only [cellsAt, Option.some.injEq] at h; subst h; simp
    · intro ⟨h, _⟩; rw [List.length_eq_zero_iff] at h; subst h; rfl
  | n + 1, o, vs => by
    constructor
    · intro h
      simp only [cellsAt] at h
      cases hc : w.cell? ⟨b, o, none⟩ with
      | none => rw [hc] at h; cases h
      | some v =>
        rw [hc] at h
        simp only [Option.map_eq_some_iff] at h
        obtain ⟨us, h1, rfl⟩ := h
        obtain ⟨h2, h3⟩ := cellsAt_iff.1 h1
        refine ⟨by simp [h2], fun j u hu => ?_⟩
        cases j with
        | zero => simp at hu; subst hu; exact hc
        | succ j => have := h3 j u (by simpa using hu); rw [show o + (j + 1) = o + 1 + j by omega]; exact this
    · intro ⟨h1, h2⟩
      cases vs with
      | nil => simp at h1
      | cons v us =>
        refine cellsAt_succ (by simpa using h2 0 v rfl) (cellsAt_iff.2 ⟨by simpa using h1, fun j u hu => ?_⟩)
        have := h2 (j + 1) u (by simpa using hu)
        rw [show o + 1 + j = o + (j + 1) by omega]; exact this
theorem readOf_loadCells {b o : Nat} : ∀ (n i : Nat) (acc : Array Value), readOf P w (loadCellsFrom ⟨b, o, none⟩ i n acc) = (cellsAt w b (o + i) n).map fun vs => acc ++ vs.toArray
  | 0, i, acc => by simp [loadCellsFrom, readOf, pure, cellsAt]
  | n + 1, i, acc => by
    simp only [loadCellsFrom, bind, readOf_bind, load, add_none, readOf, cellsAt]
    cases hc : w.cell? ⟨b, o + i, none⟩ with
    | none => rfl
    | some v =>
      simp only [Option.bind_some]
      rw [readOf_loadCells n (i + 1) (acc.push v), show o + (i + 1) = o + i + 1 by omega]
      cases cellsAt w b (o + i + 1) n <;> simp
theorem Rd_loadAgg {t : TypeId} {fs : Array Field} {inf : TypeInfo} (h : P.underlying t = some (.struct fs)) (hi : P.info? t = some inf) {b o : Nat} :
    Rd P (Instr.loadAt t (.pointer (some ⟨b, o, none⟩))) K w = optK ((cellsAt w b o inf.size).map fun vs => .agg vs.toArray) K w := by
  have h1 := readOf_loadCells (P := P) (w := w) (b := b) (o := o) inf.size 0 #[]
  simp only [Nat.add_zero] at h1
  have : readOf P w (Instr.loadAt t (.pointer (some ⟨b, o, none⟩))) = (cellsAt w b o inf.size).map fun vs => .agg vs.toArray := by
    have hu : readOf P w (isAgg t) = some true := by simp [isAgg, underlying, program, h, readOf, pure, bind, Sem.bind]
    have hs : readOf P w (sizeOf t) = some inf.size := by simp [sizeOf, typeInfo, program, hi, readOf, pure, bind, Sem.bind]
    have hl : readOf P w (Instr.sureAddr (.pointer (some ⟨b, o, none⟩))) = some ⟨b, o, none⟩ := rfl
    unfold Instr.loadAt loadVar
    simp only [bind, readOf_bind, hu, hs, hl, Option.bind_some, if_true, loadCells, h1, pure, readOf]
    cases cellsAt w b o inf.size <;> simp [readOf]
  unfold Rd optK
  rw [this]
  generalize (cellsAt w b o inf.size).map (fun vs => Value.agg vs.toArray) = r
  cases r <;> rfl

/-! ### Calls -/
theorem Cf_of {f : FuncId} {fn : Func} {args : Array Value} {R : Value → World → Prop} (hf : P.funcs[f]? = some fn) (hb : fn.body.isSome = true) (hn : (fn.name == "runtime.NumGoroutine") = false)
    (h : Calls P f args w (RetK R)) (hk : ∀ v w', R v w' → K v w') : Cf P f args K w := by
  unfold Cf
  have hn' : ¬ fn.name = "runtime.NumGoroutine" := by simpa using hn
  have hb'' : ¬ fn.body = none := by intro h0; rw [h0] at hb; cases hb
  have : (callFunc f args).run P w = .ok (.enter f args) w := by
    simp [callFunc, program, Sem.run, bind, Sem.bind, hf, hn', hb'', pure]
  rw [this]
  exact Calls.mono h fun e w' he => by obtain ⟨v, rfl, hr⟩ := he; exact hk v w' hr
theorem Cv_of {f : FuncId} {fn : Func} {args fst cap : Array Value} {R : Value → World → Prop} (hf : P.funcs[f]? = some fn) (hb : fn.body.isSome = true) (hn : (fn.name == "runtime.NumGoroutine") = false)
    (h : Calls P f (fst ++ args ++ cap) w (RetK R)) (hk : ∀ v w', R v w' → K v w') : Cv P (.func (.func f) fst cap) args K w := by
  have h1 := Cf_of (P := P) (K := K) hf hb hn h hk
  unfold Cf at h1
  unfold Cv
  simpa [Deferred.ofValue, invoke, bind, Sem.bind, pure] using h1

/-! ### Writes -/
theorem run_loadless_under {t : TypeId} {d : TypeDesc} (h : P.underlying t = some d) : (underlying t).run P w = .ok d w := by simp [underlying, program, Sem.run, bind, Sem.bind, h, pure]
def canStore (w : World) (b o n : Nat) : Prop := ∀ j, j < n → (w.cell? ⟨b, o + j, none⟩).isSome = true ∧ w.frozen? ⟨b, o + j, none⟩ = false
theorem Uu_store {t : TypeId} {inf : TypeInfo} (hi : P.info? t = some inf) {b o : Nat} {v : Value} (hz : v.cells.size = inf.size) (h1 : ∀ u ∈ v.cells.toList, u.oneCell' = true) (h : canStore w b o inf.size) :
    Uu P (Instr.storeAt t (.pointer (some ⟨b, o, none⟩)) v) K w = K undef (w.setCells b o v.cells.toList) := by
  have hst := run_storeCells_cells (P := P) b o v.cells.toList 0 w (fun j hj => (h j (by simp at hj; omega)).1) (fun j hj => (h j (by simp at hj; omega)).2) h1
  have : (Instr.storeAt t (.pointer (some ⟨b, o, none⟩)) v).run P w = .ok () (w.setCells b o v.cells.toList) := by
    simp only [Instr.storeAt, Instr.sureAddr, storeVar, sizeOf, typeInfo, program, Sem.run_bind, Sem.run_pure, Result.andThen_ok]
    simp only [Nat.add_zero] at hst
    simp [Sem.run, hi, hz, bind, Sem.bind, pure, hst]
  unfold Uu
  rw [this]
theorem Rr_alloc {t : TypeId} {inf : TypeInfo} {z : Value} (hi : P.info? t = some inf) (hz : inf.zero = some z) :
    Rr P (Instr.alloc t true (.tuple #[])) K w = K (.pointer (some ⟨w.heap.size, 0, none⟩)) (w.alloc (.cells z.cells t)) := by
  have : (Instr.alloc t true (.tuple #[])).run P w = .ok (.pointer (some ⟨w.heap.size, 0, none⟩)) (w.alloc (.cells z.cells t)) := by
    simp [Instr.alloc, zeroValue, typeInfo, program, Sem.run, bind, Sem.bind, hi, hz, pure, newVar, newRow, newObj]
  unfold Rr
  rw [this]
theorem Rr_box {t : TypeId} {v : Value} : Rr P (Instr.box t v) K w = K (.pointer (some ⟨w.heap.size, 0, none⟩)) (w.alloc (.cells v.cells t)) := rfl
end Go.Hx
