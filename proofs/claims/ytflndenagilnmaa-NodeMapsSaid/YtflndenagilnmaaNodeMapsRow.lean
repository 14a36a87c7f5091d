/-
  deduplaw09.NodeMaps: the row. Own work; its frame is that of the kit's rows.
-/
import Derived.Test.YtflndenagilnmaaRows
import Derived.Test.YtflndenagilnmaaNodeMaps4
import Derived.WalkKit
import Derived.ProofKit
import Derived.OpenShut
import Derived.ShutString
import Derived.ChangeOld
import Derived.Below
import Derived.SizedLaws
set_option linter.unusedVariables false
set_option linter.unusedSimpArgs false
namespace Go.Proofs.Ytflndenagilnmaa.nodeMaps
open Go.ChangeShapes Go.WideShapes Go.ChangeAt Go.RowKit Go.Hx
open Go.ChangeMaps (open_string shut_string)

theorem own : ownKnob Try.prog.godebug = none := by kernel_rfl
theorem laidOut : laidOutB Try.prog = true := by kernel_rfl

theorem exists_list {α : Type} {p : Nat → α → Prop} : ∀ {n : Nat}, (∀ i, i < n → ∃ x, p i x) → ∃ l : List α, l.length = n ∧ ∀ i (h : i < l.length), p i l[i]
  | 0, _ => ⟨[], rfl, fun i h => by simp at h⟩
  | n + 1, h => by
    obtain ⟨l, hl, hp⟩ := exists_list (n := n) fun i hi => h i (by omega)
    obtain ⟨x, hx⟩ := h n (by omega)
    refine ⟨l ++ [x], by simp [hl], fun i hi => ?_⟩
    by_cases h' : i < l.length
    · rw [List.getElem_append_left h']; exact hp i h'
    · have : i = n := by simp at hi; omega
      subst this
      rw [List.getElem_append_right (by omega)]
      simpa [hl] using hx
theorem cO : Try.prog.cellsOf 29 = 3 := by kernel_rfl
theorem cS : Try.prog.cellsOf 9 = 1 := by kernel_rfl
theorem cB : Try.prog.cellsOf 4 = 1 := by kernel_rfl
/-- What a slice of operations reads as. -/
theorem openOps {H : Type} {enc : TypeId × Value → H} {W : World} {A : Option Addr} {len cap : Nat} {d : DataW H} {ps : List MemPlace} (h : DataW.Trod enc Try.prog W 0 (fun _ => true) true 22 (.slice A len cap) d ps) :
    ∃ ops : List OpV, OpS W (.slice A len cap) ops ∧ (ops.length = 0 ∨ ∃ elems spare, d = .slice elems spare ∧ elems.length = ops.length) := by
  obtain ⟨fuel, hf⟩ := h
  have hf : DataW.trod enc Try.prog W 0 (fun _ => true) true fuel 22 [.slice A len cap] = some (d, ps) := hf
  rcases DataW.trod_slice Try.underlying22 hf with ⟨hcs, _⟩ | ⟨a, len', cap', elems, rest, n, _, hcs, hx, _, hlc, _, hel, hat, _⟩
  · simp at hcs
    obtain ⟨rfl, rfl, rfl⟩ := hcs
    exact ⟨[], ⟨_, _, rfl, .inl rfl⟩, .inl rfl⟩
  · simp only [List.cons.injEq, and_true, Value.slice.injEq] at hcs
    obtain ⟨rfl, rfl, rfl⟩ := hcs
    rw [cO] at hat
    have each : ∀ i, i < len → ∃ o : OpV, W.cell? (a.add (i * 3)) = some (.string o.1) ∧ W.cell? ((a.add (i * 3)).add 1) = some (.string o.2.1) ∧ W.cell? ((a.add (i * 3)).add 2) = some (.bool o.2.2) := by
      intro i hi
      have h1 := hat i hi
      rw [List.getElem?_eq_getElem (by omega)] at h1
      obtain ⟨cs, hc, ht⟩ := Option.bind_eq_some_iff.1 h1
      obtain ⟨_, hcl, hcell⟩ := World.cells?_some hc
      obtain ⟨xs, m, _, hy, _, hxl, hfs⟩ := DataW.trod_struct Try.underlying29 ht
      have hx3 : xs.length = 3 := hxl
      match cs, hcl with
      | [c0, c1, c2], _ =>
        have f0 : DataW.trod enc Try.prog W 0 (fun _ => true) true m 9 (([c0, c1, c2].drop 0).take (Try.prog.cellsOf 9)) = xs[0]? := hfs 0 _ rfl
        have f1 : DataW.trod enc Try.prog W 0 (fun _ => true) true m 9 (([c0, c1, c2].drop 1).take (Try.prog.cellsOf 9)) = xs[1]? := hfs 1 _ rfl
        have f2 : DataW.trod enc Try.prog W 0 (fun _ => true) true m 4 (([c0, c1, c2].drop 2).take (Try.prog.cellsOf 4)) = xs[2]? := hfs 2 _ rfl
        rw [List.getElem?_eq_getElem (by omega)] at f0 f1 f2
        rw [cS] at f0 f1
        rw [cB] at f2
        simp only [List.drop_zero, List.take_succ_cons, List.take_zero, List.drop_succ_cons] at f0 f1 f2
        obtain ⟨s0, e0, _⟩ := DataW.trod_string Try.underlying9 f0
        obtain ⟨s1, e1, _⟩ := DataW.trod_string Try.underlying9 f1
        obtain ⟨b2, e2, _⟩ := DataW.trod_bool Try.underlying4 f2
        simp only [List.cons.injEq, and_true] at e0 e1 e2
        subst e0; subst e1; subst e2
        refine ⟨(s0, s1, b2), ?_, ?_, ?_⟩
        · have := hcell 0 (by omega); simpa [Addr.add] using this
        · have := hcell 1 (by omega); simpa using this
        · have := hcell 2 (by omega); simpa using this
    obtain ⟨ops, hol, hops⟩ := exists_list each
    refine ⟨ops, ?_, .inr ⟨elems.map (·.1), rest.map (·.1), by simpa using congrArg Prod.fst hx, by simp; omega⟩⟩
    rw [← hol]
    refine ⟨_, _, rfl, ?_⟩
    rcases Nat.eq_zero_or_pos ops.length with h0 | hpos
    · exact .inl h0
    · have hsp : a.spot = none := by
        have := (hops 0 hpos).1
        simp only [Nat.zero_mul] at this
        exact World.cell?_spot (by simpa [Addr.add] using this)
      obtain ⟨ab, ao, asp⟩ := a
      simp only at hsp
      subst hsp
      refine .inr ⟨ab, ao, rfl, fun i hi => ?_⟩
      have := hops i hi
      simp only [add_none] at this
      exact this
set_option maxRecDepth 100000 in
theorem lifted (os : Os) (started : os.Started) (H : Type) (enc : TypeId × Value → H) :
    ReturnsInHanded {} Try.checked os 3 .any (Rows.nodeMapsSpec.pre6 enc Try.prog Try.f3 Rows.nodeMapsRow.domain false) (Rows.nodeMapsSpec.post enc Try.prog Try.f3 false true false false) := by
  refine returnsInHanded_of_change_sized (C := Try.checked) own started (by kernel_rfl) Try.func3
    (ChangeSpec.witness6 (enc := enc) (C := Try.checked) false ⟨#[], #[.slice none 0 0], []⟩ 8 (by kernel_rfl) (by kernel_rfl) (by kernel_rfl) (by kernel_rfl)) ?_
  intro W base args ds gs before hval0 hW hcnd hsz0 _
  have hsz : (DataW.weightsEach Try.prog (Try.f3.params.toList ++ Rows.nodeMapsSpec.plain.varTypes Try.prog) (ds ++ gs)).all (· ≤ reachBytes) = true := hsz0
  have hval : ∀ (j : Nat) t v, Try.f3.params[j]? = some t → args[j]? = some v → Value.okWide Try.prog W .any base t v := hval0
  have hW' := hW
  obtain ⟨p, q, hA0, hV, rfl, hfz, hnd⟩ := hW
  have hA : DataW.TrodAll enc Try.prog W 0 (fun _ => true) true Try.f3.params.toList args.toList ds p := hA0
  rw [Try.params3] at hA hval hsz
  obtain ⟨v0, vs0, d0, ds0, p0, q0, hargs, rfl, rfl, h0, r0⟩ := trodAll_cons hA
  obtain ⟨rfl, rfl, rfl⟩ := trodAll_nil r0
  obtain rfl : args = #[v0] := by cases args; simp_all
  obtain ⟨rfl, rfl⟩ := trodVars_none hV
  obtain ⟨a0, len0, cap0, rfl⟩ := okWide_slice Try.underlying22 (hval 0 22 v0 rfl rfl)
  have k0 := h0
  have lt0 : ∀ x ∈ p0, x.block < W.heap.size := by obtain ⟨m, hm⟩ := k0; exact DataW.trod_lt m _ _ _ hm
  obtain ⟨ops, hops, hlen⟩ := openOps h0
  have hfit : ops.length * 40 ≤ 140737488355328 := by
    rcases hlen with h | ⟨elems, spare, rfl, hl⟩
    · omega
    · have := sized_slice (j := 0) hsz rfl rfl Try.underlying22
      rw [show Try.prog.bytesOf 29 = 40 by kernel_rfl] at this
      have h2 : reachBytes < 2 ^ 47 := reachBytes_lt
      have h3 : ops.length * 40 ≤ (elems.length + spare.length) * 40 := Nat.mul_le_mul_right _ (by omega)
      omega
  clear hA0 hval0 hsz0 hsz
  refine (NodeMaps_spec hops hfit).mono fun e W' ⟨r, he, hr, hf⟩ => ?_
  subst hr
  subst he
  have bel := hf.below
  exact ⟨_, rfl, _, _, _, [], _, [], hW', trodAll_mk1 (shut_bool Try.underlying4 _), (trodAll_cons_mk (Below.trod laidOut (by kernel_rfl) (of_decide_eq_true (by kernel_rfl)) k0 bel lt0) trodAll_mk0), rfl, bel.frame _, fun h => by cases h⟩
theorem over : Rows.nodeMapsRow.holds Try.pinned (OpenSpec.ofChange Rows.nodeMapsSpec) :=
  OpenClaim.holds_of_wide 3 Try.f3 rfl rfl rfl rfl rfl rfl rfl ⟨rfl, rfl, rfl, rfl, rfl⟩ rfl rfl rfl rfl rfl (by kernel_rfl) Try.func3 (by kernel_rfl)
    (of_decide_eq_true (by kernel_rfl)) (by unfold Func.isWrapper; first | (rw [if_pos (by decide +kernel)]; kernel_rfl) | (rw [if_neg (by decide +kernel)]; exact ⟨rfl, rfl⟩))
    (fun os started H enc _ => lifted os started H enc)
end Go.Proofs.Ytflndenagilnmaa.nodeMaps
namespace Go.Proofs.Ytflndenagilnmaa
/-- The statement. -/
theorem nodeMaps_holds : Rows.NodeMapsSaid := nodeMaps.over
#print axioms nodeMaps_holds
end Go.Proofs.Ytflndenagilnmaa
