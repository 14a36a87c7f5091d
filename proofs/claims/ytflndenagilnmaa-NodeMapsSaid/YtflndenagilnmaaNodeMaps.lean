/-
  deduplaw09.NodeMaps: the walk. Own work.
-/
import Derived.Test.YtflndenagilnmaaMapsPlain
import Derived.Test.YtflndenagilnmaaSameTexts
set_option linter.unusedVariables false
set_option linter.unusedSimpArgs false
set_option maxRecDepth 10000
namespace Go.Proofs
open Go Hx

section
variable {K : Value → World → Prop} {w : World}
theorem bs_zero (h : ∀ v w', OwnS w' v [] → Fr0 w w' → NewB w v → K v w') : Rr Try.prog (Instr.buildSlice 24 0 ⟨[]⟩) K w := by
  rw [bs0_24]
  exact h _ _ (OwnS.empty w) ((Fr.refl _ w).alloc _) fun k hk => by simp at hk; omega
/-- An append to what is new since w0. -/
theorem app_N {w0 : World} {v x : Value} {xs ys : List ByteArray} (hO : OwnS w v xs) (hN : NewB w0 v) (h0 : Fr0 w0 w) (hX : StrS w x ys) (hfit : (xs.length + ys.length) * 16 ≤ 140737488355328)
    (h : ∀ v' w', OwnS w' v' (xs ++ ys) → Fr0 w0 w' → NewB w0 v' → (∀ g, blkOf v' = some g → blkOf v = some g ∨ w.heap.size ≤ g) → Fr (isB v) w w' → K v' w') :
    Rr Try.prog (Builtin.append_ #[24, 24] 24 ⟨[v, x]⟩) K w := by
  refine app_S hO hX hfit fun v' w' h1 h2 h3 => h v' w' h1 (h0.step h2 fun i hi hb => ?_) (fun k hk => ?_) h3 h2
  · have := hN i hb; omega
  · have := h0.size
    rcases h3 k hk with h | h
    · exact hN k h
    · omega
theorem ldS {b o : Nat} {s : ByteArray} (hc : w.cell? ⟨b, o, none⟩ = some (.string s)) (h : K (.string s) w) : Rd Try.prog (Instr.loadAt 9 (.pointer (some ⟨b, o, none⟩))) K w := by
  rw [ld_9, hc]; exact h
theorem cut2 {x1 x2 : Value} {xs1 xs2 : List ByteArray} (h1 : StrS w x1 xs1) (h2 : StrS w x2 xs2) (hfit : (xs1.length + xs2.length) * 16 ≤ 140737488355328)
    (h : ∀ v w', OwnS w' v (xs1 ++ xs2) → Fr0 w w' → NewB w v → K v w') :
    Rr Try.prog (Instr.buildSlice 24 0 ⟨[]⟩) (fun t75 w => Rr Try.prog (Builtin.append_ #[24, 24] 24 ⟨[t75, x1]⟩) (fun t79 w => Rr Try.prog (Builtin.append_ #[24, 24] 24 ⟨[t79, x2]⟩) K w) w) w := by
  refine bs_zero fun v1 w1 o1 f1 n1 => ?_
  refine app_N o1 n1 f1 (h1.mono0 f1) (by simp; omega) fun v2 w2 o2 f2 n2 _ _ => ?_
  refine app_N o2 n2 f2 (h2.mono0 f2) (by simp; omega) fun v3 w3 o3 f3 n3 _ _ => ?_
  exact h v3 w3 (by simpa using o3) f3 n3
theorem ins3 {x1 x2 p : Value} {s : ByteArray} {xs1 xs2 : List ByteArray} (h1 : StrS w x1 xs1) (h2 : StrS w x2 xs2) (hp : ∀ W (K' : Value → World → Prop), Fr0 w W → K' (.string s) W → Rd Try.prog (Instr.loadAt 9 p) K' W)
    (hfit : (xs1.length + 1 + xs2.length) * 16 ≤ 140737488355328) (h : ∀ v w', OwnS w' v (xs1 ++ [s] ++ xs2) → Fr0 w w' → NewB w v → K v w') :
    (Rr Try.prog (Instr.buildSlice 24 0 ⟨[]⟩) (fun t150 w =>
      (Rd Try.prog (Instr.loadAt 9 p) (fun u w' => u = .string s ∧ w' = w) w) ∧
      (Rr Try.prog (Builtin.append_ #[24, 24] 24 ⟨[t150, x1]⟩) (fun t154 w =>
        (Rd Try.prog (Instr.loadAt 9 p) (fun u w' => u = .string s ∧ w' = w) w) ∧
        Rr Try.prog (Instr.buildSlice 24 1 ⟨[(0, .string s)]⟩) (fun t160 w =>
        Rr Try.prog (Builtin.append_ #[24, 24] 24 ⟨[t154, t160]⟩) (fun t161 w =>
        Rr Try.prog (Builtin.append_ #[24, 24] 24 ⟨[t161, x2]⟩) K w) w) w) w) ∧
      (Rr Try.prog (Instr.buildSlice 24 1 ⟨[(0, .string s)]⟩) (fun t160 w =>
        Rr Try.prog (Builtin.append_ #[24, 24] 24 ⟨[t150, x1]⟩) (fun t154 w =>
        Rr Try.prog (Builtin.append_ #[24, 24] 24 ⟨[t154, t160]⟩) (fun t161 w =>
        Rr Try.prog (Builtin.append_ #[24, 24] 24 ⟨[t161, x2]⟩) K w) w) w) w)) w) ∧
    (Rr Try.prog (Instr.buildSlice 24 1 ⟨[(0, .string s)]⟩) (fun t160 w =>
      Rr Try.prog (Instr.buildSlice 24 0 ⟨[]⟩) (fun t150 w =>
      Rr Try.prog (Builtin.append_ #[24, 24] 24 ⟨[t150, x1]⟩) (fun t154 w =>
      Rr Try.prog (Builtin.append_ #[24, 24] 24 ⟨[t154, t160]⟩) (fun t161 w =>
      Rr Try.prog (Builtin.append_ #[24, 24] 24 ⟨[t161, x2]⟩) K w) w) w) w) w) := by
  refine ⟨?_, ?_⟩
  · refine bs_zero fun v1 w1 o1 f1 n1 => ⟨hp _ _ f1 ⟨rfl, rfl⟩, ?_, ?_⟩
    · refine app_N o1 n1 f1 (h1.mono0 f1) (by simp; omega) fun v2 w2 o2 f2 n2 _ _ => ⟨hp _ _ f2 ⟨rfl, rfl⟩, ?_⟩
      refine bs_one fun c w3 oc f3 nc => ?_
      have f03 := f2.trans f3
      refine app_N (o2.mono0 f3) n2 f03 (oc.str (by simp)) (by simp; omega) fun v4 w4 o4 f4 n4 _ _ => ?_
      refine app_N o4 n4 f4 (h2.mono0 f4) (by simp; omega) fun v5 w5 o5 f5 n5 _ _ => ?_
      exact h v5 w5 (by simpa using o5) f5 n5
    · refine bs_one fun c w3 oc f3 nc => ?_
      have f03 := f1.trans f3
      have l1 : ∀ g, blkOf v1 = some g → g < w1.heap.size := fun g hg => o1.lt hg
      refine app_N (o1.mono0 f3) n1 f03 (h1.mono0 f03) (by simp; omega) fun v2 w2 o2 f2 n2 hb2 fr2 => ?_
      have oc2 : OwnS w2 c [s] := oc.mono fr2 fun g hg hv => by have := nc g hg; have := l1 g hv; omega
      have lc : ∀ g, blkOf c = some g → g < w3.heap.size := fun g hg => oc.lt hg
      refine app_N o2 n2 f2 (oc2.str (by simp)) (by simp; omega) fun v4 w4 o4 f4 n4 _ _ => ?_
      refine app_N o4 n4 f4 (h2.mono0 f4) (by simp; omega) fun v5 w5 o5 f5 n5 _ _ => ?_
      exact h v5 w5 (by simpa using o5) f5 n5
  · refine bs_one fun c w3 oc f3 nc => ?_
    refine bs_zero fun v1 w1 o1 f1 n1 => ?_
    have f01 := f3.trans f1
    have lc : ∀ g, blkOf c = some g → g < w3.heap.size := fun g hg => oc.lt hg
    refine app_N o1 (n1.from f3) f01 (h1.mono0 f01) (by simp; omega) fun v2 w2 o2 f2 n2 hb2 fr2 => ?_
    have oc2 : OwnS w2 c [s] := (oc.mono0 f1).mono fr2 fun g hg hv => by have := n1 g hv; have := lc g hg; omega
    refine app_N o2 n2 f2 (oc2.str (by simp)) (by simp; omega) fun v4 w4 o4 f4 n4 _ _ => ?_
    refine app_N o4 n4 f4 (h2.mono0 f4) (by simp; omega) fun v5 w5 o5 f5 n5 _ _ => ?_
    exact h v5 w5 (by simpa using o5) f5 n5
end

/-- Operations that are read. -/
abbrev OpV := ByteArray × ByteArray × Bool
def OpS (w : World) (v : Value) (ops : List OpV) : Prop :=
  ∃ A c, v = .slice A ops.length c ∧ (ops.length = 0 ∨ ∃ b o, A = some ⟨b, o, none⟩ ∧ ∀ i (hi : i < ops.length), w.cell? ⟨b, o + i * 3, none⟩ = some (.string ops[i].1) ∧ w.cell? ⟨b, o + i * 3 + 1, none⟩ = some (.string ops[i].2.1) ∧ w.cell? ⟨b, o + i * 3 + 2, none⟩ = some (.bool ops[i].2.2))
end Go.Proofs
