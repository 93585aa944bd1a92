/-
The row of the law Encodes.
-/
import Derived.Test.YthcjmmicjbfpgaaJRo
import Derived.Test.YthcjmmicjbfpgaaJRb
import Derived.Deep.Strs
namespace Go.Proofs.Ythcjmmicjbfpgaa.Rs
set_option linter.unusedVariables false
set_option linter.unusedSimpArgs false
open Go.ChangeShapes Go.WideShapes Go.ChangeAt Go.RowKit Go.Deep

set_option maxRecDepth 100000
section
variable {H : Type} {enc : TypeId × Value → H} {W : World} {base : Nat}
theorem k3 : Try.prog.cellsOf 3 = 1 := by kernel_rfl
theorem k23 : Try.prog.cellsOf 23 = 3 := by kernel_rfl
theorem k25 : Try.prog.cellsOf 25 = 5 := by kernel_rfl
theorem k30 : Try.prog.cellsOf 30 = 1 := by kernel_rfl
theorem k36 : Try.prog.cellsOf 36 = 7 := by kernel_rfl
/-- a slice of numbers in a struct -/
theorem cell_open {fuel : Nat} {v : Value} {x : DataW H × List MemPlace} (h : DataW.trod enc Try.prog W 0 (fun _ => true) true fuel 30 [v] = some x) :
    ∃ (A : Option Addr) (cap : Nat) (xs : List Int), v = .slice A xs.length cap ∧ RdI W A xs := by
  rcases open_ints Try.underlying30 Try.underlying3 (by kernel_rfl) h with ⟨hcs, _⟩ | ⟨x, l, c, zs, hcs, _, hl, hm, hz, _, hcell, hwz⟩
  · cases hcs
    exact ⟨none, 0, [], rfl, RdI.nil⟩
  · cases hcs
    have hz2 : zs.length = c := by simpa using hz
    have hlen : (zs.take l).length = l := by rw [List.length_take]; omega
    exact ⟨some x, c, zs.take l, by rw [hlen], rdI_open hcell (by omega)⟩
/-- a question among the arguments -/
theorem ask_open {v : Value} {d : DataW H} {p : List MemPlace} (hv : Value.okWide Try.prog W .any base 36 v) (h : DataW.Trod enc Try.prog W 0 (fun _ => true) true 36 v d p) :
    ∃ (c s q par fst : Int) (A1 A2 : Option Addr) (c1 c2 : Nat) (xs ys : List Int), v = .agg #[.int .i64 c, .int .i64 s, .int .i64 q, .int .i64 par, .int .i64 fst, .slice A1 xs.length c1, .slice A2 ys.length c2] ∧ s < 9223372036854775808 ∧ RdI W A1 xs ∧ RdI W A2 ys := by
  obtain ⟨cs, rfl, hsz⟩ := okWide_struct Try.underlying36 hv
  have h7 : cs.size = 7 := hsz.trans k36
  obtain ⟨c0, c1, c2, c3, c4, c5, c6, rfl⟩ : ∃ c0 c1 c2 c3 c4 c5 c6, cs = #[c0, c1, c2, c3, c4, c5, c6] := by
    obtain ⟨l⟩ := cs
    match l, h7 with
    | [a, b, c, d, e, f, g], _ => exact ⟨a, b, c, d, e, f, g, rfl⟩
  obtain ⟨fuel, hf⟩ := h
  obtain ⟨y0, y1, y2, m, _, _, t0, t1, t2⟩ := trod_struct3 Try.underlying36 hf
  simp only [Value.cells, k25, k30, List.drop_zero, List.drop_succ_cons, List.take_succ_cons, List.take_zero] at t0 t1 t2
  obtain ⟨x0, x1, x2, m2, _, _, u0, u1, u2⟩ := trod_struct3 Try.underlying25 t0
  simp only [k23, k3, List.drop_zero, List.drop_succ_cons, List.take_succ_cons, List.take_zero] at u0 u1 u2
  obtain ⟨z0, z1, z2, m3, _, _, s0, s1, s2⟩ := trod_struct3 Try.underlying23 u0
  simp only [k3, List.drop_zero, List.drop_succ_cons, List.take_succ_cons, List.take_zero] at s0 s1 s2
  obtain ⟨n0, e0, _, w0⟩ := DataW.trod_int Try.underlying3 s0
  obtain ⟨n1, e1, _, w1⟩ := DataW.trod_int Try.underlying3 s1
  obtain ⟨n2, e2, _, w2⟩ := DataW.trod_int Try.underlying3 s2
  obtain ⟨n3, e3, _, w3⟩ := DataW.trod_int Try.underlying3 u1
  obtain ⟨n4, e4, _, w4⟩ := DataW.trod_int Try.underlying3 u2
  obtain ⟨A1, k1, xs, e5, r1⟩ := cell_open t1
  obtain ⟨A2, k2, ys, e6, r2⟩ := cell_open t2
  cases e0
  cases e1
  cases e2
  cases e3
  cases e4
  subst e5
  subst e6
  exact ⟨n0, n1, n2, n3, n4, A1, A2, k1, k2, xs, ys, rfl, wf_hi w1, r1, r2⟩
end

theorem encodes_lifted (os : Os) (started : os.Started) (H : Type) (enc : TypeId × Value → H) :
    ReturnsInHanded {} Try.checked os 4 .any (Rows.reedsolomonEncodesSpec.pre6 enc Try.prog Try.f4 Rows.reedsolomonEncodesRow.domain false) (Rows.reedsolomonEncodesSpec.post enc Try.prog Try.f4 false true false false) := by
  refine returnsInHanded_of_change_sized (C := Try.checked) own started (by kernel_rfl) Try.func4
    (ChangeSpec.witness6 (enc := enc) (C := Try.checked) false ⟨#[], #[.agg #[.int .i64 0, .int .i64 0, .int .i64 0, .int .i64 0, .int .i64 0, .slice none 0 0, .slice none 0 0]], []⟩ 8 (by kernel_rfl) (by kernel_rfl) (by kernel_rfl) (by kernel_rfl)) ?_
  intro W base args ds gs before hval0 hW hcnd hsz0 _
  have hval : ∀ (j : Nat) t v, Try.f4.params[j]? = some t → args[j]? = some v → Value.okWide Try.prog W .any base t v := hval0
  have hW' := hW
  obtain ⟨p, q, hA0, hV, rfl, hfz, hnd⟩ := hW
  have hA : DataW.TrodAll enc Try.prog W 0 (fun _ => true) true Try.f4.params.toList args.toList ds p := hA0
  rw [Try.params4] at hA hval
  obtain ⟨v0, vs0, d0, ds0, p0, q0, hargs, rfl, rfl, h0, r0⟩ := trodAll_cons hA
  obtain ⟨rfl, rfl, rfl⟩ := trodAll_nil r0
  obtain rfl : args = #[v0] := by cases args; simp_all
  obtain ⟨rfl, rfl⟩ := trodVars_none hV
  have lt0 : ∀ x ∈ p0, x.block < W.heap.size := by obtain ⟨m, hm⟩ := h0; exact DataW.trod_lt m _ _ _ hm
  obtain ⟨c, s, po, par, fst, A1, A2, c1, c2, xs, ys, rfl, hs, r1, r2⟩ := ask_open (hval 0 _ v0 rfl rfl) h0
  clear hA0 hval0 hsz0
  refine (encodes_any c s po par fst hs A1 A2 c1 ys.length c2 xs W r1).mono fun e W' ⟨he, bel⟩ => ?_
  subst he
  exact ⟨_, rfl, _, _, _, [], _, [], hW', trodAll_mk1 (shut_bool Try.underlying4 _), (trodAll_cons_mk (Below.trod laidOut (by kernel_rfl) (of_decide_eq_true (by kernel_rfl)) h0 bel lt0) trodAll_mk0), rfl, bel.frame _, fun h => by cases h⟩
theorem encodes_holds : Rows.ReedsolomonEncodesSaid :=
  OpenClaim.holds_of_wide 4 Try.f4 rfl rfl rfl rfl rfl rfl rfl ⟨rfl, rfl, rfl, rfl, rfl⟩ rfl rfl rfl rfl rfl (by kernel_rfl) Try.func4 (by kernel_rfl)
    (of_decide_eq_true (by kernel_rfl)) (by unfold Func.isWrapper; first | (rw [if_pos (by decide +kernel)]; kernel_rfl) | (rw [if_neg (by decide +kernel)]; exact ⟨rfl, rfl⟩))
    (fun os started H enc _ => encodes_lifted os started H enc)
end Go.Proofs.Ythcjmmicjbfpgaa.Rs
