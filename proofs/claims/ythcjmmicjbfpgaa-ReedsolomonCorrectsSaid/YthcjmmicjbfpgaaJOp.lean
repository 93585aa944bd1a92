/-
What arguments of a law look like when they are opened.
-/
import Derived.Test.YthcjmmicjbfpgaaRows
import Derived.Test.YthcjmmicjbfpgaaJCo
import Derived.WalkKit
import Derived.ProofKit
import Derived.OpenShut
import Derived.ChangeOld
import Derived.Below
import Derived.SizedLaws
import Derived.Lib.SmallJoins
import Derived.Carry
import Derived.Deep.Strs
namespace Go.Proofs.Ythcjmmicjbfpgaa.Rs
set_option linter.unusedVariables false
set_option linter.unusedSimpArgs false
open Go.ChangeShapes Go.WideShapes Go.ChangeAt Go.RowKit Go.Deep

theorem own : ownKnob Try.prog.godebug = none := by kernel_rfl
theorem laidOut : laidOutB Try.prog = true := by kernel_rfl
theorem wf_hi {s : Int} (h : (Lit.int .i64 s).wf = true) : s < 9223372036854775808 := by
  have : s ≤ IntKind.i64.max := by
    unfold Lit.wf at h
    simp only [Bool.and_eq_true, decide_eq_true_eq] at h
    exact h.2
  have e : IntKind.i64.max = 9223372036854775807 := by kernel_rfl
  omega
/-- what an opened slice reads -/
theorem rdI_open {w : World} {a : Addr} {zs : List Int} {len : Nat} (h : ∀ i, i < zs.length → w.cell? (a.add i) = some (.int .i64 (zs.getD i 0))) (hl : len ≤ zs.length) : RdI w (some a) (zs.take len) := fun i hi => by
  have hi2 : i < len := by rw [List.length_take] at hi; omega
  have h0 := h 0 (by omega)
  have hs : a.spot = none := by
    cases hsp : a.spot with
    | none => rfl
    | some q =>
      exfalso
      have : a.add 0 = a := by unfold Addr.add; rw [if_pos rfl]
      rw [this] at h0
      unfold World.cell? at h0
      rw [hsp] at h0
      cases hh : w.heap[a.block]? with
      | none => rw [hh] at h0; cases h0
      | some o => rw [hh] at h0; cases o <;> simp at h0
  obtain ⟨b, o, sp⟩ := a
  cases hs
  refine ⟨b, o, rfl, ?_⟩
  have h1 := h i (by omega)
  have e : (⟨b, o, none⟩ : Addr).add i = ⟨b, o + i, none⟩ := by
    unfold Addr.add
    by_cases hz : i = 0
    · rw [if_pos hz, hz, Nat.add_zero]
    · rw [if_neg hz]
  rw [e] at h1
  rw [h1]
  congr 2
  rw [List.getD_eq_getElem?_getD, List.getD_eq_getElem?_getD, List.getElem?_take_of_lt hi2]

set_option maxRecDepth 100000
section
variable {H : Type} {enc : TypeId × Value → H} {W : World} {base : Nat}
/-- a slice of numbers among the arguments -/
theorem slice_open {v : Value} {d : DataW H} {p : List MemPlace} (hv : Value.okWide Try.prog W .any base 30 v) (h : DataW.Trod enc Try.prog W 0 (fun _ => true) true 30 v d p) :
    ∃ (A : Option Addr) (cap : Nat) (xs : List Int), v = .slice A xs.length cap ∧ RdI W A xs := by
  obtain ⟨a, len, cap, rfl⟩ := okWide_slice Try.underlying30 hv
  obtain ⟨fuel, hf⟩ := h
  rcases open_ints Try.underlying30 Try.underlying3 (by kernel_rfl) hf with ⟨hcs, _⟩ | ⟨x, l, c, zs, hcs, _, hl, hm, hz, _, hcell, hwz⟩
  · simp [Value.cells] at hcs
    obtain ⟨rfl, rfl, rfl⟩ := hcs
    exact ⟨none, 0, [], rfl, RdI.nil⟩
  · simp [Value.cells] at hcs
    obtain ⟨rfl, rfl, rfl⟩ := hcs
    have hz2 : zs.length = cap := by simpa using hz
    have hlen : (zs.take len).length = len := by rw [List.length_take]; omega
    exact ⟨some x, cap, zs.take len, by rw [hlen], rdI_open hcell (by omega)⟩
/-- a field among the arguments -/
theorem field_open {v : Value} {d : DataW H} {p : List MemPlace} (hv : Value.okWide Try.prog W .any base 23 v) (h : DataW.Trod enc Try.prog W 0 (fun _ => true) true 23 v d p) :
    ∃ c s q : Int, v = .agg #[.int .i64 c, .int .i64 s, .int .i64 q] ∧ s < 9223372036854775808 := by
  obtain ⟨x0, x1, x2, y0, y1, y2, m, rfl, _, _, t0, t1, t2⟩ := Joins.open_agg3 Try.underlying23 (by kernel_rfl) (by kernel_rfl) hv h
  obtain ⟨c, hc, _, wc⟩ := DataW.trod_int Try.underlying3 t0
  obtain ⟨s, hs, _, ws⟩ := DataW.trod_int Try.underlying3 t1
  obtain ⟨q, hq, _, wq⟩ := DataW.trod_int Try.underlying3 t2
  cases hc
  cases hs
  cases hq
  exact ⟨c, s, q, rfl, wf_hi ws⟩
end

section
variable {H : Type} {enc : TypeId × Value → H} {W : World} {base : Nat}
theorem k3 : Try.prog.cellsOf 3 = 1 := by kernel_rfl
theorem k23 : Try.prog.cellsOf 23 = 3 := by kernel_rfl
theorem k25 : Try.prog.cellsOf 25 = 5 := by kernel_rfl
theorem k30 : Try.prog.cellsOf 30 = 1 := by kernel_rfl
theorem k36 : Try.prog.cellsOf 36 = 7 := by kernel_rfl
/-- a slice of numbers in a struct -/
theorem cell_open {fuel : Nat} {v : Value} {x : DataW H × List MemPlace} (h : DataW.trod enc Try.prog W 0 (fun _ => true) true fuel 30 [v] = some x) :
    ∃ (A : Option Addr) (cap : Nat) (xs : List Int), v = .slice A xs.length cap ∧ RdI W A xs := by
  rcases open_ints Try.underlying30 Try.underlying3 (by kernel_rfl) h with ⟨hcs, _⟩ | ⟨x, l, c, zs, hcs, _, hl, hm, hz, _, hcell, hwz⟩
  · cases hcs
    exact ⟨none, 0, [], rfl, RdI.nil⟩
  · cases hcs
    have hz2 : zs.length = c := by simpa using hz
    have hlen : (zs.take l).length = l := by rw [List.length_take]; omega
    exact ⟨some x, c, zs.take l, by rw [hlen], rdI_open hcell (by omega)⟩
/-- a question among the arguments -/
theorem ask_open {v : Value} {d : DataW H} {p : List MemPlace} (hv : Value.okWide Try.prog W .any base 36 v) (h : DataW.Trod enc Try.prog W 0 (fun _ => true) true 36 v d p) :
    ∃ (c s q par fst : Int) (A1 A2 : Option Addr) (c1 c2 : Nat) (xs ys : List Int), v = .agg #[.int .i64 c, .int .i64 s, .int .i64 q, .int .i64 par, .int .i64 fst, .slice A1 xs.length c1, .slice A2 ys.length c2] ∧ s < 9223372036854775808 ∧ RdI W A1 xs ∧ RdI W A2 ys := by
  obtain ⟨cs, rfl, hsz⟩ := okWide_struct Try.underlying36 hv
  have h7 : cs.size = 7 := hsz.trans k36
  obtain ⟨c0, c1, c2, c3, c4, c5, c6, rfl⟩ : ∃ c0 c1 c2 c3 c4 c5 c6, cs = #[c0, c1, c2, c3, c4, c5, c6] := by
    obtain ⟨l⟩ := cs
    match l, h7 with
    | [a, b, c, d, e, f, g], _ => exact ⟨a, b, c, d, e, f, g, rfl⟩
  obtain ⟨fuel, hf⟩ := h
  obtain ⟨y0, y1, y2, m, _, _, t0, t1, t2⟩ := trod_struct3 Try.underlying36 hf
  simp only [Value.cells, k25, k30, List.drop_zero, List.drop_succ_cons, List.take_succ_cons, List.take_zero] at t0 t1 t2
  obtain ⟨x0, x1, x2, m2, _, _, u0, u1, u2⟩ := trod_struct3 Try.underlying25 t0
  simp only [k23, k3, List.drop_zero, List.drop_succ_cons, List.take_succ_cons, List.take_zero] at u0 u1 u2
  obtain ⟨z0, z1, z2, m3, _, _, s0, s1, s2⟩ := trod_struct3 Try.underlying23 u0
  simp only [k3, List.drop_zero, List.drop_succ_cons, List.take_succ_cons, List.take_zero] at s0 s1 s2
  obtain ⟨n0, e0, _, w0⟩ := DataW.trod_int Try.underlying3 s0
  obtain ⟨n1, e1, _, w1⟩ := DataW.trod_int Try.underlying3 s1
  obtain ⟨n2, e2, _, w2⟩ := DataW.trod_int Try.underlying3 s2
  obtain ⟨n3, e3, _, w3⟩ := DataW.trod_int Try.underlying3 u1
  obtain ⟨n4, e4, _, w4⟩ := DataW.trod_int Try.underlying3 u2
  obtain ⟨A1, k1, xs, e5, r1⟩ := cell_open t1
  obtain ⟨A2, k2, ys, e6, r2⟩ := cell_open t2
  cases e0
  cases e1
  cases e2
  cases e3
  cases e4
  subst e5
  subst e6
  exact ⟨n0, n1, n2, n3, n4, A1, A2, k1, k2, xs, ys, rfl, wf_hi w1, r1, r2⟩
end
end Go.Proofs.Ythcjmmicjbfpgaa.Rs
