/-
The row of the law Linear.
-/
import Derived.Test.YthcjmmicjbfpgaaJRp
import Derived.Test.YthcjmmicjbfpgaaJRc
namespace Go.Proofs.Ythcjmmicjbfpgaa.Rs
set_option linter.unusedVariables false
set_option linter.unusedSimpArgs false
open Go.ChangeShapes Go.WideShapes Go.ChangeAt Go.RowKit Go.Deep Go.Proofs.Ythcjmmicjbfpgaa.Alg
open GF

theorem linear_any (c s p par fst u : Int) (hs : s < 9223372036854775808) (A1 A2 A3 : Option Addr) (c1 n2 c2 c3 : Nat) (xs ys : List Int) (w : World) (hx : RdI w A1 xs) (hy : RdI w A3 ys) :
    Calls Try.prog 8 #[.agg #[.int .i64 c, .int .i64 s, .int .i64 p, .int .i64 par, .int .i64 fst, .slice A1 xs.length c1, .slice A2 n2 c2], .slice A3 ys.length c3, .int .i64 u] w fun e w' => e = .returned (.bool true) ∧ Below w.heap.size w w' := by
  by_cases h : smB par xs.length n2 = false ∨ ciB c s p par fst = false ∨ ys.length ≠ xs.length ∨ isB s u = false
  · exact linear_out c s p par fst u hs A1 A2 A3 c1 n2 c2 c3 xs ys w hx hy h
  · have k1 : smB par xs.length n2 = true := by cases hb : smB par xs.length n2 with | true => rfl | false => exact absurd (Or.inl hb) h
    have k2 : ciB c s p par fst = true := by cases hb : ciB c s p par fst with | true => rfl | false => exact absurd (Or.inr (Or.inl hb)) h
    have k3 : ys.length = xs.length := by
      by_cases e : ys.length = xs.length
      · exact e
      · exact absurd (Or.inr (Or.inr (Or.inl e))) h
    have k4 : isB s u = true := by cases hb : isB s u with | true => rfl | false => exact absurd (Or.inr (Or.inr (Or.inr hb))) h
    have hc : CI c s p par fst := by
      unfold ciB at k2
      simpa using k2
    obtain ⟨hv, h1, h2, h3, h4⟩ := hc
    obtain ⟨K, i, rfl, rfl, rfl⟩ := field_at hv
    obtain ⟨par, rfl⟩ : ∃ n : Nat, par = n := ⟨par.toNat, by omega⟩
    obtain ⟨fst, rfl⟩ : ∃ n : Nat, fst = n := ⟨fst.toNat, by omega⟩
    unfold isB at k4
    simp only [Bool.and_eq_true, decide_eq_true_eq] at k4
    have hu : u = ((val (of u.toNat : K) : Nat) : Int) := by rw [val_of _ (by omega)]; omega
    rw [hu, k3]
    exact linear_in (K := K) par fst (by omega) (by omega) (by omega) (of u.toNat) A1 A2 A3 c1 n2 c2 c3 xs.length xs ys w hx hy rfl k3 k1

set_option maxRecDepth 100000
theorem linear_lifted (os : Os) (started : os.Started) (H : Type) (enc : TypeId × Value → H) :
    ReturnsInHanded {} Try.checked os 8 .any (Rows.reedsolomonLinearSpec.pre6 enc Try.prog Try.f8 Rows.reedsolomonLinearRow.domain false) (Rows.reedsolomonLinearSpec.post enc Try.prog Try.f8 false true false false) := by
  refine returnsInHanded_of_change_sized (C := Try.checked) own started (by kernel_rfl) Try.func8
    (ChangeSpec.witness6 (enc := enc) (C := Try.checked) false ⟨#[], #[.agg #[.int .i64 0, .int .i64 0, .int .i64 0, .int .i64 0, .int .i64 0, .slice none 0 0, .slice none 0 0], .slice none 0 0, .int .i64 0], []⟩ 8 (by kernel_rfl) (by kernel_rfl) (by kernel_rfl) (by kernel_rfl)) ?_
  intro W base args ds gs before hval0 hW hcnd hsz0 _
  have hval : ∀ (j : Nat) t v, Try.f8.params[j]? = some t → args[j]? = some v → Value.okWide Try.prog W .any base t v := hval0
  have hW' := hW
  obtain ⟨p, q, hA0, hV, rfl, hfz, hnd⟩ := hW
  have hA : DataW.TrodAll enc Try.prog W 0 (fun _ => true) true Try.f8.params.toList args.toList ds p := hA0
  rw [Try.params8] at hA hval
  obtain ⟨v0, vs0, d0, ds0, p0, q0, hargs, rfl, rfl, h0, r0⟩ := trodAll_cons hA
  obtain ⟨v1, vs1, d1, ds1, p1, q1, rfl, rfl, rfl, h1, r1⟩ := trodAll_cons r0
  obtain ⟨v2, vs2, d2, ds2, p2, q2, rfl, rfl, rfl, h2, r2⟩ := trodAll_cons r1
  obtain ⟨rfl, rfl, rfl⟩ := trodAll_nil r2
  obtain rfl : args = #[v0, v1, v2] := by cases args; simp_all
  obtain ⟨rfl, rfl⟩ := trodVars_none hV
  have lt0 : ∀ x ∈ p0, x.block < W.heap.size := by obtain ⟨m, hm⟩ := h0; exact DataW.trod_lt m _ _ _ hm
  have lt1 : ∀ x ∈ p1, x.block < W.heap.size := by obtain ⟨m, hm⟩ := h1; exact DataW.trod_lt m _ _ _ hm
  obtain ⟨c, s, po, par, fst, A1, A2, c1, c2, xs, ys, rfl, hs, rx, ry⟩ := ask_open (hval 0 _ v0 rfl rfl) h0
  obtain ⟨A3, c3, zs, rfl, rz⟩ := slice_open (hval 1 _ v1 rfl rfl) h1
  obtain ⟨u, rfl, rfl, rfl, wu⟩ := open_int Try.underlying3 (hval 2 _ v2 rfl rfl) h2
  clear hA0 hval0 hsz0
  refine (linear_any c s po par fst u hs A1 A2 A3 c1 ys.length c2 c3 xs zs W rx rz).mono fun e W' ⟨he, bel⟩ => ?_
  subst he
  exact ⟨_, rfl, _, _, _, [], _, [], hW', trodAll_mk1 (shut_bool Try.underlying4 _), (trodAll_cons_mk (Below.trod laidOut (by kernel_rfl) (of_decide_eq_true (by kernel_rfl)) h0 bel lt0) (trodAll_cons_mk (Below.trod laidOut (by kernel_rfl) (of_decide_eq_true (by kernel_rfl)) h1 bel lt1) (trodAll_cons_mk (shut_int Try.underlying3 wu) trodAll_mk0))), rfl, bel.frame _, fun h => by cases h⟩
theorem linear_holds : Rows.ReedsolomonLinearSaid :=
  OpenClaim.holds_of_wide 8 Try.f8 rfl rfl rfl rfl rfl rfl rfl ⟨rfl, rfl, rfl, rfl, rfl⟩ rfl rfl rfl rfl rfl (by kernel_rfl) Try.func8 (by kernel_rfl)
    (of_decide_eq_true (by kernel_rfl)) (by unfold Func.isWrapper; first | (rw [if_pos (by decide +kernel)]; kernel_rfl) | (rw [if_neg (by decide +kernel)]; exact ⟨rfl, rfl⟩))
    (fun os started H enc _ => linear_lifted os started H enc)
end Go.Proofs.Ythcjmmicjbfpgaa.Rs
