/-
The row of the law Corrects.
-/
import Derived.Test.YthcjmmicjbfpgaaJOp
import Derived.Test.YthcjmmicjbfpgaaJAl
import Derived.Test.YthcjmmicjbfpgaaJSp
import Derived.Test.YthcjmmicjbfpgaaJLh
import Derived.Deep.SlicePairs
namespace Go.Proofs.Ythcjmmicjbfpgaa.Rs
set_option linter.unusedVariables false
set_option linter.unusedSimpArgs false
open Go.ChangeShapes Go.WideShapes Go.ChangeAt Go.RowKit Go.Deep Go.Proofs.Ythcjmmicjbfpgaa.Alg
open GF

theorem corrects_any (c s p par fst : Int) (hs : s < 9223372036854775808) (A1 A2 A3 : Option Addr) (c1 c2 c3 : Nat) (xs er : List Int) (cs : List (Int × Int)) (w : World) (hx : RdI w A1 xs) (he : RdI w A2 er) (hc : RdC w A3 cs) :
    Calls Try.prog 6 #[.agg #[.int .i64 c, .int .i64 s, .int .i64 p, .int .i64 par, .int .i64 fst, .slice A1 xs.length c1, .slice A2 er.length c2], .slice A3 cs.length c3] w fun e w' => e = .returned (.bool true) ∧ Below w.heap.size w w' := by
  by_cases h : smB par xs.length er.length = false ∨ ciB c s p par fst = false ∨ 100 < cs.length ∨ 300 < xs.length
  · exact corrects_out c s p par fst hs A1 A2 A3 c1 er.length c2 xs.length cs.length c3 w h
  · have k1 : smB par xs.length er.length = true := by cases hb : smB par xs.length er.length with | true => rfl | false => exact absurd (Or.inl hb) h
    have k2 : ciB c s p par fst = true := by cases hb : ciB c s p par fst with | true => rfl | false => exact absurd (Or.inr (Or.inl hb)) h
    have k3 : cs.length ≤ 100 := by
      by_cases e : cs.length ≤ 100
      · exact e
      · exact absurd (Or.inr (Or.inr (Or.inl (by omega)))) h
    have k4 : xs.length ≤ 300 := by
      by_cases e : xs.length ≤ 300
      · exact e
      · exact absurd (Or.inr (Or.inr (Or.inr (by omega)))) h
    have hci : CI c s p par fst := by
      unfold ciB at k2
      simpa using k2
    obtain ⟨hv, h1, h2, h3, h4⟩ := hci
    obtain ⟨K, i, rfl, rfl, rfl⟩ := field_at hv
    obtain ⟨par, rfl⟩ : ∃ n : Nat, par = n := ⟨par.toNat, by omega⟩
    obtain ⟨fst, rfl⟩ : ∃ n : Nat, fst = n := ⟨fst.toNat, by omega⟩
    exact corrects_in (K := K) par fst (by omega) (by omega) (by omega) A1 A2 A3 c1 c2 c3 xs.length cs.length er.length xs er cs w hx he hc rfl rfl rfl k1 k3 k4

set_option maxRecDepth 100000
section
variable {H : Type} {enc : TypeId × Value → H} {W : World} {base : Nat}
/-- a slice of changes among the arguments -/
theorem changes_open {v : Value} {d : DataW H} {p : List MemPlace} (hv : Value.okWide Try.prog W .any base 41 v) (h : DataW.Trod enc Try.prog W 0 (fun _ => true) true 41 v d p) :
    ∃ (A : Option Addr) (cap : Nat) (cs : List (Int × Int)), v = .slice A cs.length cap ∧ RdC W A cs := by
  obtain ⟨a, len, cap, rfl⟩ := okWide_slice Try.underlying41 hv
  obtain ⟨fuel, hf⟩ := h
  rcases open_slice_pairs Try.underlying41 Try.underlying68 (by kernel_rfl) rfl rfl (by kernel_rfl) (by kernel_rfl) hf with ⟨hcs, _⟩ | ⟨x, l, c, m, n, V0, V1, D0, D1, P0, P1, hcs, _, hl, hm, hz, _, hcell⟩
  · simp [Value.cells] at hcs
    obtain ⟨rfl, rfl, rfl⟩ := hcs
    exact ⟨none, 0, [], rfl, fun i hi => absurd hi (by simp)⟩
  · simp [Value.cells] at hcs
    obtain ⟨rfl, rfl, rfl⟩ := hcs
    have hz2 : m = cap := by simpa using hz
    have each : ∀ i, i < len → ∃ q : Int × Int, W.cell? (x.add (i * 2)) = some (.int .i64 q.1) ∧ W.cell? (x.add (i * 2 + 1)) = some (.int .i64 q.2) := fun i hi => by
      obtain ⟨k1, k2, k3, k4⟩ := hcell i (by omega)
      obtain ⟨n0, e0, _, _⟩ := DataW.trod_int Try.underlying3 k3
      obtain ⟨n1, e1, _, _⟩ := DataW.trod_int Try.underlying3 k4
      have e0' : V0 i = .int .i64 n0 := by simpa using e0
      have e1' : V1 i = .int .i64 n1 := by simpa using e1
      exact ⟨(n0, n1), by rw [k1, e0'], by rw [k2, e1']⟩
    obtain ⟨q, hq⟩ := choose_lt each
    refine ⟨some x, cap, (List.range len).map q, by simp, fun i hi => ?_⟩
    have hi2 : i < len := by simpa using hi
    have h0 := (hq 0 (by omega)).1
    have hs : x.spot = none := by
      cases hsp : x.spot with
      | none => rfl
      | some u =>
        exfalso
        have : x.add (0 * 2) = x := by unfold Addr.add; rw [if_pos (by decide)]
        rw [this] at h0
        unfold World.cell? at h0
        rw [hsp] at h0
        cases hh : W.heap[x.block]? with
        | none => rw [hh] at h0; cases h0
        | some o => rw [hh] at h0; cases o <;> simp at h0
    obtain ⟨b, o, sp⟩ := x
    cases hs
    obtain ⟨k1, k2⟩ := hq i hi2
    rw [add_plain] at k1 k2
    have e : ((List.range len).map q).getD i (0, 0) = q i := by
      rw [List.getD_eq_getElem?_getD, List.getElem?_map, List.getElem?_range hi2]; rfl
    rw [e]
    exact ⟨b, o, rfl, k1, k2⟩
end

theorem corrects_lifted (os : Os) (started : os.Started) (H : Type) (enc : TypeId × Value → H) :
    ReturnsInHanded {} Try.checked os 6 .any (Rows.reedsolomonCorrectsSpec.pre6 enc Try.prog Try.f6 Rows.reedsolomonCorrectsRow.domain false) (Rows.reedsolomonCorrectsSpec.post enc Try.prog Try.f6 false true false false) := by
  refine returnsInHanded_of_change_sized (C := Try.checked) own started (by kernel_rfl) Try.func6
    (ChangeSpec.witness6 (enc := enc) (C := Try.checked) false ⟨#[], #[.agg #[.int .i64 0, .int .i64 0, .int .i64 0, .int .i64 0, .int .i64 0, .slice none 0 0, .slice none 0 0], .slice none 0 0], []⟩ 8 (by kernel_rfl) (by kernel_rfl) (by kernel_rfl) (by kernel_rfl)) ?_
  intro W base args ds gs before hval0 hW hcnd hsz0 _
  have hval : ∀ (j : Nat) t v, Try.f6.params[j]? = some t → args[j]? = some v → Value.okWide Try.prog W .any base t v := hval0
  have hW' := hW
  obtain ⟨p, q, hA0, hV, rfl, hfz, hnd⟩ := hW
  have hA : DataW.TrodAll enc Try.prog W 0 (fun _ => true) true Try.f6.params.toList args.toList ds p := hA0
  rw [Try.params6] at hA hval
  obtain ⟨v0, vs0, d0, ds0, p0, q0, hargs, rfl, rfl, h0, r0⟩ := trodAll_cons hA
  obtain ⟨v1, vs1, d1, ds1, p1, q1, rfl, rfl, rfl, h1, r1⟩ := trodAll_cons r0
  obtain ⟨rfl, rfl, rfl⟩ := trodAll_nil r1
  obtain rfl : args = #[v0, v1] := by cases args; simp_all
  obtain ⟨rfl, rfl⟩ := trodVars_none hV
  have lt0 : ∀ x ∈ p0, x.block < W.heap.size := by obtain ⟨m, hm⟩ := h0; exact DataW.trod_lt m _ _ _ hm
  have lt1 : ∀ x ∈ p1, x.block < W.heap.size := by obtain ⟨m, hm⟩ := h1; exact DataW.trod_lt m _ _ _ hm
  obtain ⟨c, s, po, par, fst, A1, A2, c1, c2, xs, ys, rfl, hs, rx, ry⟩ := ask_open (hval 0 _ v0 rfl rfl) h0
  obtain ⟨A3, c3, zs, rfl, rz⟩ := changes_open (hval 1 _ v1 rfl rfl) h1
  clear hA0 hval0 hsz0
  refine (corrects_any c s po par fst hs A1 A2 A3 c1 c2 c3 xs ys zs W rx ry rz).mono fun e W' ⟨he, bel⟩ => ?_
  subst he
  exact ⟨_, rfl, _, _, _, [], _, [], hW', trodAll_mk1 (shut_bool Try.underlying4 _), (trodAll_cons_mk (Below.trod laidOut (by kernel_rfl) (of_decide_eq_true (by kernel_rfl)) h0 bel lt0) (trodAll_cons_mk (Below.trod laidOut (by kernel_rfl) (of_decide_eq_true (by kernel_rfl)) h1 bel lt1) trodAll_mk0)), rfl, bel.frame _, fun h => by cases h⟩
theorem corrects_holds : Rows.ReedsolomonCorrectsSaid :=
  OpenClaim.holds_of_wide 6 Try.f6 rfl rfl rfl rfl rfl rfl rfl ⟨rfl, rfl, rfl, rfl, rfl⟩ rfl rfl rfl rfl rfl (by kernel_rfl) Try.func6 (by kernel_rfl)
    (of_decide_eq_true (by kernel_rfl)) (by unfold Func.isWrapper; first | (rw [if_pos (by decide +kernel)]; kernel_rfl) | (rw [if_neg (by decide +kernel)]; exact ⟨rfl, rfl⟩))
    (fun os started H enc _ => corrects_lifted os started H enc)
end Go.Proofs.Ythcjmmicjbfpgaa.Rs
