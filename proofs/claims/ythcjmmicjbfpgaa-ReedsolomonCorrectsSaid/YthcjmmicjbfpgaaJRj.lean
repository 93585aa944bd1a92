/-
The walk of the reference's Locator.
-/
import Derived.Test.YthcjmmicjbfpgaaJRi
import Derived.Test.YthcjmmicjbfpgaaJRg
import Derived.Test.YthcjmmicjbfpgaaJLo
import Derived.Test.YthcjmmicjbfpgaaJRa
namespace Go.Proofs.Ythcjmmicjbfpgaa.Rs
open Go.RowKit Go.Proofs.Ythcjmmicjbfpgaa.Alg
open GF
set_option linter.unusedSimpArgs false

set_option maxRecDepth 100000 in
set_option maxHeartbeats 1600000 in
theorem locator7_bad (c s p : Int) (hs : s < 9223372036854775808) (A : Option Addr) (cp : Nat) (xs : List Int) (w : World) (hr : RdI w A xs) (hl : xs.length ≤ 100000) (h : locB c s p xs = false) :
    Calls Try.prog 21 #[.agg #[.int .i64 c, .int .i64 s, .int .i64 p], .slice A xs.length cp] w fun e w' => e = .returned (.tuple #[.slice none 0 0, .int .i64 1]) ∧ Below w.heap.size w w' := by
  have HV := As.mk (valid4_any c s p hs)
  have HR := As.mk hr
  have HX := As.mk (Box3.new (w := w) (x := .int .i64 c) (y := .int .i64 s) (z := .int .i64 p) (t := 23))
  have HE := As.mk (fun w' hr' => elements7_any c s p A cp xs w' hr' (by omega))
  clear hr hs
  unfold locB at h
  cases hv : viB c s p with
  | false =>
    rw [hv] at HV
    clear h hv
    go_enter Try.func21, Try.ntmps21
    go_wp2_with fail
    refine (HV.out _).mono ?_
    rintro e w1 ⟨rfl, hb⟩
    go_wp2
    go_ret2
    exact ⟨rfl, bl_then hb (bl_alloc (bl_refl _))⟩
  | true =>
    rw [hv] at HV h
    have ha : anyOut s xs = true := by simpa using h
    rw [ha] at HE
    clear h hv ha
    go_enter Try.func21, Try.ntmps21
    go_wp2_with fail
    refine (HV.out _).mono ?_
    rintro e w1 ⟨rfl, hb⟩
    have hx := HX.out.below hb
    have c0 := hx.c0
    have c1 := hx.c1
    have c2 := hx.c2
    clear hx
    go_wp2_with fail
    refine (HE.out _ ((HR.out.below (bl_alloc (bl_refl _))).below hb)).mono ?_
    rintro e w2 ⟨rfl, hb2⟩
    go_wp2
    go_ret2
    exact ⟨rfl, bl_then hb2 (bl_then hb (bl_alloc (bl_refl _)))⟩

section
variable {K : Type} [GF K]
set_option maxRecDepth 100000 in
set_option maxHeartbeats 1600000 in
theorem locator7C (A : Option Addr) (cp : Nat) (s : List K) (hl : s.length ≤ 4095) (w : World) (hr : RdK w A s) :
    Calls Try.prog 21 #[.agg #[.int .i64 (ch K), .int .i64 (sz K), .int .i64 (po K)], .slice A s.length cp] w fun e w' =>
      ∃ A' cc, e = .returned (.tuple #[.slice A' (sigL s).length cc, .int .i64 0]) ∧ As (RdK w' A' (sigL s)) ∧ Below w.heap.size w w' := by
  have HV := As.mk (valid4_any (ch K : Int) (sz K : Int) (po K : Int) (by have := sz_max (K := K); omega))
  rw [vi_valid (K := K)] at HV
  have HR := As.mk hr
  have HX := As.mk (Box3.new (w := w) (x := .int .i64 (ch K)) (y := .int .i64 (sz K)) (z := .int .i64 (po K)) (t := 23))
  have HE := As.mk (fun w' hr' => elements7K (K := K) A s.length cp s w' hr' rfl (by omega))
  obtain ⟨N, hN⟩ : ∃ N, s.length = N := ⟨_, rfl⟩
  have HL := As.mk (fun w' hr' => locator7K (K := K) s N hN (by omega) A cp w' hr')
  rw [hN] at HE hl ⊢
  have g1 : decide (4095 < (N : Int)) = false := decide_eq_false (by omega)
  clear hr hN
  go_enter Try.func21, Try.ntmps21
  go_wp2_with fail
  refine (HV.out _).mono ?_
  rintro e w1 ⟨rfl, hb⟩
  have HR1 := As.mk ((HR.out.below (bl_alloc (o := .cells #[.int .i64 (ch K), .int .i64 (sz K), .int .i64 (po K)] 23) (bl_refl _))).below hb)
  have HX1 := As.mk (HX.out.below hb)
  have HB1 : As (Below w.heap.size w w1) := ⟨bl_then hb (bl_alloc (bl_refl _))⟩
  have c0 := HX1.out.c0
  have c1 := HX1.out.c1
  have c2 := HX1.out.c2
  clear hb
  go_wp2_with fail
  refine (HE.out _ HR1.out).mono ?_
  rintro e w2 ⟨rfl, hb2⟩
  have HX2 := As.mk (HX1.out.below hb2)
  clear c0 c1 c2
  have c0 := HX2.out.c0
  have c1 := HX2.out.c1
  have c2 := HX2.out.c2
  go_wp2_with fail
  refine (HL.out _ (HR1.out.below hb2)).mono ?_
  rintro e w4 ⟨A', cc, rfl, h1, h2, hb4⟩
  go_wp2
  go_ret2
  exact ⟨_, _, rfl, h1, bl_then hb4 (bl_then hb2 HB1.out)⟩
end
end Go.Proofs.Ythcjmmicjbfpgaa.Rs
