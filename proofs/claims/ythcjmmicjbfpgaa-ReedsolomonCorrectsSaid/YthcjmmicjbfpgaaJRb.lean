/-
The walks of small and of the law Encodes.
-/
import Derived.Test.YthcjmmicjbfpgaaJLa
namespace Go.Proofs.Ythcjmmicjbfpgaa.Rs
set_option linter.unusedVariables false
set_option linter.unusedSimpArgs false
open Go.RowKit Go.Proofs.Ythcjmmicjbfpgaa.Alg
open GF
set_option linter.unusedSimpArgs false

set_option maxRecDepth 100000 in
set_option maxHeartbeats 6400000 in
theorem encodes_any (c s p par fst : Int) (hs : s < 9223372036854775808) (A1 A2 : Option Addr) (c1 n2 c2 : Nat) (xs : List Int) (w : World) (hr : RdI w A1 xs) :
    Calls Try.prog 4 #[.agg #[.int .i64 c, .int .i64 s, .int .i64 p, .int .i64 par, .int .i64 fst, .slice A1 xs.length c1, .slice A2 n2 c2]] w fun e w' => e = .returned (.bool true) ∧ Below w.heap.size w w' := by
  have HR := As.mk hr
  have HK := As.mk (AskI.new (w := w) (c := c) (s := s) (p := p) (par := par) (fst := fst) (A1 := A1) (n1 := xs.length) (c1 := c1) (A2 := A2) (n2 := n2) (c2 := c2) (t := 36))
  have HS := As.mk (small_any c s p par fst A1 A2 xs.length c1 n2 c2)
  clear hr
  cases hsm : smB par xs.length n2 with
  | false =>
    rw [hsm] at HS
    clear hsm
    go_enter Try.func4, Try.ntmps4
    go_wp2_with fail
    refine (HS.out _).mono ?_
    rintro e w1 ⟨rfl, hb⟩
    go_wp2_with fail
    refine (alive_any _).mono ?_
    rintro e w3 ⟨rfl, hb3⟩
    go_wp2
    go_ret
    exact ⟨rfl, bl_then hb3 (bl_then hb (bl_alloc (bl_refl _)))⟩
  | true =>
    rw [hsm] at HS
    have hx : xs.length ≤ 400 := by
      unfold smB at hsm
      simp only [Bool.and_eq_true, decide_eq_true_eq] at hsm
      exact hsm.1.2
    obtain ⟨ys, E1, hl1, a1, a2⟩ := enc_agree c s p par fst hs A1 c1 xs (by omega)
    obtain ⟨zs, E2, hl2, a3, a4⟩ := syn_agree c s p par fst hs A1 c1 xs (by omega)
    obtain ⟨m, hm⟩ : ∃ m, xs.length = m := ⟨_, rfl⟩
    rw [hm] at HS HK a1 a2 a3 a4 ⊢
    have H1 := As.mk a1
    have H2 := As.mk a2
    have H3 := As.mk a3
    have H4 := As.mk a4
    obtain ⟨n, hn⟩ : ∃ n, ys.length = n := ⟨_, rfl⟩
    obtain ⟨k, hk⟩ : ∃ k, zs.length = k := ⟨_, rfl⟩
    have HN := As.mk hn
    have HKK := As.mk hk
    rw [hn] at hl1
    rw [hk] at hl2
    clear hsm hx hm hn hk hs a1 a2 a3 a4
    go_enter Try.func4, Try.ntmps4
    go_wp2_with fail
    refine (HS.out _).mono ?_
    rintro e w1 ⟨rfl, hb⟩
    have HB1 : As (Below w.heap.size w w1) := ⟨bl_then hb (bl_alloc (bl_refl _))⟩
    have HK1 := As.mk (HK.out.below hb)
    clear hb HK HS
    have d0 := HK1.out.b.c0
    have d1 := HK1.out.b.c1
    have d2 := HK1.out.b.c2
    have d3 := HK1.out.b.c3
    have d4 := HK1.out.b.c4
    have d5 := HK1.out.c5
    go_wp2_with fail
    refine (H1.out _ (HR.out.below HB1.out)).mono ?_
    rintro e w2 ⟨B1, k1, rfl, hr1, hb⟩
    have HB2 : As (Below w.heap.size w w2) := ⟨bl_then hb HB1.out⟩
    have HK2 := As.mk (HK1.out.below hb)
    have R1 := As.mk hr1.out
    rw [HN.out]
    clear hb hr1 HB1 HK1 d0 d1 d2 d3 d4 d5
    have d0 := HK2.out.b.c0
    have d1 := HK2.out.b.c1
    have d2 := HK2.out.b.c2
    have d3 := HK2.out.b.c3
    have d4 := HK2.out.b.c4
    have d5 := HK2.out.c5
    go_wp2_with fail
    refine (H2.out _ (HR.out.below HB2.out)).mono ?_
    rintro e w3 ⟨B2, k2, rfl, hr2, hb⟩
    have HB3 : As (Below w.heap.size w w3) := ⟨bl_then hb HB2.out⟩
    have HK3 := As.mk (HK2.out.below hb)
    have R13 := As.mk (R1.out.below hb)
    have R2 := As.mk hr2.out
    rw [HN.out]
    clear hb hr2 HB2 HK2 R1 d0 d1 d2 d3 d4 d5
    have d0 := HK3.out.b.c0
    have d1 := HK3.out.b.c1
    have d2 := HK3.out.b.c2
    have d3 := HK3.out.b.c3
    have d4 := HK3.out.b.c4
    have d5 := HK3.out.c5
    go_wp2_with fail
    refine (H3.out _ (HR.out.below HB3.out)).mono ?_
    rintro e w4 ⟨B3, k3, rfl, hr3, hb⟩
    have HB4 : As (Below w.heap.size w w4) := ⟨bl_then hb HB3.out⟩
    have HK4 := As.mk (HK3.out.below hb)
    have R14 := As.mk (R13.out.below hb)
    have R24 := As.mk (R2.out.below hb)
    have R3 := As.mk hr3.out
    rw [HKK.out]
    clear hb hr3 HB3 HK3 R13 R2 d0 d1 d2 d3 d4 d5
    have d0 := HK4.out.b.c0
    have d1 := HK4.out.b.c1
    have d2 := HK4.out.b.c2
    have d3 := HK4.out.b.c3
    have d4 := HK4.out.b.c4
    have d5 := HK4.out.c5
    go_wp2_with fail
    refine (H4.out _ (HR.out.below HB4.out)).mono ?_
    rintro e w5 ⟨B4, k4, rfl, hr4, hb⟩
    have HB5 : As (Below w.heap.size w w5) := ⟨bl_then hb HB4.out⟩
    have R15 := As.mk (R14.out.below hb)
    have R25 := As.mk (R24.out.below hb)
    have R35 := As.mk (R3.out.below hb)
    have R4 := As.mk hr4.out
    rw [HKK.out]
    clear hb hr4 HB4 HK4 R14 R24 R3 d0 d1 d2 d3 d4 d5
    go_wp2_with fail
    refine (ints_two ys n HN.out hl1 _ _ _ _ _ R15.out R25.out).mono ?_
    rintro e w6 ⟨rfl, hb⟩
    have HB6 : As (Below w.heap.size w w6) := ⟨bl_then hb HB5.out⟩
    have R36 := As.mk (R35.out.below hb)
    have R46 := As.mk (R4.out.below hb)
    clear hb HB5 R35 R4 R15 R25
    go_wp2_with fail
    refine (ints_two zs k HKK.out hl2 _ _ _ _ _ R36.out R46.out).mono ?_
    rintro e w7 ⟨rfl, hb⟩
    have HB7 : As (Below w.heap.size w w7) := ⟨bl_then hb HB6.out⟩
    clear hb HB6 R36 R46
    go_wp2_with fail
    refine (alive_any _).mono ?_
    rintro e w8 ⟨rfl, hb⟩
    go_wp2
    go_ret
    exact ⟨rfl, bl_then hb HB7.out⟩
end Go.Proofs.Ythcjmmicjbfpgaa.Rs
