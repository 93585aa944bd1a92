/-
The walks of the arithmetic in a field: package galois and the reference's layer 4.
The walks of the arithmetic in a field, told by the field's own elements.
What slices of a field's elements read, and the walks of the functions around them in package galois.
-/
import Derived.Test.YthcjmmicjbfpgaaJWa
import Derived.Test.YthcjmmicjbfpgaaJAa
namespace Go.Proofs.Ythcjmmicjbfpgaa.Rs
open Go.RowKit Go.Proofs.Ythcjmmicjbfpgaa.Alg

/-- the product of two numbers below the size of a field -/
def tm (c s p x y : Nat) : Nat := if c = 2 then gm s p x y else x * y % s

theorem vf_bds {c s p : Nat} (h : VF c s p) : 2 ≤ s ∧ s ≤ 4096 ∧ p < 8192 ∧ c ≤ 4096 ∧ 2 ≤ c := by
  rcases h with ⟨h0, d, h1, h2, h3, h4, h5, _⟩ | ⟨h0, h2, h3, h4, _⟩
  · have a1 : 2 ^ 1 ≤ 2 ^ d := Nat.pow_le_pow_right (by omega) h1
    have a2 : 2 ^ d ≤ 2 ^ 12 := Nat.pow_le_pow_right (by omega) h2
    rw [Nat.pow_succ] at h5
    omega
  · omega
theorem vf_bin {c s p : Nat} (h : VF c s p) (hc : c = 2) : ∃ d, Bin d s p ∧ Irr p d ∧ d ≤ 12 := by
  rcases h with ⟨h0, d, h1, h2, h3, h4, h5, h6⟩ | ⟨h0, h2, h3, h4, _⟩
  · rw [Nat.pow_succ] at h5
    exact ⟨d, ⟨h1, h3, by omega, by omega⟩, h6, h2⟩
  · omega
theorem tm_lt {c s p x y : Nat} (h : VF c s p) (hx : x < s) : tm c s p x y < s := by
  have hb := vf_bds h
  unfold tm
  split
  · rename_i hc
    obtain ⟨d, h1, _⟩ := vf_bin h hc
    exact gm_lt h1 hx
  · exact Nat.mod_lt _ (by omega)

set_option maxRecDepth 100000 in
set_option maxHeartbeats 800000 in
theorem times_any (c s p x y : Nat) (h : VF c s p) (hx : x < s) (hy : y < s) (w : World) :
    Calls Try.prog 85 #[.agg #[.int .i64 c, .int .i64 s, .int .i64 p], .int .i64 x, .int .i64 y] w fun e w' => e = .returned (.int .i64 (tm c s p x y)) ∧ Below w.heap.size w w' := by
  obtain ⟨b1, b2, b3, b4, b5⟩ := vf_bds h
  by_cases hc : c = 2
  · obtain ⟨d, hB, _⟩ := vf_bin h hc
    have HB := As.mk hB
    obtain ⟨r, hr⟩ : ∃ r, tm c s p x y = r := ⟨_, rfl⟩
    have HR : As (gm s p x y = r) := ⟨by rw [← hr]; unfold tm; rw [if_pos hc]⟩
    rw [hr]
    subst hc
    have hq : s = 2 ^ d := hB.hq
    clear hr h hB
    have HQ := As.mk hq
    clear hq
    go_enter Try.func85, Try.ntmps85
    go_wp2
    go_loop [1, 2, 7] (fun a b v => ∃ m n u : Nat, a = .int .i64 m ∧ b = .int .i64 n ∧ v = .int .i64 u ∧ m < s ∧ n < 4611686018427387904 ∧ u < s ∧ As (u ^^^ gm s p m n = r)) (fun _ b _ => (intOf b).toNat)
    case atStart => exact ⟨x, y, 0, rfl, rfl, rfl, hx, by omega, by omega, ⟨by rw [Nat.zero_xor]; exact HR.out⟩⟩
    case round =>
      obtain ⟨m, n, u, rfl, rfl, rfl, hm, hn, hu, hrel⟩ := hrel
      by_cases h0 : n = 0
      · subst h0
        go_wp2
        go_ret
        refine ⟨ret_int (by have := hrel.out; rw [gm_zero, Nat.xor_zero] at this; omega), ?_⟩
        repeat (first | exact bl_refl _ | apply bl_drew | apply bl_alloc)
      · have hpos : decide ((0 : Int) < (n : Int)) = true := decide_eq_true (by omega)
        have e1 := bits64_and1 (a := n) (by omega)
        have hh := As.mk (gm_eq (q := s) (P := p) m n)
        have hd : As (((n : Int) / 2) = ((n / 2 : Nat) : Int)) := ⟨by omega⟩
        have hlt := As.mk (xt_lt HB.out hm)
        obtain ⟨m2, hm2⟩ : ∃ m2, xt s p m = m2 := ⟨_, rfl⟩
        rw [hm2] at hh hlt
        -- the doubled number
        have hx2 : (s ≤ 2 * m ∧ bits .xor .i64 ((m : Int) * 2) (p : Int) = (m2 : Int)) ∨ (2 * m < s ∧ (m : Int) * 2 = (m2 : Int)) := by
          unfold xt at hm2
          split at hm2
          · left
            rename_i hge
            have := bits64_xor (a := 2 * m) (b := p) (by omega) (by omega)
            rw [hm2] at this
            refine ⟨hge, ?_⟩
            rw [← this]; congr 1; omega
          · right
            exact ⟨by omega, by omega⟩
        have HM2 := As.mk hm2
        clear hm2
        rcases Nat.mod_two_eq_zero_or_one n with hodd | hodd
        · rw [hodd] at e1
          have hh2 : As (gm s p m n = gm s p m2 (n / 2)) := ⟨by rw [hh.out, if_neg (by omega), Nat.zero_xor]⟩
          have hm2s : m2 < s := hlt.out
          clear hh hodd
          rcases hx2 with ⟨c1, c2⟩ | ⟨c1, c2⟩
          · have g1 : decide ((s : Int) ≤ (m : Int) * 2) = true := decide_eq_true (by omega)
            go_wp2
            go_round
            case rel => exact ⟨m2, n / 2, u, rfl, by rw [← hd.out], rfl, by omega, by omega, by omega, ⟨by rw [← hh2.out]; exact hrel.out⟩⟩
            case measure => simp [intOf]; omega
          · have g1 : decide ((s : Int) ≤ (m2 : Int)) = false := decide_eq_false (by omega)
            have g2 : decide (s ≤ m2) = false := decide_eq_false (by omega)
            go_wp2
            go_round
            case rel => exact ⟨m2, n / 2, u, rfl, by rw [← hd.out], rfl, by omega, by omega, by omega, ⟨by rw [← hh2.out]; exact hrel.out⟩⟩
            case measure => simp [intOf]; omega
        · rw [hodd] at e1
          have e2 := bits64_xor (a := u) (b := m) (by omega) (by omega)
          obtain ⟨z, hz⟩ : ∃ z, u ^^^ m = z := ⟨_, rfl⟩
          rw [hz] at e2
          have hzs : z < s := by
            rw [← hz]
            have := HQ.out
            subst this
            exact Nat.xor_lt_two_pow hu hm
          have hh2 : As (u ^^^ gm s p m n = z ^^^ gm s p m2 (n / 2)) := ⟨by rw [hh.out, if_pos hodd, ← Nat.xor_assoc, hz]⟩
          have hm2s : m2 < s := hlt.out
          clear hh hodd hz
          rcases hx2 with ⟨c1, c2⟩ | ⟨c1, c2⟩
          · have g1 : decide ((s : Int) ≤ (m : Int) * 2) = true := decide_eq_true (by omega)
            go_wp2
            go_round
            case rel => exact ⟨m2, n / 2, z, rfl, by rw [← hd.out], rfl, by omega, by omega, by omega, ⟨by rw [← hh2.out]; exact hrel.out⟩⟩
            case measure => simp [intOf]; omega
          · have g1 : decide ((s : Int) ≤ (m2 : Int)) = false := decide_eq_false (by omega)
            have g2 : decide (s ≤ m2) = false := decide_eq_false (by omega)
            go_wp2
            go_round
            case rel => exact ⟨m2, n / 2, z, rfl, by rw [← hd.out], rfl, by omega, by omega, by omega, ⟨by rw [← hh2.out]; exact hrel.out⟩⟩
            case measure => simp [intOf]; omega
  · have g1 : ((c : Int) == 2) = false := beq_eq_false_iff_ne.mpr (by omega)
    have hxy : x * y ≤ 4096 * 4096 := Nat.mul_le_mul (by omega) (by omega)
    obtain ⟨t, ht⟩ : ∃ t, x * y = t := ⟨_, rfl⟩
    have e1 : (x : Int) * (y : Int) = (t : Int) := by rw [← ht, Int.natCast_mul]
    have e2 : As (tm c s p x y = t % s) := ⟨by unfold tm; rw [if_neg hc, ht]⟩
    rw [ht] at hxy
    clear ht
    obtain ⟨u, hu⟩ : ∃ u, t % s = u := ⟨_, rfl⟩
    have e3 : As ((t : Int) % (s : Int) = (u : Int)) := ⟨by rw [← hu, Int.natCast_emod]⟩
    rw [hu] at e2
    clear hu
    rw [e2.out]
    have hs0 : ((s : Int) == 0) = false := beq_eq_false_iff_ne.mpr (by omega)
    go_enter Try.func85, Try.ntmps85
    go_wp2
    go_ret
    refine ⟨ret_int e3.out, ?_⟩
    repeat (first | exact bl_refl _ | apply bl_drew | apply bl_alloc)

/-- the sum, and the difference, of two numbers below the size of a field -/
def am (c s x y : Nat) : Nat := if c = 2 then x ^^^ y else (x + y) % s
def sm (c s x y : Nat) : Nat := if c = 2 then x ^^^ y else (x + s - y) % s

set_option maxRecDepth 100000 in
set_option maxHeartbeats 800000 in
theorem plus4_any (c s p x y : Nat) (h : VF c s p) (hx : x < s) (hy : y < s) (w : World) :
    Calls Try.prog 26 #[.agg #[.int .i64 c, .int .i64 s, .int .i64 p], .int .i64 x, .int .i64 y] w fun e w' => e = .returned (.int .i64 (am c s x y)) ∧ Below w.heap.size w w' := by
  obtain ⟨b1, b2, b3, b4, b5⟩ := vf_bds h
  by_cases hc : c = 2
  · have e1 := As.mk (bits64_xor (a := x) (b := y) (by omega) (by omega))
    have e2 : As (am c s x y = x ^^^ y) := ⟨by unfold am; rw [if_pos hc]⟩
    subst hc
    clear h
    go_enter Try.func26, Try.ntmps26
    go_wp2
    go_ret
    refine ⟨ret_int (by rw [e2.out]; exact e1.out), ?_⟩
    repeat (first | exact bl_refl _ | apply bl_drew | apply bl_alloc)
  · have g1 : ((c : Int) == 2) = false := beq_eq_false_iff_ne.mpr (by omega)
    have e2 : As (((x : Int) + (y : Int)) % (s : Int) = ((am c s x y : Nat) : Int)) := ⟨by unfold am; rw [if_neg hc, Int.natCast_emod, Int.natCast_add]⟩
    have hs0 : ((s : Int) == 0) = false := beq_eq_false_iff_ne.mpr (by omega)
    clear h
    go_enter Try.func26, Try.ntmps26
    go_wp2
    go_ret
    refine ⟨ret_int e2.out, ?_⟩
    repeat (first | exact bl_refl _ | apply bl_drew | apply bl_alloc)

set_option maxRecDepth 100000 in
set_option maxHeartbeats 800000 in
theorem minus4_any (c s p x y : Nat) (h : VF c s p) (hx : x < s) (hy : y < s) (w : World) :
    Calls Try.prog 39 #[.agg #[.int .i64 c, .int .i64 s, .int .i64 p], .int .i64 x, .int .i64 y] w fun e w' => e = .returned (.int .i64 (sm c s x y)) ∧ Below w.heap.size w w' := by
  obtain ⟨b1, b2, b3, b4, b5⟩ := vf_bds h
  by_cases hc : c = 2
  · have e1 := As.mk (bits64_xor (a := x) (b := y) (by omega) (by omega))
    have e2 : As (sm c s x y = x ^^^ y) := ⟨by unfold sm; rw [if_pos hc]⟩
    subst hc
    clear h
    go_enter Try.func39, Try.ntmps39
    go_wp2
    go_ret
    refine ⟨ret_int (by rw [e2.out]; exact e1.out), ?_⟩
    repeat (first | exact bl_refl _ | apply bl_drew | apply bl_alloc)
  · have g1 : ((c : Int) == 2) = false := beq_eq_false_iff_ne.mpr (by omega)
    have e2 : As (((x : Int) + (s : Int) - (y : Int)) % (s : Int) = ((sm c s x y : Nat) : Int)) := ⟨by
      unfold sm; rw [if_neg hc, Int.natCast_emod]; congr 1; omega⟩
    have hs0 : ((s : Int) == 0) = false := beq_eq_false_iff_ne.mpr (by omega)
    clear h
    go_enter Try.func39, Try.ntmps39
    go_wp2
    go_ret
    refine ⟨ret_int e2.out, ?_⟩
    repeat (first | exact bl_refl _ | apply bl_drew | apply bl_alloc)

theorem rem_gm {d s p r : Nat} (h : Bin d s p) {x : Nat} (hx : gm s p 1 x = r) : rem x x p = r := by
  have h1 : 1 < s := by have := h.hq; have := Nat.pow_le_pow_right (n := 2) (by omega) h.d1; omega
  have hp0 : p ≠ 0 := by have := h.lo; omega
  obtain ⟨hl, Q, _, _, hQ⟩ := rem_quot h hp0 x x (Nat.le_refl x)
  have := hQ 1 h1
  rw [gm_P1 h, gm_zero_left h] at this
  have e : gm s p 1 x = gm s p 1 (rem x x p) := by
    have h2 : gm s p 1 x ^^^ (gm s p 1 x ^^^ gm s p 1 (rem x x p)) = gm s p 1 x := by rw [this, Nat.xor_zero]
    rw [← Nat.xor_assoc, Nat.xor_self, Nat.zero_xor] at h2
    exact h2.symm
  rw [← hx, e, gm_one_left h]
  have hlp : len p ≤ d + 1 := len_le.mpr (by rw [Nat.pow_succ]; have := h.hi; have := h.hq; omega)
  rw [h.hq]
  exact len_le.mp (by omega)

set_option maxRecDepth 100000 in
set_option maxHeartbeats 800000 in
theorem times4_any (c s p x y : Nat) (h : VF c s p) (hx : x < s) (hy : y < s) (w : World) :
    Calls Try.prog 27 #[.agg #[.int .i64 c, .int .i64 s, .int .i64 p], .int .i64 x, .int .i64 y] w fun e w' => e = .returned (.int .i64 (tm c s p x y)) ∧ Below w.heap.size w w' := by
  obtain ⟨b1, b2, b3, b4, b5⟩ := vf_bds h
  by_cases hc : c = 2
  · obtain ⟨d, hB, _⟩ := vf_bin h hc
    have HB := As.mk hB
    obtain ⟨r, hr⟩ : ∃ r, tm c s p x y = r := ⟨_, rfl⟩
    have HR : As (gm s p x y = r) := ⟨by rw [← hr]; unfold tm; rw [if_pos hc]⟩
    rw [hr]
    subst hc
    clear hr h hB
    have h1 : As (1 < s) := ⟨by omega⟩
    go_enter Try.func27, Try.ntmps27
    go_wp2
    go_loop [7, 8] (fun v k => ∃ u j : Nat, v = .int .i64 u ∧ k = .int .i64 j ∧ j ≤ 13 ∧ u < 4294967296 ∧ As (gm s p 1 u = gm s p x (y % 2 ^ j))) (fun _ k => (20 - intOf k).toNat)
    case atStart => exact ⟨0, 0, rfl, rfl, by omega, by omega, ⟨by rw [Nat.pow_zero, Nat.mod_one, gm_zero, gm_zero]⟩⟩
    case round =>
      obtain ⟨u, j, rfl, rfl, hj, hu, hrel⟩ := hrel
      have u1 : IntKind.u64.wrap (j : Int) = j := u64_in (by omega) (by omega)
      obtain ⟨z, hz⟩ : ∃ z, y / 2 ^ j = z := ⟨_, rfl⟩
      have e2 : (y : Int) / 2 ^ j = (z : Int) := by rw [← hz, Int.natCast_ediv, Int.natCast_pow]; rfl
      have hz2 : z < 4096 := by rw [← hz]; exact Nat.lt_of_le_of_lt (Nat.div_le_self _ _) (by omega)
      have HZ := As.mk hz
      clear hz
      by_cases h0 : z = 0
      · subst h0
        have hend : As (rem u u p = r) := ⟨rem_gm HB.out (by
          rw [hrel.out, ← HR.out]; congr 1
          have := Nat.div_add_mod y (2 ^ j)
          rw [HZ.out] at this; omega)⟩
        go_wp2_with (go_at_call 55; refine (rest_any u p (by omega) (by omega) (by have := HB.out.lo; omega) _).mono ?_; rintro e w' ⟨rfl, rfl⟩)
        go_ret
        refine ⟨ret_int (by rw [hend.out]), ?_⟩
        repeat (first | exact bl_refl _ | apply bl_drew | apply bl_alloc)
      · have hzp : decide ((0 : Int) < (z : Int)) = true := decide_eq_true (by omega)
        have hj12 : j ≤ 12 := by
          apply Classical.byContradiction
          intro hcon
          have : j = 13 := by omega
          have hh := HZ.out
          rw [this] at hh
          omega
        have e1 := bits64_and1 (a := z) (by omega)
        have hsplit : As (y % 2 ^ (j + 1) = y % 2 ^ j + 2 ^ j * (z % 2)) := ⟨by rw [Nat.pow_succ, Nat.mod_mul, HZ.out]⟩
        rcases Nat.mod_two_eq_zero_or_one z with hodd | hodd
        · rw [hodd] at e1 hsplit
          have hn : As (gm s p 1 u = gm s p x (y % 2 ^ (j + 1))) := ⟨by rw [hsplit.out, Nat.mul_zero, Nat.add_zero]; exact hrel.out⟩
          clear hodd
          go_wp2
          go_round
          case rel => exact ⟨u, j + 1, rfl, by go_num, by omega, by omega, hn⟩
          case measure => simp [intOf]; omega
        · rw [hodd] at e1 hsplit
          have hsh : x <<< j < 4294967296 := by
            rw [Nat.shiftLeft_eq]
            have a1 : 2 ^ j ≤ 2 ^ 12 := Nat.pow_le_pow_right (by omega) hj12
            have := Nat.mul_le_mul (show x ≤ 4096 by omega) a1
            omega
          have e4 := shl64 (D := x) (k := j) (n := j) (by omega) rfl
          have hX : As (gm s p 1 (x <<< j) = gm s p x (2 ^ j)) := ⟨by rw [gm_shift HB.out j h1.out, gm_one_left HB.out x hx]⟩
          obtain ⟨t, ht⟩ : ∃ t, x <<< j = t := ⟨_, rfl⟩
          rw [ht] at e4 hsh hX
          have e5 := bits64_xor (a := u) (b := t) (by omega) (by omega)
          have h32 : u ^^^ t < 2 ^ 32 := Nat.xor_lt_two_pow (by omega) (by omega)
          have hn : As (gm s p 1 (u ^^^ t) = gm s p x (y % 2 ^ (j + 1))) := ⟨by
            rw [gm_xor_right, hrel.out, hX.out, ← gm_xor_right, hsplit.out, Nat.mul_one]
            congr 1
            have hlt : y % 2 ^ j < 2 ^ j := Nat.mod_lt _ (Nat.two_pow_pos j)
            apply Nat.eq_of_testBit_eq
            intro i
            rw [Nat.testBit_xor]
            rcases Nat.lt_trichotomy i j with hi | hi | hi
            · rw [Nat.add_comm, Nat.testBit_two_pow_add_gt hi, Nat.testBit_two_pow_of_ne (by omega), Bool.xor_false]
            · subst hi
              rw [Nat.add_comm, Nat.testBit_two_pow_add_eq, Nat.testBit_two_pow_self, Nat.testBit_lt_two_pow hlt]; rfl
            · have a1 : y % 2 ^ j + 2 ^ j < 2 ^ i := by
                have : 2 ^ (j + 1) ≤ 2 ^ i := Nat.pow_le_pow_right (by omega) (by omega)
                rw [Nat.pow_succ] at this; omega
              rw [Nat.testBit_lt_two_pow a1, Nat.testBit_lt_two_pow (show y % 2 ^ j < 2 ^ i by omega), Nat.testBit_two_pow_of_ne (by omega)]; rfl⟩
          obtain ⟨q, hq⟩ : ∃ q, u ^^^ t = q := ⟨_, rfl⟩
          rw [hq] at e5 hn h32
          clear ht hq hodd
          go_wp2
          go_round
          case rel => exact ⟨q, j + 1, rfl, by go_num, by omega, by omega, hn⟩
          case measure => simp [intOf]; omega
  · have g1 : ((c : Int) == 2) = false := beq_eq_false_iff_ne.mpr (by omega)
    have hxy : x * y ≤ 4096 * 4096 := Nat.mul_le_mul (by omega) (by omega)
    obtain ⟨t, ht⟩ : ∃ t, x * y = t := ⟨_, rfl⟩
    have e1 : (x : Int) * (y : Int) = (t : Int) := by rw [← ht, Int.natCast_mul]
    have e2 : As ((t : Int) % (s : Int) = ((tm c s p x y : Nat) : Int)) := ⟨by unfold tm; rw [if_neg hc, ht, Int.natCast_emod]⟩
    rw [ht] at hxy
    clear ht h
    have hs0 : ((s : Int) == 0) = false := beq_eq_false_iff_ne.mpr (by omega)
    go_enter Try.func27, Try.ntmps27
    go_wp2
    go_ret
    refine ⟨ret_int e2.out, ?_⟩
    repeat (first | exact bl_refl _ | apply bl_drew | apply bl_alloc)
end Go.Proofs.Ythcjmmicjbfpgaa.Rs

namespace Go.Proofs.Ythcjmmicjbfpgaa.Rs
open Go.RowKit Go.Proofs.Ythcjmmicjbfpgaa.Alg
open GF

section
variable {K : Type} [GF K]

theorem tm_val (a b : K) : tm (ch K) (sz K) (po K) (val a) (val b) = val (a * b) := by unfold tm; rw [val_mul]
theorem am_val (a b : K) : am (ch K) (sz K) (val a) (val b) = val (a + b) := by unfold am; rw [val_add]
theorem sm_val (a b : K) : sm (ch K) (sz K) (val a) (val b) = val (a - b) := by unfold sm; rw [val_sub]

theorem timesK (a b : K) (w : World) : Calls Try.prog 85 #[.agg #[.int .i64 (ch K), .int .i64 (sz K), .int .i64 (po K)], .int .i64 (val a), .int .i64 (val b)] w fun e w' => e = .returned (.int .i64 (val (a * b))) ∧ Below w.heap.size w w' := by
  rw [← tm_val]; exact times_any _ _ _ _ _ valid (val_lt a) (val_lt b) w
theorem times4K (a b : K) (w : World) : Calls Try.prog 27 #[.agg #[.int .i64 (ch K), .int .i64 (sz K), .int .i64 (po K)], .int .i64 (val a), .int .i64 (val b)] w fun e w' => e = .returned (.int .i64 (val (a * b))) ∧ Below w.heap.size w w' := by
  rw [← tm_val]; exact times4_any _ _ _ _ _ valid (val_lt a) (val_lt b) w
theorem plus4K (a b : K) (w : World) : Calls Try.prog 26 #[.agg #[.int .i64 (ch K), .int .i64 (sz K), .int .i64 (po K)], .int .i64 (val a), .int .i64 (val b)] w fun e w' => e = .returned (.int .i64 (val (a + b))) ∧ Below w.heap.size w w' := by
  rw [← am_val]; exact plus4_any _ _ _ _ _ valid (val_lt a) (val_lt b) w
theorem minus4K (a b : K) (w : World) : Calls Try.prog 39 #[.agg #[.int .i64 (ch K), .int .i64 (sz K), .int .i64 (po K)], .int .i64 (val a), .int .i64 (val b)] w fun e w' => e = .returned (.int .i64 (val (a - b))) ∧ Below w.heap.size w w' := by
  rw [← sm_val]; exact minus4_any _ _ _ _ _ valid (val_lt a) (val_lt b) w

/-- a struct of three numbers in a block of its own -/
structure Box3 (w : World) (g : Nat) (x y z : Value) : Prop where
  c0 : w.cell? ⟨g, 0, none⟩ = some x
  c1 : w.cell? ⟨g, 1, none⟩ = some y
  c2 : w.cell? ⟨g, 2, none⟩ = some z
theorem Box3.below {w w1 : World} {g : Nat} {x y z : Value} (h : Box3 w g x y z) (hb : Below w.heap.size w w1) : Box3 w1 g x y z := ⟨cell_below hb h.c0, cell_below hb h.c1, cell_below hb h.c2⟩
theorem Box3.drew {w : World} {g : Nat} {x y z : Value} (h : Box3 w g x y z) : Box3 w.drew g x y z := ⟨h.c0, h.c1, h.c2⟩
theorem Box3.new {w : World} {x y z : Value} {t : TypeId} : Box3 (w.alloc (.cells #[x, y, z] t)) w.heap.size x y z := ⟨by go_simp, by go_simp, by go_simp⟩

set_option maxRecDepth 100000 in
set_option maxHeartbeats 800000 in
theorem power4K (a : K) (n : Nat) (hn : n < 2 ^ 62) (w : World) :
    Calls Try.prog 87 #[.agg #[.int .i64 (ch K), .int .i64 (sz K), .int .i64 (po K)], .int .i64 (val a), .int .i64 n] w fun e w' => e = .returned (.int .i64 (val (pw a n))) ∧ Below w.heap.size w w' := by
  go_enter Try.func87, Try.ntmps87
  go_wp2
  have hbox := Box3.new (w := w) (x := .int .i64 (ch K)) (y := .int .i64 (sz K)) (z := .int .i64 (po K)) (t := 23)
  have hbw : Below w.heap.size w (w.alloc (.cells #[.int .i64 (ch K), .int .i64 (sz K), .int .i64 (po K)] 23)) := bl_alloc (bl_refl _)
  have HBox := As.mk hbox
  have HBw := As.mk hbw
  clear hbox hbw
  go_loopw [1, 2, 7] (fun x k v wr => ∃ (b u : K) (m : Nat), x = .int .i64 (val b) ∧ k = .int .i64 m ∧ v = .int .i64 (val u) ∧ m < 4611686018427387904 ∧ As (u * pw b m = pw a n) ∧ As (Box3 wr w.heap.size (.int .i64 (ch K)) (.int .i64 (sz K)) (.int .i64 (po K))) ∧ As (Below w.heap.size w wr)) (fun _ k _ _ => (intOf k).toNat)
  case atStart => exact ⟨a, 1, n, rfl, rfl, by rw [val_one]; rfl, by omega, ⟨one_mul _⟩, HBox, HBw⟩
  case round =>
    obtain ⟨b, u, m, rfl, rfl, rfl, hm, hr, hbx, hbl⟩ := hrel
    have hc0 := hbx.out.c0
    have hc1 := hbx.out.c1
    have hc2 := hbx.out.c2
    by_cases h0 : m = 0
    · subst h0
      go_wp2
      go_ret
      refine ⟨ret_int (by rw [← hr.out]; simp only [pw]; rw [Fld.mul_one]), hbl.out⟩
    · have hpos : decide ((0 : Int) < (m : Int)) = true := decide_eq_true (by omega)
      have hd : As (((m : Int) / 2) = ((m / 2 : Nat) : Int)) := ⟨by omega⟩
      rcases Nat.mod_two_eq_zero_or_one m with hodd | hodd
      · have e1 : (m : Int) % 2 = 0 := by omega
        have hn : As (u * pw (b * b) (m / 2) = pw a n) := ⟨by
          rw [← hr.out]; congr 1
          have : m = m / 2 + m / 2 := by omega
          conv => rhs; rw [this]
          rw [pw_mul_base, ← pw_add]⟩
        clear hodd
        go_wp2_with fail
        refine (times4K b b _).mono ?_
        rintro e w1 ⟨rfl, hb1⟩
        go_wp2
        go_roundw
        case rel => exact ⟨b * b, u, m / 2, rfl, by rw [← hd.out], rfl, by omega, hn, ⟨hbx.out.below hb1⟩, ⟨bl_then hb1 hbl.out⟩⟩
        case measure => simp [intOf]; omega
      · have e1 : (m : Int) % 2 = 1 := by omega
        have hn : As (u * b * pw (b * b) (m / 2) = pw a n) := ⟨by
          rw [← hr.out]
          have : m = m / 2 + m / 2 + 1 := by omega
          conv => rhs; rw [this]
          simp only [pw]
          rw [pw_mul_base, pw_add]; ac_rfl⟩
        clear hodd
        go_wp2_with fail
        refine (times4K u b _).mono ?_
        rintro e w1 ⟨rfl, hb1⟩
        have hd0 := cell_below hb1 hc0
        have hd1 := cell_below hb1 hc1
        have hd2 := cell_below hb1 hc2
        go_wp2_with fail
        refine (times4K b b _).mono ?_
        rintro e w2 ⟨rfl, hb2⟩
        go_wp2
        go_roundw
        case rel => exact ⟨b * b, u * b, m / 2, rfl, by rw [← hd.out], rfl, by omega, hn, ⟨(hbx.out.below hb1).below hb2⟩, ⟨bl_then hb2 (bl_then hb1 hbl.out)⟩⟩
        case measure => simp [intOf]; omega

theorem inv_pw_sz {a : K} (h : a ≠ 0) : pw a (sz K - 2) = Fld.inv a := by
  apply inv_unique h
  have h2 := sz_two (K := K)
  by_cases e : sz K = 2
  · have : sz K - 2 = 0 := by omega
    rw [this]
    have h1 := fermat h
    rw [e] at h1
    simp only [pw] at h1 ⊢
    rw [one_mul] at h1
    rw [Fld.mul_one]; exact h1
  · have h1 := fermat h
    have : sz K - 1 = sz K - 2 + 1 := by omega
    rw [this, pw_succ'] at h1
    exact h1

set_option maxRecDepth 100000 in
set_option maxHeartbeats 800000 in
theorem inverse4K (a : K) (ha : a ≠ 0) (w : World) :
    Calls Try.prog 75 #[.agg #[.int .i64 (ch K), .int .i64 (sz K), .int .i64 (po K)], .int .i64 (val a)] w fun e w' => e = .returned (.int .i64 (val (Fld.inv a))) ∧ Below w.heap.size w w' := by
  have h2 := sz_two (K := K)
  have h3 := sz_max (K := K)
  have e1 : (sz K : Int) - 2 = ((sz K - 2 : Nat) : Int) := by omega
  have hp := power4K a (sz K - 2) (by omega)
  rw [inv_pw_sz ha] at hp
  obtain ⟨m, hm⟩ : ∃ m, sz K - 2 = m := ⟨_, rfl⟩
  rw [hm] at e1 hp
  have HP := As.mk hp
  clear hp hm
  go_enter Try.func75, Try.ntmps75
  go_wp2_with (go_at_call 87; refine (HP.out _).mono ?_; rintro e w1 ⟨rfl, hb⟩)
  go_ret
  refine ⟨rfl, ?_⟩
  repeat (first | exact bl_refl _ | apply bl_drew | apply bl_alloc | apply bl_then hb)

set_option maxRecDepth 100000 in
set_option maxHeartbeats 800000 in
theorem orderK (a : K) (n : Nat) (hn : IsOrd a n) (hn2 : n ≤ 4096) (w : World) :
    Calls Try.prog 103 #[.agg #[.int .i64 (ch K), .int .i64 (sz K), .int .i64 (po K)], .int .i64 (val a)] w fun e w' => e = .returned (.int .i64 n) ∧ Below w.heap.size w w' := by
  have HN := As.mk hn
  have hnp := hn.pos
  clear hn
  go_enter Try.func103, Try.ntmps103
  go_wp2
  have HBox := As.mk (Box3.new (w := w) (x := .int .i64 (ch K)) (y := .int .i64 (sz K)) (z := .int .i64 (po K)) (t := 23))
  have HBw : As (Below w.heap.size w (w.alloc (.cells #[.int .i64 (ch K), .int .i64 (sz K), .int .i64 (po K)] 23))) := ⟨bl_alloc (bl_refl _)⟩
  go_loopw [5, 6] (fun k v wr => ∃ (u : K) (m : Nat), k = .int .i64 m ∧ v = .int .i64 (val u) ∧ 1 ≤ m ∧ m ≤ n ∧ As (u = pw a m) ∧ As (Box3 wr w.heap.size (.int .i64 (ch K)) (.int .i64 (sz K)) (.int .i64 (po K))) ∧ As (Below w.heap.size w wr)) (fun k _ _ => n - (intOf k).toNat)
  case atStart => exact ⟨a, 1, rfl, rfl, by omega, by omega, ⟨(pw_1 a).symm⟩, HBox, HBw⟩
  case round =>
    obtain ⟨u, m, rfl, rfl, hm1, hm2, hu, hbx, hbl⟩ := hrel
    have hc0 := hbx.out.c0
    have hc1 := hbx.out.c1
    have hc2 := hbx.out.c2
    by_cases h1 : u = 1
    · have e : As (m = n) := ⟨by
        apply Classical.byContradiction
        intro hne
        exact HN.out.least m (by omega) (by omega) (by rw [← hu.out]; exact h1)⟩
      have hv : val u = 1 := by rw [h1, val_one]
      clear h1
      go_wp2
      go_ret
      exact ⟨ret_int (by rw [e.out]), hbl.out⟩
    · have hv : ((val u : Int) == 1) = false := beq_eq_false_iff_ne.mpr (fun e => h1 (val_inj (by rw [val_one]; omega)))
      have hv' : (val u == 1) = false := beq_eq_false_iff_ne.mpr (fun e => h1 (val_inj (by rw [val_one]; omega)))
      have hlt : m < n := by
        apply Classical.byContradiction
        intro hge
        have : m = n := by omega
        exact h1 (by rw [hu.out, this]; exact HN.out.one)
      clear h1
      go_wp2_with fail
      refine (timesK u a _).mono ?_
      rintro e w1 ⟨rfl, hb1⟩
      go_wp2
      go_roundw
      case rel => exact ⟨u * a, m + 1, by go_num, rfl, by omega, by omega, ⟨by rw [hu.out]; rfl⟩, ⟨hbx.out.below hb1⟩, ⟨bl_then hb1 hbl.out⟩⟩
      case measure => simp [intOf]; omega

set_option maxRecDepth 100000 in
set_option maxHeartbeats 800000 in
theorem order4K (a : K) (n : Nat) (hn : IsOrd a n) (hn2 : n < sz K) (w : World) :
    Calls Try.prog 104 #[.agg #[.int .i64 (ch K), .int .i64 (sz K), .int .i64 (po K)], .int .i64 (val a)] w fun e w' => e = .returned (.int .i64 n) ∧ Below w.heap.size w w' := by
  have HN := As.mk hn
  have hnp := hn.pos
  have hsz := sz_max (K := K)
  clear hn
  go_enter Try.func104, Try.ntmps104
  go_wp2
  have HBox := As.mk (Box3.new (w := w) (x := .int .i64 (ch K)) (y := .int .i64 (sz K)) (z := .int .i64 (po K)) (t := 23))
  have HBw : As (Below w.heap.size w (w.alloc (.cells #[.int .i64 (ch K), .int .i64 (sz K), .int .i64 (po K)] 23))) := ⟨bl_alloc (bl_refl _)⟩
  go_loopw [5, 6] (fun k v wr => ∃ (u : K) (m : Nat), k = .int .i64 m ∧ v = .int .i64 (val u) ∧ 1 ≤ m ∧ m ≤ n ∧ As (u = pw a m) ∧ As (Box3 wr w.heap.size (.int .i64 (ch K)) (.int .i64 (sz K)) (.int .i64 (po K))) ∧ As (Below w.heap.size w wr)) (fun k _ _ => n - (intOf k).toNat)
  case atStart => exact ⟨a, 1, rfl, rfl, by omega, by omega, ⟨(pw_1 a).symm⟩, HBox, HBw⟩
  case round =>
    obtain ⟨u, m, rfl, rfl, hm1, hm2, hu, hbx, hbl⟩ := hrel
    have hc0 := hbx.out.c0
    have hc1 := hbx.out.c1
    have hc2 := hbx.out.c2
    by_cases h1 : u = 1
    · have e : As (m = n) := ⟨by
        apply Classical.byContradiction
        intro hne
        exact HN.out.least m (by omega) (by omega) (by rw [← hu.out]; exact h1)⟩
      have hv : val u = 1 := by rw [h1, val_one]
      clear h1
      go_wp2
      go_ret
      exact ⟨ret_int (by rw [e.out]), hbl.out⟩
    · have hv : ((val u : Int) == 1) = false := beq_eq_false_iff_ne.mpr (fun e => h1 (val_inj (by rw [val_one]; omega)))
      have hv' : (val u == 1) = false := beq_eq_false_iff_ne.mpr (fun e => h1 (val_inj (by rw [val_one]; omega)))
      have hv2 : ((val u : Int) != 1) = true := bne_iff_ne.mpr (fun e => h1 (val_inj (by rw [val_one]; omega)))
      have hlt : m < n := by
        apply Classical.byContradiction
        intro hge
        have : m = n := by omega
        exact h1 (by rw [hu.out, this]; exact HN.out.one)
      have hg : decide (m < sz K) = true := decide_eq_true (by omega)
      clear h1
      go_wp2_with fail
      refine (times4K u a _).mono ?_
      rintro e w1 ⟨rfl, hb1⟩
      go_wp2
      go_roundw
      case rel => exact ⟨u * a, m + 1, by go_num, rfl, by omega, by omega, ⟨by rw [hu.out]; rfl⟩, ⟨hbx.out.below hb1⟩, ⟨bl_then hb1 hbl.out⟩⟩
      case measure => simp [intOf]; omega

theorem ord_of {a : K} (h : a ≠ 0) : ∃ n, n < sz K ∧ IsOrd a n := by
  obtain ⟨n, h1, h2⟩ := order_exists (els := nonzero K) (fun a h => mem_nonzero.mpr h) h
  rw [nonzero_length] at h1
  have := sz_two (K := K)
  exact ⟨n, by omega, h2⟩

set_option maxRecDepth 100000 in
set_option maxHeartbeats 800000 in
theorem primitive4K (w : World) :
    Calls Try.prog 86 #[.agg #[.int .i64 (ch K), .int .i64 (sz K), .int .i64 (po K)]] w fun e w' => e = .returned (.int .i64 (val (gen : K))) ∧ Below w.heap.size w w' := by
  have hsz := sz_max (K := K)
  have hs2 := sz_two (K := K)
  have hgl := val_lt (gen : K)
  have hg0 : 1 ≤ val (gen : K) := by
    have : val (gen : K) ≠ 0 := fun e => gen_ne (val_eq_zero.mp e)
    omega
  go_enter Try.func86, Try.ntmps86
  go_wp2
  have HBox := As.mk (Box3.new (w := w) (x := .int .i64 (ch K)) (y := .int .i64 (sz K)) (z := .int .i64 (po K)) (t := 23))
  have HBw : As (Below w.heap.size w (w.alloc (.cells #[.int .i64 (ch K), .int .i64 (sz K), .int .i64 (po K)] 23))) := ⟨bl_alloc (bl_refl _)⟩
  go_loopw [3] (fun k wr => ∃ (m : Nat), k = .int .i64 m ∧ 1 ≤ m ∧ m ≤ val (gen : K) ∧ As (Box3 wr w.heap.size (.int .i64 (ch K)) (.int .i64 (sz K)) (.int .i64 (po K))) ∧ As (Below w.heap.size w wr)) (fun k _ => val (gen : K) - (intOf k).toNat)
  case atStart => exact ⟨1, rfl, by omega, by omega, HBox, HBw⟩
  case round =>
    obtain ⟨m, rfl, hm1, hm2, hbx, hbl⟩ := hrel
    have hc0 := hbx.out.c0
    have hc1 := hbx.out.c1
    have hc2 := hbx.out.c2
    have hg : decide (m < sz K) = true := decide_eq_true (by omega)
    obtain ⟨u, hu⟩ : ∃ u : K, val u = m := ⟨of m, val_of m (by omega)⟩
    have hu0 : u ≠ 0 := fun e => by rw [e, val_zero] at hu; omega
    obtain ⟨n, hn1, hn2⟩ := ord_of hu0
    have hcall := order4K u n hn2 hn1
    rw [hu] at hcall
    have HC := As.mk hcall
    have HU := As.mk hu
    have HO := As.mk hn2
    clear hcall hu hn2 hu0
    have e1 : IntKind.i64.wrap ((sz K : Int) - 1) = (sz K : Int) - 1 := in64 (by omega) (by omega)
    by_cases hgen : n = sz K - 1
    · have hmg : As (m = val (gen : K)) := ⟨by
        have := gen_least u (by unfold IsGen; rw [← hgen]; exact HO.out)
        have := HU.out
        omega⟩
      have e2 : ((n : Int) == (sz K : Int) - 1) = true := beq_iff_eq.mpr (by omega)
      clear hgen
      go_wp2
      go_region_held3 (fun w' => w'.cell? ⟨w.heap.size, 0, none⟩ = some (.int .i64 (ch K)) ∧ w'.cell? ⟨w.heap.size, 1, none⟩ = some (.int .i64 (sz K)) ∧ w'.cell? ⟨w.heap.size, 2, none⟩ = some (.int .i64 (po K))) (first | go_keep | exact And.imp (cell_below hb) (And.imp (cell_below hb) (cell_below hb)) (by assumption))
        (first | (go_at_call 104; refine (HC.out _).mono ?_; rintro e w1 ⟨rfl, hb⟩))
      all_goals go_wp2
      all_goals
        go_ret
        refine ⟨ret_int (by rw [hmg.out]), ?_⟩
        exact bl_then hb (bl_drew hbl.out)
    · have hne : As (m ≠ val (gen : K)) := ⟨fun e => hgen (by
        have hug : u = gen := val_inj (by rw [HU.out, e])
        have := HO.out
        rw [hug] at this
        exact this.uniq gen_ord)⟩
      have e2 : ((n : Int) == (sz K : Int) - 1) = false := beq_eq_false_iff_ne.mpr (by omega)
      clear hgen
      go_wp2
      go_region_held3 (fun w' => w'.cell? ⟨w.heap.size, 0, none⟩ = some (.int .i64 (ch K)) ∧ w'.cell? ⟨w.heap.size, 1, none⟩ = some (.int .i64 (sz K)) ∧ w'.cell? ⟨w.heap.size, 2, none⟩ = some (.int .i64 (po K))) (first | go_keep | exact And.imp (cell_below hb) (And.imp (cell_below hb) (cell_below hb)) (by assumption))
        (first | (go_at_call 104; refine (HC.out _).mono ?_; rintro e w1 ⟨rfl, hb⟩))
      all_goals go_wp2
      all_goals
        go_roundw
        case rel => exact ⟨m + 1, by go_num, by omega, by have := hne.out; omega, ⟨hbx.out.drew.below hb⟩, ⟨bl_then hb (bl_drew hbl.out)⟩⟩
        case measure => simp [intOf]; have := hne.out; omega
end
end Go.Proofs.Ythcjmmicjbfpgaa.Rs

namespace Go.Proofs.Ythcjmmicjbfpgaa.Rs
open Go.RowKit Go.Proofs.Ythcjmmicjbfpgaa.Alg
open GF

/-- the elements of a slice -/
def RdI (w : World) (A : Option Addr) (xs : List Int) : Prop := ∀ i, i < xs.length → ∃ b o, A = some ⟨b, o, none⟩ ∧ w.cell? ⟨b, o + i, none⟩ = some (.int .i64 (xs.getD i 0))
theorem RdI.below {w w1 : World} {A : Option Addr} {xs : List Int} (h : RdI w A xs) (hb : Below w.heap.size w w1) : RdI w1 A xs := fun i hi => by
  obtain ⟨b, o, e, hc⟩ := h i hi
  exact ⟨b, o, e, cell_below hb hc⟩

section
variable {K : Type} [GF K]
def RdK (w : World) (A : Option Addr) (xs : List K) : Prop := ∀ i, i < xs.length → ∃ b o, A = some ⟨b, o, none⟩ ∧ w.cell? ⟨b, o + i, none⟩ = some (.int .i64 (val (atl xs i)))
theorem RdK.below {w w1 : World} {A : Option Addr} {xs : List K} (h : RdK w A xs) (hb : Below w.heap.size w w1) : RdK w1 A xs := fun i hi => by
  obtain ⟨b, o, e, hc⟩ := h i hi
  exact ⟨b, o, e, cell_below hb hc⟩
theorem RdK.nil {w : World} {A : Option Addr} : RdK w A ([] : List K) := fun i hi => by simp at hi

/-- a row of the call's own -/
def OwnK (w : World) (B : Nat) (v : Value) (xs : List K) : Prop := w.ownsRow B 3 1 v xs.length (xs.map (fun a => Value.int .i64 (val a)))
theorem OwnK.read {w : World} {B : Nat} {v : Value} {xs : List K} (h : OwnK w B v xs) : ∃ A c, v = .slice A xs.length c ∧ xs.length ≤ c ∧ c ≤ maxLen ∧ RdK w A xs := by
  rcases h.2 with ⟨h1, h2⟩ | ⟨g, cap, cur, h1, h2, h3, h4, h5, h6, h7⟩
  · have : xs = [] := List.length_eq_zero_iff.mp h2
    subst this
    exact ⟨none, 0, h1, Nat.le_refl _, by simp [maxLen], RdK.nil⟩
  · subst h1
    refine ⟨_, cap, rfl, h4, h5, fun i hi => ⟨g, 0, rfl, ?_⟩⟩
    have := World.ownsRow.cellAt (w := w) (base := B) (e := 3) (size := 1) (g := g) (cap := cap) h i (by omega)
    rw [Nat.zero_add, this]
    simp only [List.getElem?_map, atl, List.getD_eq_getElem?_getD]
    rw [List.getElem?_eq_getElem hi]
    rfl

theorem vi_valid : viB (ch K : Int) (sz K : Int) (po K : Int) = true := viB_true.mpr ⟨_, _, _, rfl, rfl, rfl, valid⟩
theorem validK (w : World) : Calls Try.prog 28 #[.agg #[.int .i64 (ch K), .int .i64 (sz K), .int .i64 (po K)]] w fun e w' => e = .returned (.bool true) ∧ Below w.heap.size w w' :=
  calls_eq (valid_any _ _ _ w) vi_valid
theorem valid4K (w : World) : Calls Try.prog 29 #[.agg #[.int .i64 (ch K), .int .i64 (sz K), .int .i64 (po K)]] w fun e w' => e = .returned (.bool true) ∧ Below w.heap.size w w' :=
  calls_eq (valid4_any _ _ _ (by have := sz_max (K := K); omega) w) vi_valid

set_option maxRecDepth 100000 in
set_option maxHeartbeats 800000 in
theorem memberK (A : Option Addr) (c : Nat) (xs : List K) (w : World) (hr : RdK w A xs) (hl : xs.length ≤ 1000) :
    Calls Try.prog 84 #[.agg #[.int .i64 (ch K), .int .i64 (sz K), .int .i64 (po K)], .slice A xs.length c] w fun e w' => e = .returned (.bool true) ∧ Below w.heap.size w w' := by
  have HR := As.mk hr
  have hsz := sz_max (K := K)
  clear hr
  go_enter Try.func84, Try.ntmps84
  go_wp2
  have HBox := As.mk (Box3.new (w := w) (x := .int .i64 (ch K)) (y := .int .i64 (sz K)) (z := .int .i64 (po K)) (t := 23))
  have HBw : As (Below w.heap.size w (w.alloc (.cells #[.int .i64 (ch K), .int .i64 (sz K), .int .i64 (po K)] 23))) := ⟨bl_alloc (bl_refl _)⟩
  go_loopw [9] (fun k wr => ∃ (m : Nat), k = .int .i64 m ∧ m ≤ xs.length ∧ As (Box3 wr w.heap.size (.int .i64 (ch K)) (.int .i64 (sz K)) (.int .i64 (po K))) ∧ As (Below w.heap.size w wr)) (fun k _ => xs.length - (intOf k).toNat)
  case atStart => exact ⟨0, rfl, by omega, HBox, HBw⟩
  case round =>
    obtain ⟨m, rfl, hm, hbx, hbl⟩ := hrel
    have hc0 := hbx.out.c0
    have hc1 := hbx.out.c1
    have hc2 := hbx.out.c2
    by_cases hlt : m < xs.length
    · have hd : decide (m < xs.length) = true := decide_eq_true hlt
      obtain ⟨b, o, rfl, hcell⟩ := (HR.out.below hbl.out) m hlt
      have hv := val_lt (atl xs m)
      obtain ⟨u, hu⟩ : ∃ u, val (atl xs m) = u := ⟨_, rfl⟩
      rw [hu] at hcell hv
      clear hu
      have g1 : decide ((u : Int) < 0) = false := decide_eq_false (by omega)
      have g2 : decide (sz K ≤ u) = false := decide_eq_false (by omega)
      go_wp2
      go_roundw
      case rel => exact ⟨m + 1, by go_num, by omega, hbx, hbl⟩
      case measure => simp [intOf]; omega
    · have hd : decide (m < xs.length) = false := decide_eq_false hlt
      go_wp2_with fail
      refine (validK _).mono ?_
      rintro e w1 ⟨rfl, hb1⟩
      go_wp2
      go_ret
      exact ⟨rfl, bl_then hb1 hbl.out⟩

set_option maxRecDepth 100000 in
set_option maxHeartbeats 800000 in
theorem mulK (a b : K) (w : World) :
    Calls Try.prog 64 #[.agg #[.int .i64 (ch K), .int .i64 (sz K), .int .i64 (po K)], .int .i64 (val a), .int .i64 (val b)] w fun e w' => e = .returned (.tuple #[.int .i64 (val (a * b)), .int .i64 0]) ∧ Below w.heap.size w w' := by
  go_enter Try.func64, Try.ntmps64
  go_wp2_with fail
  refine (memberK (K := K) _ _ [a, b] _ ?rd (by simp)).mono ?_
  case rd =>
    intro i hi
    refine ⟨_, _, rfl, ?_⟩
    have : i = 0 ∨ i = 1 := by simp at hi; omega
    rcases this with rfl | rfl <;> go_simp <;> rfl
  rintro e w1 ⟨rfl, hb⟩
  obtain ⟨hc, hf⟩ := bcell hb
  go_wp2_with fail
  refine (timesK a b _).mono ?_
  rintro e w2 ⟨rfl, hb2⟩
  go_wp2
  go_ret2
  refine ⟨rfl, ?_⟩
  repeat (first | exact bl_refl _ | apply bl_drew | apply bl_alloc | apply bl_then hb2 | apply bl_then hb)
end
end Go.Proofs.Ythcjmmicjbfpgaa.Rs
