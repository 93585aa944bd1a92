/-
Words for the walks: what slices read, and small facts on numbers as the walk spells them.
The walks of package galois: which fields are valid.
The walk of galois.Valid: it tells whether a field is valid.
The walks of the reference's layer 4: which fields are valid.
The walk of the reference's Valid: it tells whether a field is valid.
-/
import Derived.Test.YthcjmmicjbfpgaaProg
import Derived.Test.YthcjmmicjbfpgaaJAb
import Derived.Below
import Derived.Deep.Draws
import Derived.OwnWalk
import Derived.Tactics
import Derived.Laws.Slices
import Derived.Laws.MakeOwn
import Derived.Laws.OwnMore
import Derived.WalkKit
import Derived.KernelRfl
import Derived.RowKit3
import Derived.Deep.LoopGhost
import Derived.Deep.QuietTactic
import Derived.BigQuiet
import Derived.Deep.DeepCutAuto
import Derived.Laws.BitsLemmas
import Derived.Outline
import Derived.Handy
import Derived.StillTailTactics
import Derived.Deep.RegionHeld3
import Derived.Deep.RegionWith
import Derived.IntWalk
namespace Go.Proofs.Ythcjmmicjbfpgaa.Rs
open Go.RowKit Go.Proofs.Ythcjmmicjbfpgaa.Alg

/-- a fact that the walk doesn't look into -/
structure As (p : Prop) : Prop where mk :: (out : p)

theorem ret_int {k : IntKind} {a b : Int} (h : a = b) : Ending.returned (.int k a) = .returned (.int k b) := by rw [h]
theorem ret_bool {a b : Bool} (h : a = b) : Ending.returned (.bool a) = .returned (.bool b) := by rw [h]

theorem in64 {a : Int} (h : -9223372036854775808 ≤ a) (h2 : a ≤ 9223372036854775807) : IntKind.i64.wrap a = a := IntWalk.i64_in a ⟨h, h2⟩

theorem bits64 {a b : Nat} (ha : a < 2 ^ 62) (hb : b < 2 ^ 62) : bits .xor .i64 (a : Int) (b : Int) = ((a ^^^ b : Nat) : Int) ∧ bits .and .i64 (a : Int) (b : Int) = ((a &&& b : Nat) : Int) := by
  have h1 : a % 2 ^ IntKind.i64.bits = a := Nat.mod_eq_of_lt (by show a < 2 ^ 64; omega)
  have h2 : b % 2 ^ IntKind.i64.bits = b := Nat.mod_eq_of_lt (by show b < 2 ^ 64; omega)
  have h3 : a ^^^ b < 2 ^ 62 := Nat.xor_lt_two_pow ha hb
  have h4 : a &&& b < 2 ^ 62 := Nat.and_lt_two_pow _ hb
  constructor
  · simp only [bits, BitVec.ofInt_natCast, BitVec.toNat_xor, BitVec.toNat_ofNat, h1, h2]
    exact in64 (by omega) (by omega)
  · simp only [bits, BitVec.ofInt_natCast, BitVec.toNat_and, BitVec.toNat_ofNat, h1, h2]
    exact in64 (by omega) (by omega)
theorem bits64_xor {a b : Nat} (ha : a < 2 ^ 62) (hb : b < 2 ^ 62) : bits .xor .i64 (a : Int) (b : Int) = ((a ^^^ b : Nat) : Int) := (bits64 ha hb).1
theorem bits64_and1 {a : Nat} (ha : a < 2 ^ 62) : bits .and .i64 (a : Int) 1 = ((a % 2 : Nat) : Int) := by
  have := (bits64 (b := 1) ha (by omega)).2
  rw [Nat.and_one_is_mod] at this
  exact this

theorem shl64 {D k n : Nat} (h : D <<< k < 2 ^ 62) (hk : (n : Int) = k) : IntKind.i64.wrap ((D : Int) * 2 ^ n) = ((D <<< k : Nat) : Int) := by
  have : n = k := by omega
  subst this
  rw [Nat.shiftLeft_eq] at h ⊢
  rw [Int.natCast_mul, Int.natCast_pow]
  have h2 : ((D * 2 ^ n : Nat) : Int) = (D : Int) * (2 : Int) ^ n := by rw [Int.natCast_mul, Int.natCast_pow]; rfl
  exact in64 (by rw [← h2]; omega) (by rw [← h2]; omega)

theorem bcell {W w1 : World} (hb : Below W.heap.size W w1) : (∀ b o, b < W.heap.size → w1.cell? ⟨b, o, none⟩ = W.cell? ⟨b, o, none⟩) ∧ (∀ b o, b < W.heap.size → w1.frozen? ⟨b, o, none⟩ = W.frozen? ⟨b, o, none⟩) :=
  ⟨fun b o h => hb.cell (p := ⟨b, o, none⟩) h, fun b o h => hb.frozen (p := ⟨b, o, none⟩) h⟩

theorem cell_below {W w1 : World} (hb : Below W.heap.size W w1) {a : Addr} {v : Value} (h : W.cell? a = some v) : w1.cell? a = some v :=
  (hb.cell (World.block_lt_of_cell? W a h)).trans h

/-! what was there before the call is as it was: the goal's world, taken apart -/
theorem bl_refl (w : World) : Below w.heap.size w w := Below.refl _ _
theorem bl_alloc {w W : World} {o : Obj} (h : Below w.heap.size w W) : Below w.heap.size w (W.alloc o) := h.alloc h.size o
theorem bl_drew {w W : World} (h : Below w.heap.size w W) : Below w.heap.size w W.drew := h.drew
theorem bl_drewN {w W : World} {n : Nat} (h : Below w.heap.size w W) : Below w.heap.size w (W.drewN n) := ⟨h.os, h.tape, h.output, h.size, h.block⟩
theorem bl_set {w W : World} {p : Addr} {u : Value} (hp : w.heap.size ≤ p.block) (h : Below w.heap.size w W) : Below w.heap.size w (W.setCell p u) := h.setCell hp u
theorem bl_then {w W w1 : World} (k : Below W.heap.size W w1) (h : Below w.heap.size w W) : Below w.heap.size w w1 := h.trans (k.mono h.size)

theorem len_half {m : Nat} (h : m ≠ 0) : len m = len (m / 2) + 1 := by
  have h1 : 0 < len m := lt_len.mpr (by simp; omega)
  apply Nat.le_antisymm
  · rw [len_le, Nat.pow_succ]
    have := len_le.mp (Nat.le_refl (len (m / 2)))
    omega
  · have : len (m / 2) ≤ len m - 1 := len_le.mpr (by
      have := len_le.mp (Nat.le_refl (len m))
      have e : len m = (len m - 1) + 1 := by omega
      rw [e, Nat.pow_succ] at this
      omega)
    omega
theorem len_bd {m k : Nat} (h : m < 2 ^ k) : len m ≤ k := len_le.mpr h
end Go.Proofs.Ythcjmmicjbfpgaa.Rs

namespace Go.Proofs.Ythcjmmicjbfpgaa.Rs
open Go.RowKit Go.Proofs.Ythcjmmicjbfpgaa.Alg

set_option maxHeartbeats 400000 in
theorem length_any (n : Nat) (hn : n < 2 ^ 62) (w : World) :
    Calls Try.prog 57 #[.int .i64 n] w fun e w' => e = .returned (.int .i64 (len n)) ∧ w = w' := by
  have hb := len_bd hn
  go_enter Try.func57, Try.ntmps57
  go_wp2
  go_loop [0, 3] (fun v k => ∃ m j : Nat, v = .int .i64 m ∧ k = .int .i64 j ∧ As (j + len m = len n) ∧ m < 4611686018427387904) (fun v _ => (intOf v).toNat)
  case atStart => exact ⟨n, 0, rfl, rfl, ⟨by simp⟩, by omega⟩
  case round =>
    obtain ⟨m, j, rfl, rfl, hj, hm⟩ := hrel
    have hj1 : j ≤ 62 := by have := hj.out; omega
    by_cases h0 : m = 0
    · subst h0
      go_wp2
      go_ret
      have := hj.out
      rw [len_zero] at this
      exact ⟨by rw [← this]; rfl, rfl⟩
    · have hpos : (0 : Int) < m := by omega
      have hl := As.mk (len_half h0)
      have hd : As (((m : Int) / 2) = ((m / 2 : Nat) : Int)) := ⟨by omega⟩
      go_wp2
      go_round
      case rel => exact ⟨m / 2, j + 1, by rw [← hd.out], by go_num, ⟨by have := hj.out; have := hl.out; omega⟩, by omega⟩
      case measure => simp [intOf]; omega

set_option maxHeartbeats 400000 in
theorem reduce_any (v D : Nat) (hv : v < 2 ^ 61) (hD : D < 2 ^ 61) (hD0 : D ≠ 0) (w : World) :
    Calls Try.prog 102 #[.int .i64 v, .int .i64 D] w fun e w' => e = .returned (.int .i64 (rem v v D)) ∧ w = w' := by
  have hlD := len_bd hD
  have hlv := len_bd hv
  have hlp : 1 ≤ len D := lt_len.mpr (by simp; omega)
  go_enter Try.func102, Try.ntmps102
  go_wp2_with (go_at_call 57; refine (length_any _ (by omega) _).mono ?_; rintro e w' ⟨rfl, rfl⟩)
  go_loop [0, 6] (fun x k => ∃ m : Nat, x = .int .i64 m ∧ k = .int .i64 (len m) ∧ As (rem m m D = rem v v D) ∧ m < 2305843009213693952) (fun x _ => (intOf x).toNat)
  case atStart => exact ⟨v, rfl, rfl, ⟨rfl⟩, by omega⟩
  case round =>
    obtain ⟨m, rfl, rfl, hr, hm⟩ := hrel
    have hlm := len_bd (k := 61) (show m < 2 ^ 61 by omega)
    by_cases hc : len D ≤ len m
    · obtain ⟨k, hk⟩ : ∃ k, len m - len D = k := ⟨_, rfl⟩
      have hs := As.mk (rem_step hD0 hc)
      have hx := As.mk (xor_shift_lt hD0 hc)
      rw [hk] at hs hx
      have hsh : D <<< k < 2 ^ 61 := by
        have := len_le (n := D <<< k) (k := 61)
        rw [len_shift hD0] at this
        omega
      have e1 : ((len m : Nat) : Int) - ((len D : Nat) : Int) = (k : Int) := by omega
      have e2 := shl64 (D := D) (k := k) (n := k) (by omega) rfl
      obtain ⟨y, hy⟩ : ∃ y, D <<< k = y := ⟨_, rfl⟩
      rw [hy] at e2 hsh hs hx
      have e3 : bits .xor .i64 (m : Int) (y : Int) = ((m ^^^ y : Nat) : Int) := bits64_xor (by omega) (by omega)
      obtain ⟨z, hz⟩ : ∃ z, m ^^^ y = z := ⟨_, rfl⟩
      rw [hz] at e3 hs hx
      have hlt : z < m := by have := hx.out; omega
      clear hsh hk hy hz
      have hdec : decide (len D ≤ len m) = true := decide_eq_true hc
      have hk0 : (0 : Int) ≤ k := by omega
      go_wp2_with (go_at_call 57; refine (length_any z (by omega) _).mono ?_; rintro e w' ⟨rfl, rfl⟩)
      go_round
      case rel => exact ⟨z, rfl, rfl, ⟨by rw [← hs.out]; exact hr.out⟩, by omega⟩
      case measure => simp [intOf]; omega
    · have hdec : decide (len D ≤ len m) = false := decide_eq_false hc
      go_wp2
      go_ret
      exact ⟨ret_int (by rw [← hr.out, rem_end (by omega)]), rfl⟩

theorem len_mono {a b : Nat} (h : a ≤ b) : len a ≤ len b := len_le.mpr (Nat.lt_of_le_of_lt h (len_le.mp (Nat.le_refl _)))
open Classical in
/-- is a polynomial irreducible? -/
noncomputable def irrB (P d : Nat) : Bool := decide (Irr P d)
theorem irrB_true {P d : Nat} : irrB P d = true ↔ Irr P d := by unfold irrB; simp
theorem irrB_false {P d : Nat} : irrB P d = false ↔ ¬ Irr P d := by unfold irrB; simp

set_option maxHeartbeats 400000 in
theorem irreducible_any (P d : Nat) (hP : len P = d + 1) (h1 : 1 ≤ d) (h2 : d ≤ 12) (w : World) :
    Calls Try.prog 81 #[.int .i64 P] w fun e w' => e = .returned (.bool (irrB P d)) ∧ w = w' := by
  have hP2 : P < 2 ^ 13 := len_le.mp (by omega)
  have HP := As.mk hP
  clear hP
  have e0 : ((len P : Nat) : Int) = (d : Int) + 1 := by have := HP.out; omega
  go_enter Try.func81, Try.ntmps81
  go_wp2_with (go_at_call 57; refine (length_any _ (by omega) _).mono ?_; rintro e w' ⟨rfl, rfl⟩)
  clear e0
  go_loop [4] (fun x => ∃ m : Nat, x = .int .i64 m ∧ 2 ≤ m ∧ m ≤ 128 ∧ As (∀ D, 2 ≤ D → D < m → 2 * (len D - 1) ≤ d → rem P P D ≠ 0)) (fun x => (200 - intOf x).toNat)
  case atStart => exact ⟨2, rfl, by omega, by omega, ⟨fun D h1 h2 => by omega⟩⟩
  case round =>
    obtain ⟨m, rfl, hm2, hm3, hr⟩ := hrel
    obtain ⟨l, hl⟩ : ∃ l, len m = l := ⟨_, rfl⟩
    have hl1 : l ≤ 8 := by rw [← hl]; exact len_le.mpr (by omega)
    have hl2 : 2 ≤ l := by rw [← hl]; exact lt_len.mpr (by simp; omega)
    have HL := As.mk hl
    have hlen := length_any m (by omega) w
    rw [hl] at hlen
    have HLN := As.mk hlen
    clear hl hlen
    by_cases hc : 2 * (l - 1) ≤ d
    · have hd : decide (2 * ((l : Int) - 1) ≤ (d : Int)) = true := decide_eq_true (by omega)
      have hm : m < 128 := by
        have : len m ≤ 7 := by have := HL.out; omega
        exact len_le.mp this
      obtain ⟨r, hrr⟩ : ∃ r, rem P P m = r := ⟨_, rfl⟩
      have hred := reduce_any P m (by omega) (by omega) (by omega) w
      rw [hrr] at hred
      have HR := As.mk hrr
      have HRD := As.mk hred
      clear hrr hred
      by_cases hz : r = 0
      · subst hz
        go_wp2_with (first | (go_at_call 57; refine HLN.out.mono ?_; rintro e w' ⟨rfl, rfl⟩) | (go_at_call 102; refine HRD.out.mono ?_; rintro e w' ⟨rfl, rfl⟩))
        go_ret
        exact ⟨ret_bool (irrB_false.mpr (fun h => h m hm2 (by have := HL.out; omega) HR.out)).symm, rfl⟩
      · have hz2 : ((r : Int) == 0) = false := beq_eq_false_iff_ne.mpr (by omega)
        go_wp2_with (first | (go_at_call 57; refine HLN.out.mono ?_; rintro e w' ⟨rfl, rfl⟩) | (go_at_call 102; refine HRD.out.mono ?_; rintro e w' ⟨rfl, rfl⟩))
        go_round
        case rel => exact ⟨m + 1, by go_num, by omega, by omega, ⟨fun D h1 h2 h3 => by
          by_cases e : D = m
          · rw [e, HR.out]; exact hz
          · exact hr.out D h1 (by omega) h3⟩⟩
        case measure => simp [intOf]; omega
    · have hd : decide (2 * ((l : Int) - 1) ≤ (d : Int)) = false := decide_eq_false (by omega)
      go_wp2_with (first | (go_at_call 57; refine HLN.out.mono ?_; rintro e w' ⟨rfl, rfl⟩))
      go_ret
      exact ⟨ret_bool (irrB_true.mpr (fun D h1 h2 => by
        by_cases c : D < m
        · exact hr.out D h1 c h2
        · have := len_mono (show m ≤ D by omega)
          have := HL.out
          omega)).symm, rfl⟩

open Classical in
/-- is a number a prime? -/
noncomputable def priB (p : Nat) : Bool := decide (Pri p)
theorem priB_true {p : Nat} : priB p = true ↔ Pri p := by unfold priB; simp
theorem priB_false {p : Nat} : priB p = false ↔ ¬ Pri p := by unfold priB; simp

set_option maxHeartbeats 400000 in
theorem prime_any (p : Nat) (h2 : 2 ≤ p) (hp : p ≤ 4096) (w : World) :
    Calls Try.prog 82 #[.int .i64 p] w fun e w' => e = .returned (.bool (priB p)) ∧ w = w' := by
  go_enter Try.func82, Try.ntmps82
  go_wp2
  go_loop [3] (fun x => ∃ m : Nat, x = .int .i64 m ∧ 2 ≤ m ∧ m ≤ 65 ∧ As (∀ D, 2 ≤ D → D < m → D * D ≤ p → p % D ≠ 0)) (fun x => (100 - intOf x).toNat)
  case atStart => exact ⟨2, rfl, by omega, by omega, ⟨fun D h1 h2 => by omega⟩⟩
  case round =>
    obtain ⟨m, rfl, hm2, hm3, hr⟩ := hrel
    obtain ⟨q, hq⟩ : ∃ q, m * m = q := ⟨_, rfl⟩
    have e1 : (m : Int) * (m : Int) = (q : Int) := by rw [← hq, Int.natCast_mul]
    have hq1 : q ≤ 4225 := by
      rw [← hq]; have := Nat.mul_le_mul hm3 hm3; omega
    have HQ := As.mk hq
    clear hq
    by_cases hc : q ≤ p
    · have hd : decide (q ≤ p) = true := decide_eq_true hc
      have hm : m ≤ 64 := by
        apply Classical.byContradiction
        intro h
        have := HQ.out
        have := Nat.mul_le_mul (show 65 ≤ m by omega) (show 65 ≤ m by omega)
        omega
      obtain ⟨r, hrr⟩ : ∃ r, p % m = r := ⟨_, rfl⟩
      have e2 : (p : Int) % (m : Int) = (r : Int) := by rw [← hrr, Int.natCast_emod]
      have HR := As.mk hrr
      clear hrr
      by_cases hz : r = 0
      · subst hz
        go_wp2
        go_ret
        exact ⟨ret_bool (priB_false.mpr (fun h => h m hm2 (by have := HQ.out; omega) HR.out)).symm, rfl⟩
      · have hz2 : ((r : Int) == 0) = false := beq_eq_false_iff_ne.mpr (by omega)
        go_wp2
        go_round
        case rel => exact ⟨m + 1, by go_num, by omega, by omega, ⟨fun D h1 h2 h3 => by
          by_cases e : D = m
          · rw [e, HR.out]; exact hz
          · exact hr.out D h1 (by omega) h3⟩⟩
        case measure => simp [intOf]; omega
    · have hd : decide (q ≤ p) = false := decide_eq_false hc
      have hd2 : decide ((2 : Int) ≤ (p : Int)) = true := decide_eq_true (by omega)
      go_wp2
      go_ret
      exact ⟨ret_bool (priB_true.mpr (fun D h1 h2 => by
        by_cases c : D < m
        · exact hr.out D h1 c h2
        · have := HQ.out
          have := Nat.mul_le_mul (show m ≤ D by omega) (show m ≤ D by omega)
          omega)).symm, rfl⟩

theorem pow64 {d q : Nat} (h : q = 2 ^ d) (hd : d ≤ 12) : IntKind.i64.wrap ((2 : Int) ^ d) = (q : Int) ∧ IntKind.i64.wrap (2 * (2 : Int) ^ d) = ((2 * q : Nat) : Int) ∧ q ≤ 4096 ∧ 1 ≤ q := by
  have h1 : 2 ^ d ≤ 2 ^ 12 := Nat.pow_le_pow_right (by omega) hd
  have h2 := Nat.two_pow_pos d
  have e : (2 : Int) ^ d = (q : Int) := by rw [h, Int.natCast_pow]; rfl
  rw [e]
  exact ⟨in64 (by omega) (by omega), by rw [in64 (by omega) (by omega)]; omega, by omega, by omega⟩

set_option maxHeartbeats 400000 in
theorem binary_no (d : Nat) (h1 : 1 ≤ d) (h2 : d ≤ 12) (P : Int) (h : ¬ ∃ p : Nat, P = p ∧ 2 ^ d ≤ p ∧ p < 2 ^ (d + 1) ∧ Irr p d) (w : World) :
    Calls Try.prog 56 #[.int .i64 d, .int .i64 P] w fun e w' => e = .returned (.tuple #[.agg #[.int .i64 0, .int .i64 0, .int .i64 0], .int .i64 38]) ∧ Below w.heap.size w w' := by
  obtain ⟨q, hq⟩ : ∃ q, q = 2 ^ d := ⟨_, rfl⟩
  obtain ⟨p1, p2, p3, p4⟩ := pow64 hq h2
  rw [Nat.pow_succ, ← hq] at h
  have HQ := As.mk hq
  clear hq
  have g1 : decide ((d : Int) < 1) = false := decide_eq_false (by omega)
  have g2 : decide ((12 : Int) < (d : Int)) = false := decide_eq_false (by omega)
  by_cases c1 : P < q
  · have t1 : decide (P < (q : Int)) = true := decide_eq_true c1
    go_enter Try.func56, Try.ntmps56
    go_wp2
    exact bodyPost_ret (v := .tuple #[.agg #[.int .i64 0, .int .i64 0, .int .i64 0], .int .i64 38]) (by simp [results, Try.results56, go_sem]) rfl ⟨rfl, ((Below.refl _ _).alloc (Nat.le_refl _) _)⟩
  · have t1 : decide (P < (q : Int)) = false := decide_eq_false c1
    obtain ⟨p, rfl⟩ : ∃ p : Nat, P = p := ⟨P.toNat, by omega⟩
    by_cases c2 : 2 * q ≤ p
    · have t2 : decide (((2 * q : Nat) : Int) ≤ (p : Int)) = true := decide_eq_true (by omega)
      have t3 : decide (2 * q ≤ p) = true := decide_eq_true (by omega)
      have t4 : decide (p < q) = false := decide_eq_false (by omega)
      have t5 : decide (2 * (q : Int) ≤ (p : Int)) = true := decide_eq_true (by omega)
      go_enter Try.func56, Try.ntmps56
      go_wp2
      exact bodyPost_ret (v := .tuple #[.agg #[.int .i64 0, .int .i64 0, .int .i64 0], .int .i64 38]) (by simp [results, Try.results56, go_sem]) rfl ⟨rfl, ((Below.refl _ _).alloc (Nat.le_refl _) _)⟩
    · have t2 : decide (((2 * q : Nat) : Int) ≤ (p : Int)) = false := decide_eq_false (by omega)
      have t3 : decide (2 * q ≤ p) = false := decide_eq_false (by omega)
      have t4 : decide (p < q) = false := decide_eq_false (by omega)
      have t5 : decide (2 * (q : Int) ≤ (p : Int)) = false := decide_eq_false (by omega)
      have hir : irrB p d = false := irrB_false.mpr (fun hi => h ⟨p, rfl, by omega, by omega, hi⟩)
      have hlen : len p = d + 1 := by
        have := HQ.out
        have a1 : d < len p := lt_len.mpr (by omega)
        have a2 : len p ≤ d + 1 := len_le.mpr (by rw [Nat.pow_succ]; omega)
        omega
      have hcall := irreducible_any p d hlen h1 h2
      rw [hir] at hcall
      have HC := As.mk hcall
      clear hlen hcall hir
      go_enter Try.func56, Try.ntmps56
      go_wp2_with (go_at_call 81; refine (HC.out _).mono ?_; rintro e w' ⟨rfl, rfl⟩)
      exact bodyPost_ret (v := .tuple #[.agg #[.int .i64 0, .int .i64 0, .int .i64 0], .int .i64 38]) (by simp [results, Try.results56, go_sem]) rfl ⟨rfl, ((Below.refl _ _).alloc (Nat.le_refl _) _)⟩

set_option maxHeartbeats 400000 in
theorem binary_yes (d : Nat) (h1 : 1 ≤ d) (h2 : d ≤ 12) (p q : Nat) (hq : q = 2 ^ d) (hp : q ≤ p) (hp2 : p < 2 * q) (hi : Irr p d) (w : World) :
    Calls Try.prog 56 #[.int .i64 d, .int .i64 p] w fun e w' => e = .returned (.tuple #[.agg #[.int .i64 2, .int .i64 q, .int .i64 p], .int .i64 0]) ∧ Below w.heap.size w w' := by
  obtain ⟨p1, p2, p3, p4⟩ := pow64 hq h2
  have HQ := As.mk hq
  clear hq
  have g1 : decide ((d : Int) < 1) = false := decide_eq_false (by omega)
  have g2 : decide ((12 : Int) < (d : Int)) = false := decide_eq_false (by omega)
  have t2 : decide (((2 * q : Nat) : Int) ≤ (p : Int)) = false := decide_eq_false (by omega)
  have t3 : decide (2 * q ≤ p) = false := decide_eq_false (by omega)
  have t4 : decide (p < q) = false := decide_eq_false (by omega)
  have t5 : decide (2 * (q : Int) ≤ (p : Int)) = false := decide_eq_false (by omega)
  have hlen : len p = d + 1 := by
    have := HQ.out
    have a1 : d < len p := lt_len.mpr (by omega)
    have a2 : len p ≤ d + 1 := len_le.mpr (by rw [Nat.pow_succ]; omega)
    omega
  have hcall := irreducible_any p d hlen h1 h2
  rw [irrB_true.mpr hi] at hcall
  have HC := As.mk hcall
  clear hlen hcall hi
  go_enter Try.func56, Try.ntmps56
  go_wp2_with (go_at_call 81; refine (HC.out _).mono ?_; rintro e w' ⟨rfl, rfl⟩)
  exact bodyPost_ret (v := .tuple #[.agg #[.int .i64 2, .int .i64 q, .int .i64 p], .int .i64 0]) (by simp [results, Try.results56, go_sem]) rfl ⟨rfl, ((Below.refl _ _).alloc (Nat.le_refl _) _)⟩

set_option maxHeartbeats 400000 in
theorem prime_field (p : Nat) (h3 : 3 ≤ p) (hp : p ≤ 4096) (h : Pri p) (w : World) :
    Calls Try.prog 58 #[.int .i64 p] w fun e w' => e = .returned (.tuple #[.agg #[.int .i64 p, .int .i64 p, .int .i64 0], .int .i64 0]) ∧ Below w.heap.size w w' := by
  have g1 : decide ((p : Int) < 2) = false := decide_eq_false (by omega)
  have g2 : decide ((4096 : Int) < (p : Int)) = false := decide_eq_false (by omega)
  have g3 : ((p : Int) == 2) = false := beq_eq_false_iff_ne.mpr (by omega)
  have hcall := prime_any p (by omega) hp
  rw [priB_true.mpr h] at hcall
  have HC := As.mk hcall
  clear hcall
  go_enter Try.func58, Try.ntmps58
  go_wp2_with (go_at_call 82; refine (HC.out _).mono ?_; rintro e w' ⟨rfl, rfl⟩)
  exact bodyPost_ret (v := .tuple #[.agg #[.int .i64 p, .int .i64 p, .int .i64 0], .int .i64 0]) (by simp [results, Try.results58, go_sem]) rfl ⟨rfl, ((Below.refl _ _).alloc (Nat.le_refl _) _)⟩

set_option maxHeartbeats 400000 in
theorem prime_field_two (w : World) :
    Calls Try.prog 58 #[.int .i64 2] w fun e w' => e = .returned (.tuple #[.agg #[.int .i64 2, .int .i64 2, .int .i64 2], .int .i64 0]) ∧ Below w.heap.size w w' := by
  have hir : Irr 2 1 := by
    intro D h2 hd
    have : 2 ≤ len D := lt_len.mpr (by simp; omega)
    omega
  have hpr : Pri 2 := by
    intro d h2 hd
    have := Nat.mul_le_mul h2 h2
    omega
  have hcall := prime_any 2 (by omega) (by omega)
  rw [priB_true.mpr hpr] at hcall
  have HC := As.mk hcall
  have HB := As.mk (binary_yes 1 (by omega) (by omega) 2 2 rfl (by omega) (by omega) hir)
  clear hcall hir hpr
  go_enter Try.func58, Try.ntmps58
  go_wp2_with (first | (go_at_call 82; refine (HC.out _).mono ?_; rintro e w' ⟨rfl, rfl⟩) | (go_at_call 56; refine (HB.out _).mono ?_; rintro e w1 ⟨rfl, hb⟩; obtain ⟨hc, hf⟩ := bcell hb))
  exact bodyPost_ret (v := .tuple #[.agg #[.int .i64 2, .int .i64 2, .int .i64 2], .int .i64 0]) (by simp [results, Try.results58, go_sem, hc]) rfl ⟨rfl, ((((((Below.refl _ _).alloc (Nat.le_refl _) _)).trans (hb.mono (by simp))).setCell (by simp) _).setCell (by simp) _).setCell (by simp) _⟩

set_option maxHeartbeats 400000 in
theorem prime_field_range (p : Int) (h : p < 2 ∨ 4096 < p) (w : World) :
    Calls Try.prog 58 #[.int .i64 p] w fun e w' => e = .returned (.tuple #[.agg #[.int .i64 0, .int .i64 0, .int .i64 0], .int .i64 3]) ∧ Below w.heap.size w w' := by
  rcases h with h | h
  · have g1 : decide (p < 2) = true := decide_eq_true h
    go_enter Try.func58, Try.ntmps58
    go_wp2
    exact bodyPost_ret (v := .tuple #[.agg #[.int .i64 0, .int .i64 0, .int .i64 0], .int .i64 3]) (by simp [results, Try.results58, go_sem]) rfl ⟨rfl, ((Below.refl _ _).alloc (Nat.le_refl _) _)⟩
  · have g1 : decide (p < 2) = false := decide_eq_false (by omega)
    have g2 : decide (4096 < p) = true := decide_eq_true h
    go_enter Try.func58, Try.ntmps58
    go_wp2
    exact bodyPost_ret (v := .tuple #[.agg #[.int .i64 0, .int .i64 0, .int .i64 0], .int .i64 3]) (by simp [results, Try.results58, go_sem]) rfl ⟨rfl, ((Below.refl _ _).alloc (Nat.le_refl _) _)⟩

set_option maxHeartbeats 400000 in
theorem prime_field_no (p : Nat) (h2 : 2 ≤ p) (hp : p ≤ 4096) (h : ¬ Pri p) (w : World) :
    Calls Try.prog 58 #[.int .i64 p] w fun e w' => e = .returned (.tuple #[.agg #[.int .i64 0, .int .i64 0, .int .i64 0], .int .i64 1]) ∧ Below w.heap.size w w' := by
  have g1 : decide ((p : Int) < 2) = false := decide_eq_false (by omega)
  have g2 : decide ((4096 : Int) < (p : Int)) = false := decide_eq_false (by omega)
  have hcall := prime_any p (by omega) hp
  rw [priB_false.mpr h] at hcall
  have HC := As.mk hcall
  clear hcall
  go_enter Try.func58, Try.ntmps58
  go_wp2_with (go_at_call 82; refine (HC.out _).mono ?_; rintro e w' ⟨rfl, rfl⟩)
  exact bodyPost_ret (v := .tuple #[.agg #[.int .i64 0, .int .i64 0, .int .i64 0], .int .i64 1]) (by simp [results, Try.results58, go_sem]) rfl ⟨rfl, ((Below.refl _ _).alloc (Nat.le_refl _) _)⟩
end Go.Proofs.Ythcjmmicjbfpgaa.Rs

namespace Go.Proofs.Ythcjmmicjbfpgaa.Rs
open Go.RowKit Go.Proofs.Ythcjmmicjbfpgaa.Alg

/-- a field of whole numbers is valid -/
def VI (c s p : Int) : Prop := ∃ c' s' p' : Nat, c = c' ∧ s = s' ∧ p = p' ∧ VF c' s' p'
open Classical in
noncomputable def viB (c s p : Int) : Bool := decide (VI c s p)
theorem viB_true {c s p : Int} : viB c s p = true ↔ VI c s p := by unfold viB; simp
theorem viB_false {c s p : Int} : viB c s p = false ↔ ¬ VI c s p := by unfold viB; simp

set_option maxHeartbeats 400000 in
theorem valid_two_range (s p : Int) (h : s < 2 ∨ 4096 < s) (w : World) :
    Calls Try.prog 28 #[.agg #[.int .i64 2, .int .i64 s, .int .i64 p]] w fun e w' => e = .returned (.bool false) ∧ Below w.heap.size w w' := by
  rcases h with h | h
  · have g1 : decide (s < 2) = true := decide_eq_true h
    go_enter Try.func28, Try.ntmps28
    go_wp2
    go_ret
    exact ⟨rfl, ((Below.refl _ _).alloc (Nat.le_refl _) _).alloc (by simp) _⟩
  · have g1 : decide (s < 2) = false := decide_eq_false (by omega)
    have g2 : decide (4096 < s) = true := decide_eq_true h
    go_enter Try.func28, Try.ntmps28
    go_wp2
    go_ret
    exact ⟨rfl, ((Below.refl _ _).alloc (Nat.le_refl _) _).alloc (by simp) _⟩

set_option maxRecDepth 100000 in
set_option maxHeartbeats 400000 in
theorem valid_two (s d l : Nat) (p : Int) (h1 : 2 ≤ s) (h2 : s ≤ 4096) (hd : len s = l) (hld : l = d + 1)
    (hbin : ∀ w, Calls Try.prog 56 #[.int .i64 d, .int .i64 p] w fun e w' => e = .returned (.tuple #[.agg #[.int .i64 0, .int .i64 0, .int .i64 0], .int .i64 38]) ∧ Below w.heap.size w w') (w : World) :
    Calls Try.prog 28 #[.agg #[.int .i64 2, .int .i64 s, .int .i64 p]] w fun e w' => e = .returned (.bool false) ∧ Below w.heap.size w w' := by
  have g1 : decide ((s : Int) < 2) = false := decide_eq_false (by omega)
  have g2 : decide ((4096 : Int) < s) = false := decide_eq_false (by omega)
  have hl := length_any s (by omega)
  rw [hd] at hl
  have hd12 : d ≤ 12 := by have := len_bd (k := 13) (show s < 2 ^ 13 by omega); omega
  have HL := As.mk hl
  have HB := As.mk hbin
  clear hl hbin hd
  have e1 : IntKind.i64.wrap (d : Int) = d := in64 (by omega) (by omega)
  have e2 : (l : Int) - 1 = d := by omega
  clear hld
  go_enter Try.func28, Try.ntmps28
  go_wp2
  go_region_held3 (fun w' => w'.cell? ⟨w.heap.size, 1, none⟩ = some (.int .i64 s) ∧ w'.cell? ⟨w.heap.size, 2, none⟩ = some (.int .i64 p)) (first | go_keep | exact And.imp (cell_below hb) (cell_below hb) (by assumption))
    (first | (go_at_call 57; refine (HL.out _).mono ?_; rintro e w' ⟨rfl, rfl⟩) | (go_at_call 56; refine (HB.out _).mono ?_; rintro e w1 ⟨rfl, hb⟩; obtain ⟨hc, hf⟩ := bcell hb))
  all_goals go_wp2
  all_goals
    go_ret
    refine ⟨rfl, ?_⟩
    repeat (first | exact bl_refl _ | apply bl_drew | apply bl_alloc | apply bl_set (by simp) | apply bl_then hb)

set_option maxRecDepth 100000 in
set_option maxHeartbeats 400000 in
theorem valid_two_in (s d l q p : Nat) (b : Bool) (h1 : 2 ≤ s) (h2 : s ≤ 4096) (hd : len s = l) (hld : l = d + 1) (hb : b = decide (q = s))
    (hbin : ∀ w, Calls Try.prog 56 #[.int .i64 d, .int .i64 p] w fun e w' => e = .returned (.tuple #[.agg #[.int .i64 2, .int .i64 q, .int .i64 p], .int .i64 0]) ∧ Below w.heap.size w w') (w : World) :
    Calls Try.prog 28 #[.agg #[.int .i64 2, .int .i64 s, .int .i64 p]] w fun e w' => e = .returned (.bool b) ∧ Below w.heap.size w w' := by
  have g1 : decide ((s : Int) < 2) = false := decide_eq_false (by omega)
  have g2 : decide ((4096 : Int) < s) = false := decide_eq_false (by omega)
  have hl := length_any s (by omega)
  rw [hd] at hl
  have hd12 : d ≤ 12 := by have := len_bd (k := 13) (show s < 2 ^ 13 by omega); omega
  have HL := As.mk hl
  have HB := As.mk hbin
  have HBB := As.mk hb
  clear hl hbin hd hb
  have e1 : IntKind.i64.wrap (d : Int) = d := in64 (by omega) (by omega)
  have e2 : (l : Int) - 1 = d := by omega
  clear hld
  go_enter Try.func28, Try.ntmps28
  go_wp2
  go_region_held3 (fun w' => w'.cell? ⟨w.heap.size, 1, none⟩ = some (.int .i64 s) ∧ w'.cell? ⟨w.heap.size, 2, none⟩ = some (.int .i64 p)) (first | go_keep | exact And.imp (cell_below hb) (cell_below hb) (by assumption))
    (first | (go_at_call 57; refine (HL.out _).mono ?_; rintro e w' ⟨rfl, rfl⟩) | (go_at_call 56; refine (HB.out _).mono ?_; rintro e w1 ⟨rfl, hb⟩; obtain ⟨hc, hf⟩ := bcell hb))
  all_goals go_wp2
  all_goals
    go_ret
    refine ⟨ret_bool (b := b) ?_, ?_⟩
    · rw [HBB.out]; first | (symm; apply decide_eq_true; omega) | (symm; apply decide_eq_false; omega)
    repeat (first | exact bl_refl _ | apply bl_drew | apply bl_alloc | apply bl_set (by simp) | apply bl_then hb)

set_option maxRecDepth 100000 in
set_option maxHeartbeats 400000 in
theorem valid_other_no (c s p k : Int) (hc2 : c ≠ 2) (hk : k ≠ 0)
    (hp : ∀ w, Calls Try.prog 58 #[.int .i64 s] w fun e w' => e = .returned (.tuple #[.agg #[.int .i64 0, .int .i64 0, .int .i64 0], .int .i64 k]) ∧ Below w.heap.size w w') (w : World) :
    Calls Try.prog 28 #[.agg #[.int .i64 c, .int .i64 s, .int .i64 p]] w fun e w' => e = .returned (.bool false) ∧ Below w.heap.size w w' := by
  have g1 : (c == 2) = false := beq_eq_false_iff_ne.mpr hc2
  have g2 : (k == 0) = false := beq_eq_false_iff_ne.mpr hk
  have HP := As.mk hp
  clear hp
  go_enter Try.func28, Try.ntmps28
  go_wp2_with (go_at_call 58; refine (HP.out _).mono ?_; rintro e w1 ⟨rfl, hb⟩; obtain ⟨hc, hf⟩ := bcell hb; have hz : w.heap.size + 1 < w1.heap.size := by have := hb.size; simp at this; omega)
  go_ret
  refine ⟨rfl, ?_⟩
  repeat (first | exact bl_refl _ | apply bl_drew | apply bl_alloc | apply bl_set (by simp) | apply bl_then hb)

set_option maxRecDepth 100000 in
set_option maxHeartbeats 400000 in
theorem valid_other_yes (c s p f0 f1 f2 : Int) (b : Bool) (hc2 : c ≠ 2) (hb : b = decide (f0 = c ∧ f1 = s ∧ f2 = p))
    (hp : ∀ w, Calls Try.prog 58 #[.int .i64 s] w fun e w' => e = .returned (.tuple #[.agg #[.int .i64 f0, .int .i64 f1, .int .i64 f2], .int .i64 0]) ∧ Below w.heap.size w w') (w : World) :
    Calls Try.prog 28 #[.agg #[.int .i64 c, .int .i64 s, .int .i64 p]] w fun e w' => e = .returned (.bool b) ∧ Below w.heap.size w w' := by
  have g1 : (c == 2) = false := beq_eq_false_iff_ne.mpr hc2
  have HP := As.mk hp
  have HBB := As.mk hb
  clear hp hb
  go_enter Try.func28, Try.ntmps28
  go_wp2_with (go_at_call 58; refine (HP.out _).mono ?_; rintro e w1 ⟨rfl, hb⟩; obtain ⟨hc, hf⟩ := bcell hb; have hz : w.heap.size + 1 < w1.heap.size := by have := hb.size; simp at this; omega)
  all_goals
    go_ret
    refine ⟨ret_bool (b := b) ?_, ?_⟩
    · rw [HBB.out]; simp [*]
    repeat (first | exact bl_refl _ | apply bl_drew | apply bl_alloc | apply bl_set (by simp) | apply bl_then hb)

theorem calls_eq {P : Program} {f : FuncId} {args : Array Value} {w : World} {a b : Bool} (h : Calls P f args w fun e w' => e = .returned (.bool a) ∧ Below w.heap.size w w') (e : a = b) :
    Calls P f args w fun e w' => e = .returned (.bool b) ∧ Below w.heap.size w w' := e ▸ h

/-- galois.Valid tells whether a field is valid. -/
theorem valid_any (c s p : Int) (w : World) :
    Calls Try.prog 28 #[.agg #[.int .i64 c, .int .i64 s, .int .i64 p]] w fun e w' => e = .returned (.bool (viB c s p)) ∧ Below w.heap.size w w' := by
  by_cases hc : c = 2
  · subst hc
    have hno : (s < 2 ∨ 4096 < s) → viB 2 s p = false := by
      intro h
      refine viB_false.mpr ?_
      rintro ⟨c', s', p', e1, e2, e3, h4⟩
      rcases h4 with ⟨_, d, h1, h2, h3, _⟩ | ⟨h1, _, h3, _⟩
      · have := Nat.pow_le_pow_right (n := 2) (by omega) h1
        have := Nat.pow_le_pow_right (n := 2) (by omega) h2
        omega
      · omega
    by_cases hr : s < 2 ∨ 4096 < s
    · exact calls_eq (valid_two_range s p hr w) (hno hr).symm
    · obtain ⟨s, rfl⟩ : ∃ n : Nat, s = n := ⟨s.toNat, by omega⟩
      have hl : 2 ≤ len s := lt_len.mpr (by simp; omega)
      have hl2 : len s ≤ 13 := len_bd (by omega)
      have key : ∀ d, s = 2 ^ d → d = len s - 1 := by
        intro d hd
        have a1 : d < len s := lt_len.mpr (by omega)
        have a2 : len s ≤ d + 1 := len_le.mpr (by rw [Nat.pow_succ]; have := Nat.two_pow_pos d; omega)
        omega
      by_cases hb : ∃ q : Nat, p = q ∧ 2 ^ (len s - 1) ≤ q ∧ q < 2 ^ (len s - 1 + 1) ∧ Irr q (len s - 1)
      · obtain ⟨q, rfl, b1, b2, b3⟩ := hb
        refine calls_eq (valid_two_in s (len s - 1) (len s) (2 ^ (len s - 1)) q _ (by omega) (by omega) rfl (by omega) rfl
          (fun w => binary_yes (len s - 1) (by omega) (by omega) q _ rfl b1 (by rw [Nat.pow_succ] at b2; omega) b3 w) w) ?_
        by_cases e : 2 ^ (len s - 1) = s
        · rw [decide_eq_true e]; symm
          exact viB_true.mpr ⟨2, s, q, rfl, rfl, rfl, Or.inl ⟨rfl, len s - 1, by omega, by omega, e.symm, b1, b2, b3⟩⟩
        · rw [decide_eq_false e]; symm
          refine viB_false.mpr ?_
          rintro ⟨c', s', p', e1, e2, e3, h4⟩
          rcases h4 with ⟨_, d, h1, h2, h3, _⟩ | ⟨h1, _, h3, _⟩
          · have hs : s = 2 ^ d := by omega
            have := key d hs
            exact e (by rw [← this]; exact hs.symm)
          · omega
      · refine calls_eq (valid_two s (len s - 1) (len s) p (by omega) (by omega) rfl (by omega)
          (fun w => binary_no (len s - 1) (by omega) (by omega) p hb w) w) ?_
        symm
        refine viB_false.mpr ?_
        rintro ⟨c', s', p', e1, e2, e3, h4⟩
        rcases h4 with ⟨_, d, h1, h2, h3, h5, h6, h7⟩ | ⟨h1, _, h3, _⟩
        · have hs : s = 2 ^ d := by omega
          have := key d hs
          subst this
          exact hb ⟨p', e3, h5, h6, h7⟩
        · omega
  · by_cases hr : s < 2 ∨ 4096 < s
    · refine calls_eq (valid_other_no c s p 3 hc (by omega) (fun w => prime_field_range s hr w) w) ?_
      symm
      refine viB_false.mpr ?_
      rintro ⟨c', s', p', e1, e2, e3, h4⟩
      rcases h4 with ⟨_, d, h1, h2, h3, _⟩ | ⟨h1, _, h3, _⟩ <;> omega
    · obtain ⟨s, rfl⟩ : ∃ n : Nat, s = n := ⟨s.toNat, by omega⟩
      by_cases hp : Pri s
      · by_cases h2 : s = 2
        · subst h2
          refine calls_eq (valid_other_yes c 2 p 2 2 2 _ hc rfl (fun w => prime_field_two w) w) ?_
          rw [decide_eq_false (by omega)]
          symm
          refine viB_false.mpr ?_
          rintro ⟨c', s', p', e1, e2, e3, h4⟩
          rcases h4 with ⟨_, d, h1, h2, h3, _⟩ | ⟨h1, _, h3, _⟩ <;> omega
        · refine calls_eq (valid_other_yes c s p s s 0 _ hc rfl (fun w => prime_field s (by omega) (by omega) hp w) w) ?_
          by_cases e : (s : Int) = c ∧ (s : Int) = s ∧ (0 : Int) = p
          · rw [decide_eq_true e]; symm
            obtain ⟨e1, _, e3⟩ := e
            exact viB_true.mpr ⟨s, s, 0, e1.symm, rfl, e3.symm, Or.inr ⟨rfl, rfl, by omega, by omega, hp⟩⟩
          · rw [decide_eq_false e]; symm
            refine viB_false.mpr ?_
            rintro ⟨c', s', p', e1, e2, e3, h4⟩
            rcases h4 with ⟨_, d, h1, h2, h3, _⟩ | ⟨h1, h5, h3, _⟩
            · omega
            · exact e (by omega)
      · refine calls_eq (valid_other_no c s p 1 hc (by omega) (fun w => prime_field_no s (by omega) (by omega) hp w) w) ?_
        symm
        refine viB_false.mpr ?_
        rintro ⟨c', s', p', e1, e2, e3, h4⟩
        rcases h4 with ⟨_, d, h1, h2, h3, _⟩ | ⟨h1, h5, h3, _, h6⟩
        · omega
        · exact hp (by have : s = s' := by omega
                       rw [this]; exact h6)
end Go.Proofs.Ythcjmmicjbfpgaa.Rs

namespace Go.Proofs.Ythcjmmicjbfpgaa.Rs
open Go.RowKit Go.Proofs.Ythcjmmicjbfpgaa.Alg

set_option maxHeartbeats 400000 in
theorem degree_any (n : Nat) (hn : n < 2 ^ 63) (w : World) :
    Calls Try.prog 59 #[.int .i64 n] w fun e w' => e = .returned (.int .i64 ((len n : Int) - 1)) ∧ w = w' := by
  have hb := len_bd hn
  have HB := As.mk hb
  clear hb
  go_enter Try.func59, Try.ntmps59
  go_wp2
  go_loop [0, 3] (fun v k => ∃ (m : Nat) (j : Int), v = .int .i64 m ∧ k = .int .i64 j ∧ As (j + len m = (len n : Int) - 1) ∧ m < 9223372036854775808 ∧ -1 ≤ j ∧ j ≤ 63) (fun v _ => (intOf v).toNat)
  case atStart => exact ⟨n, -1, rfl, rfl, ⟨by omega⟩, by omega, by omega, by omega⟩
  case round =>
    obtain ⟨m, j, rfl, rfl, hj, hm, hj0, hj1⟩ := hrel
    by_cases h0 : m = 0
    · subst h0
      go_wp2
      go_ret
      have := hj.out
      rw [len_zero] at this
      exact ⟨ret_int (by omega), rfl⟩
    · have hpos : (0 : Int) < m := by omega
      have hl := As.mk (len_half h0)
      have hj2 : j ≤ 62 := by have := hj.out; have := hl.out; have := HB.out; omega
      have hd : As (((m : Int) / 2) = ((m / 2 : Nat) : Int)) := ⟨by omega⟩
      go_wp2
      go_round
      case rel => exact ⟨m / 2, j + 1, by rw [← hd.out], rfl, ⟨by have := hj.out; have := hl.out; omega⟩, by omega, by omega, by omega⟩
      case measure => simp [intOf]; omega

set_option maxHeartbeats 400000 in
theorem degree_neg (n : Int) (hn : n ≤ 0) (w : World) :
    Calls Try.prog 59 #[.int .i64 n] w fun e w' => e = .returned (.int .i64 (-1)) ∧ w = w' := by
  have h : decide (0 < n) = false := decide_eq_false (by omega)
  go_enter Try.func59, Try.ntmps59
  go_wp2
  go_loop [0, 3] (fun v k => v = .int .i64 n ∧ k = .int .i64 (-1)) (fun _ _ => 0)
  case atStart => exact ⟨rfl, rfl⟩
  case round =>
    obtain ⟨rfl, rfl⟩ := hrel
    go_wp2
    go_ret
    exact ⟨rfl, rfl⟩

theorem bit_top {m k : Nat} (h : m < 2 ^ (k + 1)) : m / 2 ^ k % 2 = if len m = k + 1 then 1 else 0 := by
  by_cases hc : 2 ^ k ≤ m
  · have h1 : k < len m := lt_len.mpr hc
    have h2 : len m ≤ k + 1 := len_le.mpr h
    rw [if_pos (by omega)]
    have : m / 2 ^ k = 1 := by
      rw [Nat.pow_succ] at h
      exact Nat.div_eq_of_lt_le (by omega) (by omega)
    rw [this]
  · have h1 : len m ≤ k := len_le.mpr (by omega)
    rw [if_neg (by omega), Nat.div_eq_of_lt (by omega)]

theorem u64_in {a : Int} (h : 0 ≤ a) (h2 : a ≤ 1000) : IntKind.u64.wrap a = a := by
  simp [IntKind.wrap, IntKind.bits, IntKind.signed]; omega

set_option maxHeartbeats 400000 in
theorem rest_any (v D : Nat) (hv : v < 2 ^ 61) (hD : D < 2 ^ 61) (hD0 : D ≠ 0) (w : World) :
    Calls Try.prog 55 #[.int .i64 v, .int .i64 D] w fun e w' => e = .returned (.int .i64 (rem v v D)) ∧ w = w' := by
  obtain ⟨d, hd⟩ : ∃ d, len D = d + 1 := ⟨len D - 1, by have : 0 < len D := lt_len.mpr (by simp; omega); omega⟩
  obtain ⟨lv, hlv⟩ : ∃ l, len v = l := ⟨_, rfl⟩
  have hd1 : d ≤ 60 := by have := len_bd hD; omega
  have hlv1 : lv ≤ 61 := by have := len_bd hv; omega
  have c1 := degree_any D (by omega)
  have c2 := degree_any v (by omega)
  rw [hd, show (((d + 1 : Nat) : Int) - 1) = d by omega] at c1
  rw [hlv] at c2
  have C1 := As.mk c1
  have C2 := As.mk c2
  have HD := As.mk hd
  have HLV := As.mk hlv
  clear c1 c2 hd hlv
  go_enter Try.func55, Try.ntmps55
  go_wp2_with fail
  refine (C1.out _).mono ?_
  rintro e w' ⟨rfl, rfl⟩
  go_wp2_with fail
  refine (C2.out _).mono ?_
  rintro e w' ⟨rfl, rfl⟩
  go_wp2
  go_loop [0, 6] (fun x k => ∃ (m : Nat) (j : Nat), x = .int .i64 m ∧ k = .int .i64 ((j : Int) - 1) ∧ As (rem m m D = rem v v D) ∧ As (m < 2 ^ j) ∧ m < 2305843009213693952 ∧ j ≤ 61) (fun _ k => (intOf k + 1).toNat)
  case atStart => exact ⟨v, lv, rfl, rfl, ⟨rfl⟩, ⟨len_le.mp (by rw [HLV.out]; exact Nat.le_refl _)⟩, by omega, hlv1⟩
  case round =>
    obtain ⟨m, j, rfl, rfl, hr, hm, hm2, hj⟩ := hrel
    by_cases hc : d + 1 ≤ j
    · obtain ⟨k, hk⟩ : ∃ k, j = k + 1 := ⟨j - 1, by omega⟩
      have ek : (j : Int) - 1 = (k : Int) := by omega
      rw [ek]
      have hdec : decide (d ≤ k) = true := decide_eq_true (by omega)
      obtain ⟨t, ht⟩ : ∃ t, k - d = t := ⟨_, rfl⟩
      have e1 : (k : Int) - (d : Int) = (t : Int) := by omega
      have hkk : k ≤ 60 := by omega
      have htt : t ≤ 60 := by omega
      have u1 : IntKind.u64.wrap (k : Int) = k := u64_in (by omega) (by omega)
      have u2 : IntKind.u64.wrap (t : Int) = t := u64_in (by omega) (by omega)
      have hbt := bit_top (m := m) (k := k) (by have := hm.out; rw [hk] at this; exact this)
      obtain ⟨x, hx⟩ : ∃ x, m / 2 ^ k = x := ⟨_, rfl⟩
      have e2 : (m : Int) / 2 ^ k = (x : Int) := by rw [← hx, Int.natCast_ediv, Int.natCast_pow]; rfl
      have hx2 : x < 2 ^ 62 := by rw [← hx]; exact Nat.lt_of_le_of_lt (Nat.div_le_self _ _) (by omega)
      have e3 := bits64_and1 hx2
      rw [hx] at hbt
      obtain ⟨y, hy⟩ : ∃ y, x % 2 = y := ⟨_, rfl⟩
      rw [hy] at hbt e3
      have HBT := As.mk hbt
      have HK := As.mk hk
      have HT := As.mk ht
      have hy1 : y < 2 := by rw [← hy]; exact Nat.mod_lt _ (by omega)
      clear hbt hx hy hx2 hk ht
      by_cases hbit : len m = k + 1
      · have hyy : (y : Int) = 1 := by have := HBT.out; rw [if_pos hbit] at this; omega
        have hle : len D ≤ len m := by have := HD.out; omega
        have hs := As.mk (rem_step hD0 hle)
        have hxx := As.mk (xor_shift_lt hD0 hle)
        have ekt : len m - len D = t := by have := HD.out; have := HT.out; omega
        rw [ekt] at hs hxx
        have hsh : D <<< t < 2 ^ 61 := by
          have := len_le (n := D <<< t) (k := 61)
          rw [len_shift hD0] at this
          have := HD.out
          omega
        have e4 := shl64 (D := D) (k := t) (n := t) (by omega) rfl
        obtain ⟨yy, hyy2⟩ : ∃ y, D <<< t = y := ⟨_, rfl⟩
        rw [hyy2] at e4 hsh hs hxx
        have e5 : bits .xor .i64 (m : Int) (yy : Int) = ((m ^^^ yy : Nat) : Int) := bits64_xor (by omega) (by omega)
        obtain ⟨z, hz⟩ : ∃ z, m ^^^ yy = z := ⟨_, rfl⟩
        rw [hz] at e5 hs hxx
        have hlt : z < m := by have := hxx.out; omega
        have hzk : As (z < 2 ^ k) := ⟨by have := hxx.out.1; rw [hbit] at this; exact this⟩
        rw [hyy] at e3
        clear hsh hyy2 hz hbit hyy hle ekt
        go_wp2
        go_round
        case rel => exact ⟨z, k, rfl, rfl, ⟨by rw [← hs.out]; exact hr.out⟩, hzk, by omega, by omega⟩
        case measure => simp [intOf]
      · have hyy : (y : Int) = 0 := by have := HBT.out; rw [if_neg hbit] at this; omega
        rw [hyy] at e3
        have hmk : As (m < 2 ^ k) := ⟨len_le.mp (by have := len_le.mpr hm.out; have := HK.out; omega)⟩
        clear hbit hyy
        go_wp2
        go_round
        case rel => exact ⟨m, k, rfl, rfl, hr, hmk, by omega, by omega⟩
        case measure => simp [intOf]
    · have hdec : decide ((d : Int) ≤ (j : Int) - 1) = false := decide_eq_false (by omega)
      go_wp2
      go_ret
      exact ⟨ret_int (by rw [← hr.out, rem_end (by have := len_le.mpr hm.out; have := HD.out; omega)]), rfl⟩
set_option maxHeartbeats 400000 in
theorem prime4_any (p : Nat) (h2 : 2 ≤ p) (hp : p ≤ 4096) (w : World) :
    Calls Try.prog 61 #[.int .i64 p] w fun e w' => e = .returned (.bool (priB p)) ∧ w = w' := by
  go_enter Try.func61, Try.ntmps61
  go_wp2
  go_loop [3] (fun x => ∃ m : Nat, x = .int .i64 m ∧ 2 ≤ m ∧ m ≤ 65 ∧ As (∀ D, 2 ≤ D → D < m → D * D ≤ p → p % D ≠ 0)) (fun x => (100 - intOf x).toNat)
  case atStart => exact ⟨2, rfl, by omega, by omega, ⟨fun D h1 h2 => by omega⟩⟩
  case round =>
    obtain ⟨m, rfl, hm2, hm3, hr⟩ := hrel
    obtain ⟨q, hq⟩ : ∃ q, m * m = q := ⟨_, rfl⟩
    have e1 : (m : Int) * (m : Int) = (q : Int) := by rw [← hq, Int.natCast_mul]
    have hq1 : q ≤ 4225 := by
      rw [← hq]; have := Nat.mul_le_mul hm3 hm3; omega
    have HQ := As.mk hq
    clear hq
    by_cases hc : q ≤ p
    · have hd : decide (q ≤ p) = true := decide_eq_true hc
      have hm : m ≤ 64 := by
        apply Classical.byContradiction
        intro h
        have := HQ.out
        have := Nat.mul_le_mul (show 65 ≤ m by omega) (show 65 ≤ m by omega)
        omega
      obtain ⟨r, hrr⟩ : ∃ r, p % m = r := ⟨_, rfl⟩
      have e2 : (p : Int) % (m : Int) = (r : Int) := by rw [← hrr, Int.natCast_emod]
      have HR := As.mk hrr
      clear hrr
      by_cases hz : r = 0
      · subst hz
        go_wp2
        go_ret
        exact ⟨ret_bool (priB_false.mpr (fun h => h m hm2 (by have := HQ.out; omega) HR.out)).symm, rfl⟩
      · have hz2 : ((r : Int) == 0) = false := beq_eq_false_iff_ne.mpr (by omega)
        go_wp2
        go_round
        case rel => exact ⟨m + 1, by go_num, by omega, by omega, ⟨fun D h1 h2 h3 => by
          by_cases e : D = m
          · rw [e, HR.out]; exact hz
          · exact hr.out D h1 (by omega) h3⟩⟩
        case measure => simp [intOf]; omega
    · have hd : decide (q ≤ p) = false := decide_eq_false hc
      have hd2 : decide ((2 : Int) ≤ (p : Int)) = true := decide_eq_true (by omega)
      go_wp2
      go_ret
      exact ⟨ret_bool (priB_true.mpr (fun D h1 h2 => by
        by_cases c : D < m
        · exact hr.out D h1 c h2
        · have := HQ.out
          have := Nat.mul_le_mul (show m ≤ D by omega) (show m ≤ D by omega)
          omega)).symm, rfl⟩


set_option maxHeartbeats 400000 in
theorem irreducible4_any (P d : Nat) (hP : len P = d + 1) (h1 : 1 ≤ d) (h2 : d ≤ 12) (w : World) :
    Calls Try.prog 60 #[.int .i64 P, .int .i64 d] w fun e w' => e = .returned (.bool (irrB P d)) ∧ w = w' := by
  have hP2 : P < 2 ^ 13 := len_le.mp (by omega)
  have hdeg := degree_any P (by omega)
  rw [hP, show (((d + 1 : Nat) : Int) - 1) = d by omega] at hdeg
  have HDEG := As.mk hdeg
  have HP := As.mk hP
  clear hP hdeg
  go_enter Try.func60, Try.ntmps60
  go_wp2_with (go_at_call 59; refine (HDEG.out _).mono ?_; rintro e w' ⟨rfl, rfl⟩)
  go_loop [5] (fun x => ∃ m : Nat, x = .int .i64 m ∧ 2 ≤ m ∧ m ≤ 128 ∧ As (∀ D, 2 ≤ D → D < m → 2 * (len D - 1) ≤ d → rem P P D ≠ 0)) (fun x => (200 - intOf x).toNat)
  case atStart => exact ⟨2, rfl, by omega, by omega, ⟨fun D h1 h2 => by omega⟩⟩
  case round =>
    obtain ⟨m, rfl, hm2, hm3, hr⟩ := hrel
    obtain ⟨l, hl⟩ : ∃ l, len m = l + 1 := ⟨len m - 1, by have : 0 < len m := lt_len.mpr (by simp; omega); omega⟩
    have hl1 : l ≤ 7 := by have := len_le (n := m) (k := 8); omega
    have HL := As.mk hl
    have hlen := degree_any m (by omega) w
    rw [hl, show (((l + 1 : Nat) : Int) - 1) = l by omega] at hlen
    have HLN := As.mk hlen
    clear hl hlen
    by_cases hc : 2 * l ≤ d
    · have hd : decide (2 * (l : Int) ≤ (d : Int)) = true := decide_eq_true (by omega)
      have hm : m < 128 := by
        have : len m ≤ 7 := by have := HL.out; omega
        exact len_le.mp this
      obtain ⟨r, hrr⟩ : ∃ r, rem P P m = r := ⟨_, rfl⟩
      have hred := rest_any P m (by omega) (by omega) (by omega) w
      rw [hrr] at hred
      have HR := As.mk hrr
      have HRD := As.mk hred
      clear hrr hred
      by_cases hz : r = 0
      · subst hz
        go_wp2_with (first | (go_at_call 59; refine HLN.out.mono ?_; rintro e w' ⟨rfl, rfl⟩) | (go_at_call 55; refine HRD.out.mono ?_; rintro e w' ⟨rfl, rfl⟩))
        go_ret
        exact ⟨ret_bool (irrB_false.mpr (fun h => h m hm2 (by have := HL.out; omega) HR.out)).symm, rfl⟩
      · have hz2 : ((r : Int) == 0) = false := beq_eq_false_iff_ne.mpr (by omega)
        go_wp2_with (first | (go_at_call 59; refine HLN.out.mono ?_; rintro e w' ⟨rfl, rfl⟩) | (go_at_call 55; refine HRD.out.mono ?_; rintro e w' ⟨rfl, rfl⟩))
        go_round
        case rel => exact ⟨m + 1, by go_num, by omega, by omega, ⟨fun D h1 h2 h3 => by
          by_cases e : D = m
          · rw [e, HR.out]; exact hz
          · exact hr.out D h1 (by omega) h3⟩⟩
        case measure => simp [intOf]; omega
    · have hd : decide (2 * (l : Int) ≤ (d : Int)) = false := decide_eq_false (by omega)
      go_wp2_with (first | (go_at_call 59; refine HLN.out.mono ?_; rintro e w' ⟨rfl, rfl⟩))
      go_ret
      exact ⟨ret_bool (irrB_true.mpr (fun D h1 h2 => by
        by_cases c : D < m
        · exact hr.out D h1 c h2
        · have := len_mono (show m ≤ D by omega)
          have := HL.out
          omega)).symm, rfl⟩

set_option maxHeartbeats 400000 in
theorem irreducible4_neg (P : Int) (d : Nat) (hP : P < 0) (w : World) :
    Calls Try.prog 60 #[.int .i64 P, .int .i64 d] w fun e w' => e = .returned (.bool false) ∧ w = w' := by
  have g : decide (P < 0) = true := decide_eq_true hP
  go_enter Try.func60, Try.ntmps60
  go_wp2
  go_ret
  exact ⟨rfl, rfl⟩

set_option maxHeartbeats 400000 in
theorem irreducible4_other (P d : Nat) (hP : len P ≠ d + 1) (hP2 : P < 2 ^ 62) (w : World) :
    Calls Try.prog 60 #[.int .i64 P, .int .i64 d] w fun e w' => e = .returned (.bool false) ∧ w = w' := by
  have hdeg := degree_any P (by omega)
  obtain ⟨x, hx⟩ : ∃ x : Int, (len P : Int) - 1 = x := ⟨_, rfl⟩
  rw [hx] at hdeg
  have HDEG := As.mk hdeg
  have g : (x == (d : Int)) = false := beq_eq_false_iff_ne.mpr (by omega)
  have g' : (x != (d : Int)) = true := bne_iff_ne.mpr (by omega)
  clear hdeg hP
  go_enter Try.func60, Try.ntmps60
  go_wp2_with (go_at_call 59; refine (HDEG.out _).mono ?_; rintro e w' ⟨rfl, rfl⟩)
  go_ret
  exact ⟨rfl, rfl⟩
end Go.Proofs.Ythcjmmicjbfpgaa.Rs

namespace Go.Proofs.Ythcjmmicjbfpgaa.Rs
open Go.RowKit Go.Proofs.Ythcjmmicjbfpgaa.Alg

set_option maxRecDepth 100000 in
set_option maxHeartbeats 400000 in
theorem valid4_neg (s p : Int) (h : s ≤ 0) (w : World) :
    Calls Try.prog 29 #[.agg #[.int .i64 2, .int .i64 s, .int .i64 p]] w fun e w' => e = .returned (.bool false) ∧ Below w.heap.size w w' := by
  have hdeg := As.mk (degree_neg s h)
  go_enter Try.func29, Try.ntmps29
  go_wp2_with (go_at_call 59; refine (hdeg.out _).mono ?_; rintro e w' ⟨rfl, rfl⟩)
  go_ret
  refine ⟨rfl, ?_⟩
  repeat (first | exact bl_refl _ | apply bl_drew | apply bl_alloc)

set_option maxRecDepth 100000 in
set_option maxHeartbeats 400000 in
theorem valid4_deg (s d : Nat) (p : Int) (hs : s < 2 ^ 63) (hd : len s = d + 1) (h : d < 1 ∨ 12 < d) (w : World) :
    Calls Try.prog 29 #[.agg #[.int .i64 2, .int .i64 s, .int .i64 p]] w fun e w' => e = .returned (.bool false) ∧ Below w.heap.size w w' := by
  have hd64 : d ≤ 63 := by have := len_bd hs; omega
  have hdeg := degree_any s hs
  rw [hd, show (((d + 1 : Nat) : Int) - 1) = d by omega] at hdeg
  have HDEG := As.mk hdeg
  clear hdeg hd
  rcases h with h | h
  · have g1 : decide ((1 : Int) ≤ d) = false := decide_eq_false (by omega)
    go_enter Try.func29, Try.ntmps29
    go_wp2_with (go_at_call 59; refine (HDEG.out _).mono ?_; rintro e w' ⟨rfl, rfl⟩)
    go_ret
    refine ⟨rfl, ?_⟩
    repeat (first | exact bl_refl _ | apply bl_drew | apply bl_alloc)
  · have g1 : decide ((1 : Int) ≤ d) = true := decide_eq_true (by omega)
    have g2 : decide ((d : Int) ≤ 12) = false := decide_eq_false (by omega)
    go_enter Try.func29, Try.ntmps29
    go_wp2_with (go_at_call 59; refine (HDEG.out _).mono ?_; rintro e w' ⟨rfl, rfl⟩)
    go_ret
    refine ⟨rfl, ?_⟩
    repeat (first | exact bl_refl _ | apply bl_drew | apply bl_alloc)

set_option maxRecDepth 100000 in
set_option maxHeartbeats 800000 in
theorem valid4_in (s d q : Nat) (p : Int) (b : Bool) (hs : s < 2 ^ 63) (hd : len s = d + 1) (h1 : 1 ≤ d) (h2 : d ≤ 12) (hq : q = 2 ^ d)
    (hb : b = true ↔ (s = q ∧ p < 2 * q ∧ ∃ p' : Nat, p = p' ∧ len p' = d + 1 ∧ Irr p' d)) (w : World) :
    Calls Try.prog 29 #[.agg #[.int .i64 2, .int .i64 s, .int .i64 p]] w fun e w' => e = .returned (.bool b) ∧ Below w.heap.size w w' := by
  obtain ⟨p1, p2, p3, p4⟩ := pow64 hq h2
  have hp1 : 2 * q = 2 ^ (d + 1) := by rw [Nat.pow_succ, hq]; omega
  have p5 : IntKind.i64.wrap ((2 : Int) ^ (d + 1)) = ((2 * q : Nat) : Int) := by
    have : (2 : Int) ^ (d + 1) = ((2 * q : Nat) : Int) := by rw [hp1, Int.natCast_pow]; rfl
    rw [this]; exact in64 (by omega) (by omega)
  have hdeg := degree_any s hs
  rw [hd, show (((d + 1 : Nat) : Int) - 1) = d by omega] at hdeg
  have HDEG := As.mk hdeg
  have HB := As.mk hb
  clear hdeg hd hq hb p2 hp1
  have g1 : decide ((1 : Int) ≤ d) = true := decide_eq_true (by omega)
  have g2 : decide ((d : Int) ≤ 12) = true := decide_eq_true (by omega)
  have u1 : IntKind.u64.wrap (d : Int) = d := u64_in (by omega) (by omega)
  have u2 : IntKind.u64.wrap ((d : Int) + 1) = (d : Int) + 1 := u64_in (by omega) (by omega)
  by_cases hsq : s = q
  · subst hsq
    by_cases hp : p < 2 * (s : Int)
    · have g4 : decide (p < ((2 * s : Nat) : Int)) = true := decide_eq_true (by omega)
      have g5 : decide (p < 2 * (s : Int)) = true := decide_eq_true (by omega)
      have hcall : ∃ b2 : Bool, b = b2 ∧ ∀ w, Calls Try.prog 60 #[.int .i64 p, .int .i64 d] w fun e w' => e = .returned (.bool b2) ∧ w = w' := by
        by_cases hn : p < 0
        · refine ⟨false, ?_, irreducible4_neg p d hn⟩
          apply Bool.eq_false_iff.mpr; intro hh; obtain ⟨_, _, p', e, _⟩ := HB.out.mp hh; omega
        · obtain ⟨p', rfl⟩ : ∃ n : Nat, p = n := ⟨p.toNat, by omega⟩
          by_cases hl : len p' = d + 1
          · refine ⟨irrB p' d, ?_, irreducible4_any p' d hl h1 h2⟩
            by_cases hi : Irr p' d
            · rw [irrB_true.mpr hi]; exact HB.out.mpr ⟨rfl, hp, p', rfl, hl, hi⟩
            · rw [irrB_false.mpr hi]; apply Bool.eq_false_iff.mpr; intro hh; obtain ⟨_, _, p2, e, _, h⟩ := HB.out.mp hh
              have : p' = p2 := by omega
              exact hi (this ▸ h)
          · refine ⟨false, ?_, irreducible4_other p' d hl (by omega)⟩
            apply Bool.eq_false_iff.mpr; intro hh; obtain ⟨_, _, p2, e, h, _⟩ := HB.out.mp hh
            have : p' = p2 := by omega
            exact hl (this ▸ h)
      obtain ⟨b2, rfl, hcall⟩ := hcall
      have HC := As.mk hcall
      clear hcall HB
      go_enter Try.func29, Try.ntmps29
      go_wp2_with (first | (go_at_call 59; refine (HDEG.out _).mono ?_; rintro e w' ⟨rfl, rfl⟩) | (go_at_call 60; refine (HC.out _).mono ?_; rintro e w' ⟨rfl, rfl⟩))
      go_ret
      refine ⟨rfl, ?_⟩
      repeat (first | exact bl_refl _ | apply bl_drew | apply bl_alloc)
    · have g4 : decide (p < ((2 * s : Nat) : Int)) = false := decide_eq_false (by omega)
      have g5 : decide (p < 2 * (s : Int)) = false := decide_eq_false (by omega)
      go_enter Try.func29, Try.ntmps29
      go_wp2_with (go_at_call 59; refine (HDEG.out _).mono ?_; rintro e w' ⟨rfl, rfl⟩)
      go_ret
      refine ⟨ret_bool (b := b) (by symm; apply Bool.eq_false_iff.mpr; intro hh; have := (HB.out.mp hh).2.1; omega), ?_⟩
      repeat (first | exact bl_refl _ | apply bl_drew | apply bl_alloc)
  · have g3 : ((s : Int) == (q : Int)) = false := beq_eq_false_iff_ne.mpr (by omega)
    have g3' : (s == q) = false := beq_eq_false_iff_ne.mpr hsq
    go_enter Try.func29, Try.ntmps29
    go_wp2_with (go_at_call 59; refine (HDEG.out _).mono ?_; rintro e w' ⟨rfl, rfl⟩)
    go_ret
    refine ⟨ret_bool (b := b) (by symm; apply Bool.eq_false_iff.mpr; intro hh; exact hsq (HB.out.mp hh).1), ?_⟩
    repeat (first | exact bl_refl _ | apply bl_drew | apply bl_alloc)

set_option maxRecDepth 100000 in
set_option maxHeartbeats 800000 in
theorem valid4_other (c s p : Int) (b : Bool) (hc2 : c ≠ 2) (hb : b = true ↔ (c = s ∧ p = 0 ∧ 3 ≤ s ∧ s ≤ 4096 ∧ Pri s.toNat)) (w : World) :
    Calls Try.prog 29 #[.agg #[.int .i64 c, .int .i64 s, .int .i64 p]] w fun e w' => e = .returned (.bool b) ∧ Below w.heap.size w w' := by
  have g1 : (c == 2) = false := beq_eq_false_iff_ne.mpr hc2
  have HB := As.mk hb
  clear hb
  by_cases h1 : c = s
  · subst h1
    by_cases h2 : p = 0
    · subst h2
      by_cases h3 : 3 ≤ c
      · have g3 : decide (3 ≤ c) = true := decide_eq_true h3
        by_cases h4 : c ≤ 4096
        · have g4 : decide (c ≤ 4096) = true := decide_eq_true h4
          obtain ⟨n, rfl⟩ : ∃ n : Nat, c = n := ⟨c.toNat, by omega⟩
          have hcall := prime4_any n (by omega) (by omega)
          have hbb : b = priB n := by
            by_cases hp : Pri n
            · rw [priB_true.mpr hp]; exact HB.out.mpr ⟨rfl, rfl, h3, h4, by simpa using hp⟩
            · rw [priB_false.mpr hp]; apply Bool.eq_false_iff.mpr; intro hh
              exact hp (by simpa using (HB.out.mp hh).2.2.2.2)
          rw [← hbb] at hcall
          have HC := As.mk hcall
          clear hcall hbb HB
          go_enter Try.func29, Try.ntmps29
          go_wp2_with (go_at_call 61; refine (HC.out _).mono ?_; rintro e w' ⟨rfl, rfl⟩)
          go_ret
          refine ⟨rfl, ?_⟩
          repeat (first | exact bl_refl _ | apply bl_drew | apply bl_alloc)
        · have g4 : decide (c ≤ 4096) = false := decide_eq_false h4
          obtain rfl : b = false := Bool.eq_false_iff.mpr (fun hh => h4 (HB.out.mp hh).2.2.2.1)
          go_enter Try.func29, Try.ntmps29
          go_wp2
          go_ret
          refine ⟨rfl, ?_⟩
          repeat (first | exact bl_refl _ | apply bl_drew | apply bl_alloc)
      · have g3 : decide (3 ≤ c) = false := decide_eq_false h3
        obtain rfl : b = false := Bool.eq_false_iff.mpr (fun hh => h3 (HB.out.mp hh).2.2.1)
        go_enter Try.func29, Try.ntmps29
        go_wp2
        go_ret
        refine ⟨rfl, ?_⟩
        repeat (first | exact bl_refl _ | apply bl_drew | apply bl_alloc)
    · have g2 : (p == 0) = false := beq_eq_false_iff_ne.mpr h2
      obtain rfl : b = false := Bool.eq_false_iff.mpr (fun hh => h2 (HB.out.mp hh).2.1)
      go_enter Try.func29, Try.ntmps29
      go_wp2
      go_ret
      refine ⟨rfl, ?_⟩
      repeat (first | exact bl_refl _ | apply bl_drew | apply bl_alloc)
  · have g2 : (c == s) = false := beq_eq_false_iff_ne.mpr h1
    obtain rfl : b = false := Bool.eq_false_iff.mpr (fun hh => h1 (HB.out.mp hh).1)
    go_enter Try.func29, Try.ntmps29
    go_wp2
    go_ret
    refine ⟨rfl, ?_⟩
    repeat (first | exact bl_refl _ | apply bl_drew | apply bl_alloc)

/-- the reference's Valid tells whether a field is valid. -/
theorem valid4_any (c s p : Int) (hs : s < 9223372036854775808) (w : World) :
    Calls Try.prog 29 #[.agg #[.int .i64 c, .int .i64 s, .int .i64 p]] w fun e w' => e = .returned (.bool (viB c s p)) ∧ Below w.heap.size w w' := by
  by_cases hc : c = 2
  · subst hc
    by_cases h0 : s ≤ 0
    · refine calls_eq (valid4_neg s p h0 w) ?_
      symm
      refine viB_false.mpr ?_
      rintro ⟨c', s', p', e1, e2, e3, h4⟩
      rcases h4 with ⟨_, d, h1, h2, h3, _⟩ | ⟨h1, _, h3, _⟩
      · have := Nat.two_pow_pos d
        omega
      · omega
    · obtain ⟨s, rfl⟩ : ∃ n : Nat, s = n := ⟨s.toNat, by omega⟩
      obtain ⟨d, hd⟩ : ∃ d, len s = d + 1 := ⟨len s - 1, by have : 0 < len s := lt_len.mpr (by simp; omega); omega⟩
      have key : ∀ k, s = 2 ^ k → k = d := by
        intro k hk
        have a1 : k < len s := lt_len.mpr (by omega)
        have a2 : len s ≤ k + 1 := len_le.mpr (by rw [Nat.pow_succ]; have := Nat.two_pow_pos k; omega)
        omega
      by_cases hr : d < 1 ∨ 12 < d
      · refine calls_eq (valid4_deg s d p (by omega) hd hr w) ?_
        symm
        refine viB_false.mpr ?_
        rintro ⟨c', s', p', e1, e2, e3, h4⟩
        rcases h4 with ⟨_, k, h1, h2, h3, _⟩ | ⟨h1, _, h3, _⟩
        · have := key k (by omega)
          omega
        · omega
      · refine valid4_in s d (2 ^ d) p _ (by omega) hd (by omega) (by omega) rfl ?_ w
        rw [viB_true]
        constructor
        · rintro ⟨c', s', p', e1, e2, e3, h4⟩
          rcases h4 with ⟨_, k, h1, h2, h3, h5, h6, h7⟩ | ⟨h1, _, h3, _⟩
          · have := key k (by omega)
            subst this
            rw [Nat.pow_succ] at h6
            refine ⟨by omega, by omega, p', e3, ?_, h7⟩
            have a1 : k < len p' := lt_len.mpr h5
            have a2 : len p' ≤ k + 1 := len_le.mpr (by rw [Nat.pow_succ]; omega)
            omega
          · omega
        · rintro ⟨e1, e2, p', e3, e4, e5⟩
          refine ⟨2, s, p', rfl, rfl, e3, Or.inl ⟨rfl, d, by omega, by omega, e1, lt_len.mp (by omega), len_le.mp (by omega), e5⟩⟩
  · refine valid4_other c s p _ hc ?_ w
    rw [viB_true]
    constructor
    · rintro ⟨c', s', p', e1, e2, e3, h4⟩
      rcases h4 with ⟨_, k, h1, h2, h3, h5, h6, h7⟩ | ⟨h1, h2, h3, h5, h6⟩
      · omega
      · refine ⟨by omega, by omega, by omega, by omega, ?_⟩
        have : s.toNat = s' := by omega
        rw [this]; exact h6
    · rintro ⟨e1, e2, e3, e4, e5⟩
      exact ⟨s.toNat, s.toNat, 0, by omega, by omega, e2, Or.inr ⟨rfl, rfl, by omega, by omega, e5⟩⟩
end Go.Proofs.Ythcjmmicjbfpgaa.Rs
