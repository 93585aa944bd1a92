/-

-/
import Derived.Test.YthcjmmicjbfpgaaJAa
/-
The binary fields: the numbers below 2^d, added bit by bit and multiplied as polynomials modulo an irreducible one.
-/
namespace Go.Proofs.Ythcjmmicjbfpgaa.Alg
section bin
variable {d q P : Nat}

theorem len_zero : len 0 = 0 := rfl
theorem len_pos {n : Nat} (h : n ≠ 0) : len n = n.log2 + 1 := by unfold len; rw [if_neg h]
theorem len_le {n k : Nat} : len n ≤ k ↔ n < 2 ^ k := by
  by_cases h : n = 0
  · subst h; simp [len_zero, Nat.two_pow_pos]
  · rw [len_pos h, ← Nat.log2_lt h]; omega
theorem lt_len {n k : Nat} : k < len n ↔ 2 ^ k ≤ n := by
  have := len_le (n := n) (k := k); omega
theorem len_shift {n k : Nat} (h : n ≠ 0) : len (n <<< k) = len n + k := by
  have h1 : n <<< k ≠ 0 := by
    rw [Nat.shiftLeft_eq]
    exact Nat.mul_ne_zero h (Nat.pos_iff_ne_zero.mp (Nat.two_pow_pos k))
  apply Nat.le_antisymm
  · rw [len_le, Nat.shiftLeft_eq, Nat.pow_add]
    exact Nat.mul_lt_mul_of_pos_right (len_le.mp (Nat.le_refl _)) (Nat.two_pow_pos k)
  · have h0 : 0 < len n := by rw [len_pos h]; omega
    have : len n + k - 1 < len (n <<< k) := by
      rw [lt_len, Nat.shiftLeft_eq, show len n + k - 1 = (len n - 1) + k by omega, Nat.pow_add]
      exact Nat.mul_le_mul_right _ (lt_len.mp (by omega))
    omega
theorem top_bit {x k : Nat} (h : x < 2 ^ (k + 1)) : x.testBit k = true ↔ 2 ^ k ≤ x := by
  constructor
  · intro hb; exact Nat.ge_two_pow_of_testBit hb
  · intro hx
    have : x = 2 ^ k + (x - 2 ^ k) := by omega
    rw [this, Nat.testBit_two_pow_add_eq, Nat.testBit_lt_two_pow (by rw [Nat.pow_succ] at h; omega)]
    rfl
theorem xor_top {x y k : Nat} (hx : 2 ^ k ≤ x) (hx2 : x < 2 ^ (k + 1)) (hy : 2 ^ k ≤ y) (hy2 : y < 2 ^ (k + 1)) : x ^^^ y < 2 ^ k := by
  have h1 : x ^^^ y < 2 ^ (k + 1) := Nat.xor_lt_two_pow hx2 hy2
  have h2 : (x ^^^ y).testBit k = false := by
    rw [Nat.testBit_xor, (top_bit hx2).mpr hx, (top_bit hy2).mpr hy]; rfl
  apply Classical.byContradiction
  intro h
  have := (top_bit h1).mpr (by omega)
  rw [h2] at this
  cases this
theorem bit_xor (b : Nat) : b = (b % 2) ^^^ (2 * (b / 2)) := by
  apply Nat.eq_of_testBit_eq
  intro i
  rw [Nat.testBit_xor]
  cases i with
  | zero => simp [Nat.testBit_zero]
  | succ i =>
    rw [Nat.testBit_succ, Nat.testBit_succ, Nat.testBit_succ]
    have h1 : b % 2 / 2 = 0 := by omega
    have h2 : 2 * (b / 2) / 2 = b / 2 := by omega
    rw [h1, h2]; simp
theorem xor_two (a b : Nat) : 2 * (a ^^^ b) = (2 * a) ^^^ (2 * b) := by
  have := Nat.shiftLeft_xor_distrib (a := a) (b := b) (i := 1)
  simpa [Nat.shiftLeft_eq, Nat.mul_comm] using this
theorem xor_left_comm (a b c : Nat) : a ^^^ (b ^^^ c) = b ^^^ (a ^^^ c) := by rw [← Nat.xor_assoc, Nat.xor_comm a b, Nat.xor_assoc]

instance : Std.Associative (α := Nat) (· ^^^ ·) := ⟨Nat.xor_assoc⟩
instance : Std.Commutative (α := Nat) (· ^^^ ·) := ⟨Nat.xor_comm⟩

structure Bin (d q P : Nat) : Prop where
  d1 : 1 ≤ d
  hq : q = 2 ^ d
  lo : q ≤ P
  hi : P < 2 * q

theorem xt_lt (h : Bin d q P) {a : Nat} (ha : a < q) : xt q P a < q := by
  unfold xt
  split
  · rename_i hc
    have := h.hq; subst this
    exact xor_top hc (by rw [Nat.pow_succ]; omega) h.lo (by have := h.hi; rw [Nat.pow_succ]; omega)
  · omega
theorem xt_zero (h : Bin d q P) : xt q P 0 = 0 := by
  have : 0 < q := by rw [h.hq]; exact Nat.two_pow_pos d
  unfold xt; rw [if_neg (by omega)]
theorem xt_xor (h : Bin d q P) {a b : Nat} (ha : a < q) (hb : b < q) : xt q P (a ^^^ b) = xt q P a ^^^ xt q P b := by
  have e := h.hq
  subst e
  have hp : 2 ^ (d + 1) = 2 * 2 ^ d := by rw [Nat.pow_succ, Nat.mul_comm]
  have t1 := top_bit (x := 2 * a) (k := d) (by omega)
  have t2 := top_bit (x := 2 * b) (k := d) (by omega)
  have hab : a ^^^ b < 2 ^ d := Nat.xor_lt_two_pow ha hb
  have t3 := top_bit (x := 2 * (a ^^^ b)) (k := d) (by omega)
  rw [xor_two, Nat.testBit_xor] at t3
  unfold xt
  rw [xor_two]
  by_cases c1 : 2 ^ d ≤ 2 * a
  · by_cases c2 : 2 ^ d ≤ 2 * b
    · rw [t1.mpr c1, t2.mpr c2] at t3
      rw [if_neg (fun c => by have := t3.mpr c; simp at this), if_pos c1, if_pos c2]
      rw [show (2 * a ^^^ P) ^^^ (2 * b ^^^ P) = (2 * a ^^^ 2 * b) ^^^ (P ^^^ P) by ac_rfl, Nat.xor_self, Nat.xor_zero]
    · have : (2 * b).testBit d = false := Bool.eq_false_iff.mpr (fun c => c2 (t2.mp c))
      rw [t1.mpr c1, this] at t3
      rw [if_pos (t3.mp rfl), if_pos c1, if_neg c2]; ac_rfl
  · have f1 : (2 * a).testBit d = false := Bool.eq_false_iff.mpr (fun c => c1 (t1.mp c))
    by_cases c2 : 2 ^ d ≤ 2 * b
    · rw [f1, t2.mpr c2] at t3
      rw [if_pos (t3.mp rfl), if_neg c1, if_pos c2]; ac_rfl
    · have f2 : (2 * b).testBit d = false := Bool.eq_false_iff.mpr (fun c => c2 (t2.mp c))
      rw [f1, f2] at t3
      rw [if_neg (fun c => by have := t3.mpr c; simp at this), if_neg c1, if_neg c2]

theorem gm_zero (a : Nat) : gm q P a 0 = 0 := by unfold gm; rw [if_pos rfl]
theorem gm_eq (a b : Nat) : gm q P a b = (if b % 2 = 1 then a else 0) ^^^ gm q P (xt q P a) (b / 2) := by
  by_cases h : b = 0
  · subst h; simp [gm_zero]
  · conv => lhs; unfold gm
    rw [if_neg h]
theorem gm_lt (h : Bin d q P) {b : Nat} : ∀ {a : Nat}, a < q → gm q P a b < q := by
  induction b using Nat.strongRecOn with
  | ind b ih =>
    intro a ha
    by_cases hb : b = 0
    · subst hb; rw [gm_zero]; omega
    · rw [gm_eq]
      have h1 := ih (b / 2) (by omega) (xt_lt h ha)
      have e := h.hq; subst e
      refine Nat.xor_lt_two_pow ?_ h1
      split
      · exact ha
      · exact Nat.two_pow_pos d
theorem gm_xor_left (h : Bin d q P) {b : Nat} : ∀ {a c : Nat}, a < q → c < q → gm q P (a ^^^ c) b = gm q P a b ^^^ gm q P c b := by
  induction b using Nat.strongRecOn with
  | ind b ih =>
    intro a c ha hc
    by_cases hb : b = 0
    · subst hb; simp [gm_zero]
    · rw [gm_eq, gm_eq a, gm_eq c, xt_xor h ha hc, ih (b / 2) (by omega) (xt_lt h ha) (xt_lt h hc)]
      split
      · ac_rfl
      · rw [Nat.zero_xor, Nat.zero_xor, Nat.zero_xor]
theorem gm_zero_left (h : Bin d q P) (b : Nat) : gm q P 0 b = 0 := by
  have h0 : 0 < q := by rw [h.hq]; exact Nat.two_pow_pos d
  have := gm_xor_left h (b := b) h0 h0
  rw [Nat.xor_self, Nat.xor_self] at this
  exact this
theorem gm_xor_right (b : Nat) : ∀ (a c : Nat), gm q P a (b ^^^ c) = gm q P a b ^^^ gm q P a c := by
  induction b using Nat.strongRecOn with
  | ind b ih =>
    intro a c
    by_cases hb : b = 0
    · subst hb; rw [gm_zero, Nat.zero_xor, Nat.zero_xor]
    · rw [gm_eq, gm_eq a b, gm_eq a c, Nat.xor_div_two, ih (b / 2) (by omega)]
      have hm : (b ^^^ c) % 2 = (b % 2) ^^^ (c % 2) := Nat.xor_mod_two_pow (n := 1)
      rcases Nat.mod_two_eq_zero_or_one b with h1 | h1 <;> rcases Nat.mod_two_eq_zero_or_one c with h2 | h2 <;> rw [hm, h1, h2] <;> simp
      · ac_rfl
      · ac_rfl
      · rw [show a ^^^ gm q P (xt q P a) (b / 2) ^^^ (a ^^^ gm q P (xt q P a) (c / 2)) = (a ^^^ a) ^^^ (gm q P (xt q P a) (b / 2) ^^^ gm q P (xt q P a) (c / 2)) by ac_rfl, Nat.xor_self, Nat.zero_xor]
theorem gm_xt (h : Bin d q P) {b : Nat} : ∀ {a : Nat}, a < q → gm q P (xt q P a) b = xt q P (gm q P a b) := by
  induction b using Nat.strongRecOn with
  | ind b ih =>
    intro a ha
    by_cases hb : b = 0
    · subst hb; rw [gm_zero, gm_zero, xt_zero h]
    · rw [gm_eq, gm_eq a, ih (b / 2) (by omega) (xt_lt h ha)]
      have h0 : 0 < q := by omega
      rw [xt_xor h (by split <;> omega) (gm_lt h (xt_lt h ha))]
      rw [ih (b / 2) (by omega) ha]
      split
      · rfl
      · rw [xt_zero h]
theorem gm_two (a b : Nat) : gm q P a (2 * b) = gm q P (xt q P a) b := by
  rw [gm_eq, if_neg (by omega), Nat.zero_xor]; congr 1; omega
theorem gm_one (a : Nat) : gm q P a 1 = a := by rw [gm_eq, if_pos rfl]; simp [gm_zero]
theorem gm_one_left (h : Bin d q P) (b : Nat) : b < q → gm q P 1 b = b := by
  induction b using Nat.strongRecOn with
  | ind b ih =>
    intro hb
    have h1 : 1 < q := by have := h.hq; have := Nat.pow_le_pow_right (n := 2) (by omega) h.d1; omega
    by_cases h0 : b = 0
    · subst h0; rw [gm_zero]
    · rw [gm_eq, gm_xt h h1, ih (b / 2) (by omega) (by omega)]
      have : xt q P (b / 2) = 2 * (b / 2) := by unfold xt; rw [if_neg (by omega)]
      rw [this]
      conv => rhs; rw [bit_xor b]
      congr 1
      rcases Nat.mod_two_eq_zero_or_one b with h2 | h2 <;> rw [h2] <;> rfl
theorem gm_P1 (h : Bin d q P) : gm q P 1 P = 0 := by
  have h1 : 1 < q := by have := h.hq; have := Nat.pow_le_pow_right (n := 2) (by omega) h.d1; omega
  have e := h.hq
  have hlo := h.lo
  have hhi := h.hi
  have hq2 : q = 2 * 2 ^ (d - 1) := by
    obtain ⟨n, rfl⟩ : ∃ n, d = n + 1 := ⟨d - 1, by have := h.d1; omega⟩
    rw [e, Nat.mul_comm, ← Nat.pow_succ]; rfl
  have hx : q ^^^ P < q := by
    have := xor_top (x := q) (y := P) (k := d) (by omega) (by rw [Nat.pow_succ]; omega) (by omega) (by rw [Nat.pow_succ]; omega)
    omega
  have e1 : P = q ^^^ (q ^^^ P) := by rw [← Nat.xor_assoc, Nat.xor_self, Nat.zero_xor]
  have e2 : gm q P 1 P = gm q P 1 (q ^^^ (q ^^^ P)) := congrArg (gm q P 1) e1
  rw [e2, gm_xor_right, gm_one_left h _ hx]
  have e3 : gm q P 1 q = q ^^^ P := by
    have : gm q P 1 q = gm q P 1 (2 * 2 ^ (d - 1)) := by rw [← hq2]
    rw [this, gm_two, gm_xt h h1, gm_one_left h _ (by have := Nat.two_pow_pos (d - 1); omega)]
    unfold xt
    rw [if_pos (by omega), ← hq2]
  rw [e3, Nat.xor_self]
theorem gm_P (h : Bin d q P) (a : Nat) : a < q → gm q P a P = 0 := by
  induction a using Nat.strongRecOn with
  | ind a ih =>
    intro ha
    have h0 : 0 < q := by omega
    by_cases hz : a = 0
    · subst hz; exact gm_zero_left h P
    · have e1 := bit_xor a
      have hx : xt q P (a / 2) = 2 * (a / 2) := by unfold xt; rw [if_neg (by omega)]
      have h1 : 1 < q := by have := h.hq; have := Nat.pow_le_pow_right (n := 2) (by omega) h.d1; omega
      have : gm q P a P = gm q P (a % 2) P ^^^ gm q P (2 * (a / 2)) P := by
        rw [← gm_xor_left h (by omega) (by omega), ← e1]
      rw [this, ← hx, gm_xt h (by omega), ih (a / 2) (by omega) (by omega), xt_zero h, Nat.xor_zero]
      rcases Nat.mod_two_eq_zero_or_one a with h2 | h2 <;> rw [h2]
      · exact gm_zero_left h P
      · exact gm_P1 h
theorem gm_xt_right (h : Bin d q P) {a b : Nat} (ha : a < q) : gm q P a (xt q P b) = xt q P (gm q P a b) := by
  have : gm q P a (2 * b) = xt q P (gm q P a b) := by rw [gm_two, gm_xt h ha]
  unfold xt
  split
  · rw [gm_xor_right, gm_P h a ha, Nat.xor_zero, this]; rfl
  · rw [this]; rfl
theorem gm_comm (h : Bin d q P) {b : Nat} (hb : b < q) (a : Nat) : a < q → gm q P a b = gm q P b a := by
  induction a using Nat.strongRecOn with
  | ind a ih =>
    intro ha
    have h1 : 1 < q := by have := h.hq; have := Nat.pow_le_pow_right (n := 2) (by omega) h.d1; omega
    by_cases hz : a = 0
    · subst hz; rw [gm_zero, gm_zero_left h]
    · have hx : xt q P (a / 2) = 2 * (a / 2) := by unfold xt; rw [if_neg (by omega)]
      rw [gm_eq b a, gm_xt h hb, ← ih (a / 2) (by omega) (by omega), ← gm_xt h (by omega), hx]
      have : gm q P a b = gm q P (a % 2) b ^^^ gm q P (2 * (a / 2)) b := by
        rw [← gm_xor_left h (by omega) (by omega), ← bit_xor a]
      rw [this]
      congr 1
      rcases Nat.mod_two_eq_zero_or_one a with h2 | h2 <;> rw [h2]
      · rw [gm_zero_left h, if_neg (by omega)]
      · rw [gm_one_left h b hb, if_pos rfl]
theorem gm_assoc (h : Bin d q P) {b : Nat} (hb : b < q) (c : Nat) : ∀ {a : Nat}, a < q → gm q P (gm q P a b) c = gm q P a (gm q P b c) := by
  induction c using Nat.strongRecOn with
  | ind c ih =>
    intro a ha
    by_cases hz : c = 0
    · subst hz; rw [gm_zero, gm_zero, gm_zero]
    · rw [gm_eq _ c, gm_eq b c, gm_xor_right, gm_xt h hb, gm_xt_right h ha, ← gm_xt h ha, ih (c / 2) (by omega) (xt_lt h ha)]
      rw [gm_xt h ha]
      congr 1
      split
      · rfl
      · rw [gm_zero]
theorem gm_shift (h : Bin d q P) (k : Nat) : ∀ {a D : Nat}, a < q → gm q P a (D <<< k) = gm q P (gm q P a D) (2 ^ k) := by
  induction k with
  | zero => intro a D _; simp [gm_one]
  | succ k ih =>
    intro a D ha
    have e : D <<< (k + 1) = 2 * (D <<< k) := by rw [Nat.shiftLeft_eq, Nat.shiftLeft_eq, Nat.pow_succ]; rw [Nat.mul_comm 2, Nat.mul_assoc]
    rw [e, gm_two, ih (xt_lt h ha), gm_xt h ha, Nat.pow_succ, Nat.mul_comm, gm_two]

/-- division with remainder, told by the products with the elements -/
theorem rem_quot (h : Bin d q P) {D : Nat} (hD : D ≠ 0) (fuel : Nat) : ∀ v, v ≤ fuel → len (rem fuel v D) < len D ∧
    ∃ Q, (len v < len D → Q = 0) ∧ (len D ≤ len v → 2 ^ (len v - len D) ≤ Q ∧ Q < 2 ^ (len v - len D + 1)) ∧
      ∀ a, a < q → gm q P a v ^^^ gm q P a (rem fuel v D) = gm q P (gm q P a D) Q := by
  have hDp : 0 < len D := by rw [len_pos hD]; omega
  induction fuel with
  | zero =>
    intro v hv
    have : v = 0 := by omega
    subst this
    unfold rem
    refine ⟨by rw [len_zero]; exact hDp, 0, fun _ => rfl, fun hc => by rw [len_zero] at hc; omega, fun a _ => by rw [gm_zero, gm_zero, Nat.xor_self]⟩
  | succ f ih =>
    intro v hv
    unfold rem
    by_cases hc : len D ≤ len v
    · rw [if_pos hc]
      have hv0 : v ≠ 0 := fun e => by rw [e, len_zero] at hc; omega
      have hlen : len (D <<< (len v - len D)) = len v := by rw [len_shift hD]; omega
      have hlt : v ^^^ D <<< (len v - len D) < 2 ^ (len v - 1) := by
        have a1 : 2 ^ (len v - 1) ≤ v := lt_len.mp (by omega)
        have a2 : v < 2 ^ (len v - 1 + 1) := by rw [show len v - 1 + 1 = len v by omega]; exact len_le.mp (Nat.le_refl _)
        have a3 : 2 ^ (len v - 1) ≤ D <<< (len v - len D) := lt_len.mp (by omega)
        have a4 : D <<< (len v - len D) < 2 ^ (len v - 1 + 1) := by rw [show len v - 1 + 1 = len v by omega]; exact len_le.mp (by omega)
        exact xor_top a1 a2 a3 a4
      have hvle : 2 ^ (len v - 1) ≤ v := lt_len.mp (by omega)
      have hlen1 : len (v ^^^ D <<< (len v - len D)) ≤ len v - 1 := len_le.mpr hlt
      obtain ⟨h1, Q, h2, h3, h4⟩ := ih (v ^^^ D <<< (len v - len D)) (by omega)
      refine ⟨h1, 2 ^ (len v - len D) ^^^ Q, fun hc2 => by omega, fun _ => ?_, ?_⟩
      · have hQ : Q < 2 ^ (len v - len D) := by
          by_cases c : len D ≤ len (v ^^^ D <<< (len v - len D))
          · exact Nat.lt_of_lt_of_le (h3 c).2 (Nat.pow_le_pow_right (by omega) (by omega))
          · rw [h2 (by omega)]; exact Nat.two_pow_pos _
        have hb : (2 ^ (len v - len D) ^^^ Q) < 2 ^ (len v - len D + 1) :=
          Nat.xor_lt_two_pow (Nat.pow_lt_pow_right (by omega) (by omega)) (by rw [Nat.pow_succ]; omega)
        refine ⟨?_, hb⟩
        rw [← top_bit hb, Nat.testBit_xor, Nat.testBit_lt_two_pow hQ, Nat.testBit_two_pow_self]; rfl
      · intro a ha
        have := h4 a ha
        rw [gm_xor_right] at this
        rw [gm_xor_right, ← this, gm_shift h _ ha]
        rw [show ∀ x y z : Nat, y ^^^ (x ^^^ y ^^^ z) = (x ^^^ z) ^^^ (y ^^^ y) from fun x y z => by ac_rfl, Nat.xor_self, Nat.xor_zero]
    · rw [if_neg hc]
      exact ⟨by omega, 0, fun _ => rfl, fun c => absurd c hc, fun a _ => by rw [gm_zero, Nat.xor_self]⟩

theorem least_nat {p : Nat → Prop} {n : Nat} (h : p n) : ∃ m, p m ∧ m ≤ n ∧ ∀ k, k < m → ¬ p k := by
  induction n using Nat.strongRecOn with
  | ind n ih =>
    by_cases c : ∃ k, k < n ∧ p k
    · obtain ⟨k, hk, hp⟩ := c
      obtain ⟨m, h1, h2, h3⟩ := ih k hk hp
      exact ⟨m, h1, by omega, h3⟩
    · exact ⟨n, h, Nat.le_refl n, fun k hk hp => c ⟨k, hk, hp⟩⟩

/-- the least multiple of b that is 0 divides P -/
theorem ann_divides (h : Bin d q P) {b m : Nat} (hb : b < q) (hb0 : b ≠ 0) (hm : m ≠ 0 ∧ gm q P b m = 0) (hl : ∀ k, k < m → ¬ (k ≠ 0 ∧ gm q P b k = 0)) :
    2 ≤ m ∧ rem P P m = 0 := by
  have h1 : m ≠ 1 := fun e => hb0 (by have := hm.2; rw [e, gm_one] at this; exact this)
  refine ⟨by have := hm.1; omega, ?_⟩
  obtain ⟨hr, Q, _, _, hQ⟩ := rem_quot h hm.1 P P (Nat.le_refl P)
  have := hQ b hb
  rw [hm.2, gm_zero_left h, gm_P h b hb, Nat.zero_xor] at this
  apply Classical.byContradiction
  intro hne
  have hlt : rem P P m < m := by
    apply Classical.byContradiction
    intro c
    have h0 : 0 < len m := by rw [len_pos hm.1]; omega
    have : len m - 1 < len (rem P P m) := lt_len.mpr (Nat.le_trans (lt_len.mp (show len m - 1 < len m by omega)) (by omega))
    omega
  exact hl _ hlt ⟨hne, this⟩

theorem no_zero_divisors (h : Bin d q P) (hirr : Irr P d) {a b : Nat} (ha : a < q) (hb : b < q) (e : gm q P b a = 0) (hb0 : b ≠ 0) : a = 0 := by
  apply Classical.byContradiction
  intro ha0
  obtain ⟨m, hm, hle, hl⟩ := least_nat (p := fun k => k ≠ 0 ∧ gm q P b k = 0) ⟨ha0, e⟩
  obtain ⟨h2, h3⟩ := ann_divides h hb hb0 hm hl
  by_cases hc : 2 * (len m - 1) ≤ d
  · exact hirr m h2 hc h3
  · obtain ⟨_, Q, _, hQ2, hQ⟩ := rem_quot h hm.1 P P (Nat.le_refl P)
    have h1 : 1 < q := by have := h.hq; have := Nat.pow_le_pow_right (n := 2) (by omega) h.d1; omega
    have hmq : m < q := by omega
    have := hQ 1 h1
    rw [h3, gm_zero, gm_P1 h, gm_one_left h m hmq, Nat.xor_self] at this
    have hlenP : len P = d + 1 := by
      have a1 : d < len P := lt_len.mpr (by have := h.lo; have := h.hq; omega)
      have a2 : len P ≤ d + 1 := len_le.mpr (by have := h.hi; have := h.hq; rw [Nat.pow_succ]; omega)
      omega
    have hlenm : len m ≤ d := len_le.mpr (by rw [← h.hq]; exact hmq)
    obtain ⟨q1, q2⟩ := hQ2 (by omega)
    have hQ0 : Q ≠ 0 := by have := Nat.two_pow_pos (len P - len m); omega
    obtain ⟨m', hm', hle', hl'⟩ := least_nat (p := fun k => k ≠ 0 ∧ gm q P m k = 0) ⟨hQ0, this.symm⟩
    obtain ⟨h4, h5⟩ := ann_divides h hmq hm.1 hm' hl'
    refine hirr m' h4 ?_ h5
    have : len m' ≤ len P - len m + 1 := len_le.mpr (by omega)
    omega

/-- an element -/
structure El (q : Nat) where
  v : Nat
  h : v < q
theorem El.ext' {q : Nat} {a b : El q} (h : a.v = b.v) : a = b := by
  cases a; cases b; cases h; rfl
def allEl (q : Nat) : List (El q) := (List.finRange q).map (fun i => ⟨i.1, i.2⟩)
theorem mem_allEl {q : Nat} (a : El q) : a ∈ allEl q := List.mem_map.mpr ⟨⟨a.v, a.h⟩, List.mem_finRange _, rfl⟩
theorem nodup_allEl (q : Nat) : (allEl q).Nodup := by
  unfold allEl
  rw [List.Nodup, List.pairwise_map]
  refine List.Pairwise.imp ?_ (List.nodup_finRange q)
  intro i j hne e
  exact hne (Fin.ext (congrArg El.v e))

def ofN (h : 0 < q) (i : Nat) : El q := if hi : i < q then ⟨i, hi⟩ else ⟨0, h⟩
theorem ofN_v (h : 0 < q) {i : Nat} (hi : i < q) : (ofN h i).v = i := by unfold ofN; rw [dif_pos hi]
theorem v_ofN (h : 0 < q) (a : El q) : ofN h a.v = a := El.ext' (ofN_v h a.h)
theorem Bin.pos (h : Bin d q P) : 0 < q := by have := h.hq; have := Nat.two_pow_pos d; omega

def BEl (_ : Bin d q P) (_ : Irr P d) : Type := El q

theorem bin_inv (h : Bin d q P) (hi : Irr P d) (a : El q) (ha : a.v ≠ 0) : ∃ b : El q, gm q P a.v b.v = 1 := by
  have h1 : 1 < q := by have := h.hq; have := Nat.pow_le_pow_right (n := 2) (by omega) h.d1; omega
  obtain ⟨b, hb⟩ := inverse_exists (mul := fun a b : El q => ⟨gm q P a.v b.v, gm_lt h a.h⟩) (one := ⟨1, h1⟩) (zero := ⟨0, by omega⟩) mem_allEl (nodup_allEl q)
    (fun a b c ha e => by
      have e1 : gm q P a.v b.v = gm q P a.v c.v := congrArg El.v e
      have e2 : gm q P a.v (b.v ^^^ c.v) = 0 := by rw [gm_xor_right, e1, Nat.xor_self]
      have hx : b.v ^^^ c.v < q := by
        have := h.hq; subst this
        exact Nat.xor_lt_two_pow b.h c.h
      have := no_zero_divisors h hi hx a.h e2 (fun e => ha (El.ext' e))
      apply El.ext'
      have h3 : b.v ^^^ (b.v ^^^ c.v) = c.v := by rw [← Nat.xor_assoc, Nat.xor_self, Nat.zero_xor]
      rw [this, Nat.xor_zero] at h3
      exact h3)
    a (fun e => ha (congrArg El.v e))
  exact ⟨b, congrArg El.v hb⟩

open Classical in
@[reducible] noncomputable def binFld (h : Bin d q P) (hi : Irr P d) : Fld (BEl h hi) where
  zero := (⟨0, by have := h.hq; have := Nat.two_pow_pos d; omega⟩ : El q)
  one := (⟨1, by have := h.hq; have := Nat.pow_le_pow_right (n := 2) (by omega) h.d1; omega⟩ : El q)
  add := fun (a b : El q) => (⟨a.v ^^^ b.v, by have := h.hq; subst this; exact Nat.xor_lt_two_pow a.h b.h⟩ : El q)
  mul := fun (a b : El q) => (⟨gm q P a.v b.v, gm_lt h a.h⟩ : El q)
  neg := fun a => a
  sub := fun (a b : El q) => (⟨a.v ^^^ b.v, by have := h.hq; subst this; exact Nat.xor_lt_two_pow a.h b.h⟩ : El q)
  inv := fun (a : El q) => if ha : a.v ≠ 0 then choose (bin_inv h hi a ha) else a
  add_assoc := fun a b c => El.ext' (Nat.xor_assoc _ _ _)
  add_comm := fun a b => El.ext' (Nat.xor_comm _ _)
  add_zero := fun a => El.ext' (Nat.xor_zero _)
  add_neg := fun a => El.ext' (Nat.xor_self _)
  sub_eq := fun a b => rfl
  mul_assoc := fun (a b c : El q) => El.ext' (gm_assoc h b.h c.v a.h)
  mul_comm := fun (a b : El q) => El.ext' (gm_comm h b.h a.v a.h)
  mul_one := fun a => El.ext' (gm_one _)
  mul_add := fun a b c => El.ext' (gm_xor_right _ _ _)
  one_ne := fun e => by have := congrArg El.v e; cases this
  mul_inv := fun (a : El q) ha => by
    have ha' : a.v ≠ 0 := fun e => ha (El.ext' e)
    apply El.ext'
    show gm q P a.v (El.v (if ha : a.v ≠ 0 then choose (bin_inv h hi a ha) else a)) = 1
    rw [dif_pos ha']
    exact choose_spec (bin_inv h hi a ha')

@[reducible] noncomputable def binGF (h : Bin d q P) (hi : Irr P d) (hd : d ≤ 12) : GF (BEl h hi) where
  toFld := binFld h hi
  ch := 2
  sz := q
  po := P
  valid := Or.inl ⟨rfl, d, h.d1, hd, h.hq, by have := h.lo; have := h.hq; omega, by have := h.hi; have := h.hq; rw [Nat.pow_succ]; omega, hi⟩
  val := El.v
  val_lt := El.h
  of := ofN h.pos
  val_of := fun i hi => ofN_v h.pos hi
  of_val := fun (a : El q) => v_ofN h.pos a
  val_zero := rfl
  val_one := rfl
  val_add := fun a b => by rw [if_pos rfl]; rfl
  val_sub := fun a b => by rw [if_pos rfl]; rfl
  val_mul := fun a b => by rw [if_pos rfl]; rfl
  val_nc := fun k => by
    letI := binFld h hi
    induction k with
    | zero => rfl
    | succ k ih =>
      show El.v (nc k : BEl h hi) ^^^ 1 = (k + 1) % 2
      rw [show El.v (nc k : BEl h hi) = k % 2 from ih]
      rcases Nat.mod_two_eq_zero_or_one k with h2 | h2
      · rw [h2, show (k + 1) % 2 = 1 by omega]; rfl
      · rw [h2, show (k + 1) % 2 = 0 by omega]; rfl
end bin
end Go.Proofs.Ythcjmmicjbfpgaa.Alg

/-
The remainder of polynomials over the field of two elements does not hang on its fuel.
-/
namespace Go.Proofs.Ythcjmmicjbfpgaa.Alg

theorem xor_shift_lt {v D : Nat} (hD : D ≠ 0) (hc : len D ≤ len v) : v ^^^ D <<< (len v - len D) < 2 ^ (len v - 1) ∧ 2 ^ (len v - 1) ≤ v := by
  have hDp : 0 < len D := by rw [len_pos hD]; omega
  have hlen : len (D <<< (len v - len D)) = len v := by rw [len_shift hD]; omega
  have a1 : 2 ^ (len v - 1) ≤ v := lt_len.mp (by omega)
  have a2 : v < 2 ^ (len v - 1 + 1) := by rw [show len v - 1 + 1 = len v by omega]; exact len_le.mp (Nat.le_refl _)
  have a3 : 2 ^ (len v - 1) ≤ D <<< (len v - len D) := lt_len.mp (by omega)
  have a4 : D <<< (len v - len D) < 2 ^ (len v - 1 + 1) := by rw [show len v - 1 + 1 = len v by omega]; exact len_le.mp (by omega)
  exact ⟨xor_top a1 a2 a3 a4, a1⟩

theorem rem_fuel {D : Nat} (hD : D ≠ 0) (f : Nat) : ∀ g v, v ≤ f → v ≤ g → rem f v D = rem g v D := by
  have hDp : 0 < len D := by rw [len_pos hD]; omega
  induction f with
  | zero =>
    intro g v h1 h2
    have : v = 0 := by omega
    subst this
    cases g with
    | zero => rfl
    | succ g => unfold rem; rw [if_neg (by rw [len_zero]; omega)]
  | succ f ih =>
    intro g v h1 h2
    cases g with
    | zero =>
      have : v = 0 := by omega
      subst this
      unfold rem; rw [if_neg (by rw [len_zero]; omega)]
    | succ g =>
      unfold rem
      by_cases hc : len D ≤ len v
      · rw [if_pos hc, if_pos hc]
        obtain ⟨h3, h4⟩ := xor_shift_lt hD hc
        exact ih g _ (by omega) (by omega)
      · rw [if_neg hc, if_neg hc]

theorem rem_step {D v : Nat} (hD : D ≠ 0) (hc : len D ≤ len v) : rem v v D = rem (v ^^^ D <<< (len v - len D)) (v ^^^ D <<< (len v - len D)) D := by
  obtain ⟨h3, h4⟩ := xor_shift_lt hD hc
  obtain ⟨f, rfl⟩ : ∃ f, v = f + 1 := ⟨v - 1, by have := Nat.two_pow_pos (len v - 1); omega⟩
  conv => lhs; unfold rem
  rw [if_pos hc]
  exact rem_fuel hD _ _ _ (by omega) (Nat.le_refl _)

theorem rem_end {D v : Nat} (hc : len v < len D) : rem v v D = v := by
  cases v with
  | zero => rfl
  | succ f => unfold rem; rw [if_neg (by omega)]
end Go.Proofs.Ythcjmmicjbfpgaa.Alg

/-
The prime fields; every valid field is a field.
-/
namespace Go.Proofs.Ythcjmmicjbfpgaa.Alg
section pri
variable {p : Nat}

theorem pri_coprime (hp : 2 ≤ p) (h : Pri p) {a : Nat} (ha : a < p) (ha0 : a ≠ 0) : Nat.Coprime a p := by
  have h1 : Nat.gcd a p ∣ a := Nat.gcd_dvd_left a p
  obtain ⟨k, hk⟩ : Nat.gcd a p ∣ p := Nat.gcd_dvd_right a p
  have h0 : 0 < Nat.gcd a p := Nat.gcd_pos_of_pos_left p (by omega)
  have hle := Nat.le_of_dvd (by omega) h1
  apply Classical.byContradiction
  intro hne
  have hne' : Nat.gcd a p ≠ 1 := hne
  have hk2 : 2 ≤ k := by
    rcases k with _ | _ | k
    · simp at hk; omega
    · simp at hk; omega
    · omega
  rcases Nat.le_total (Nat.gcd a p) k with c | c
  · exact h (Nat.gcd a p) (by omega) (by
      have := Nat.mul_le_mul_left (Nat.gcd a p) c
      omega) (Nat.mod_eq_zero_of_dvd ⟨k, hk⟩)
  · exact h k hk2 (by
      have := Nat.mul_le_mul_right k c
      omega) (Nat.mod_eq_zero_of_dvd ⟨Nat.gcd a p, by rw [Nat.mul_comm]; exact hk⟩)

theorem pri_cancel (hp : 2 ≤ p) (h : Pri p) {a b c : Nat} (ha : a < p) (hb : b < p) (hc : c < p) (ha0 : a ≠ 0) (e : a * b % p = a * c % p) : b = c := by
  have key : ∀ b c, b < p → c < p → b ≤ c → a * b % p = a * c % p → b = c := by
    intro b c hb hc hbc e
    have hd : p ∣ a * (c - b) := by
      rw [Nat.mul_sub]
      exact Nat.dvd_of_mod_eq_zero (Nat.sub_mod_eq_zero_of_mod_eq e.symm)
    have := (pri_coprime hp h ha ha0).symm.dvd_of_dvd_mul_left hd
    have := Nat.eq_zero_of_dvd_of_lt this (by omega)
    omega
  rcases Nat.le_total b c with c1 | c1
  · exact key b c hb hc c1 e
  · exact (key c b hc hb c1 e.symm).symm

def PEl (_ : 2 ≤ p) (_ : Pri p) : Type := El p

theorem pri_inv (hp : 2 ≤ p) (h : Pri p) (a : El p) (ha : a.v ≠ 0) : ∃ b : El p, a.v * b.v % p = 1 := by
  obtain ⟨b, hb⟩ := inverse_exists (mul := fun a b : El p => ⟨a.v * b.v % p, Nat.mod_lt _ (by omega)⟩) (one := ⟨1, by omega⟩) (zero := ⟨0, by omega⟩) mem_allEl (nodup_allEl p)
    (fun a b c ha e => El.ext' (pri_cancel hp h a.h b.h c.h (fun e => ha (El.ext' e)) (congrArg El.v e)))
    a (fun e => ha (congrArg El.v e))
  exact ⟨b, congrArg El.v hb⟩

open Classical in
@[reducible] noncomputable def priFld (hp : 2 ≤ p) (h : Pri p) : Fld (PEl hp h) where
  zero := (⟨0, by omega⟩ : El p)
  one := (⟨1, by omega⟩ : El p)
  add := fun (a b : El p) => (⟨(a.v + b.v) % p, Nat.mod_lt _ (by omega)⟩ : El p)
  mul := fun (a b : El p) => (⟨a.v * b.v % p, Nat.mod_lt _ (by omega)⟩ : El p)
  neg := fun (a : El p) => (⟨(p - a.v) % p, Nat.mod_lt _ (by omega)⟩ : El p)
  sub := fun (a b : El p) => (⟨(a.v + p - b.v) % p, Nat.mod_lt _ (by omega)⟩ : El p)
  inv := fun (a : El p) => if ha : a.v ≠ 0 then choose (pri_inv hp h a ha) else a
  add_assoc := fun a b c => El.ext' (by
    show ((a.v + b.v) % p + c.v) % p = (a.v + (b.v + c.v) % p) % p
    rw [Nat.mod_add_mod, Nat.add_mod_mod, Nat.add_assoc])
  add_comm := fun a b => El.ext' (by
    show (a.v + b.v) % p = (b.v + a.v) % p
    rw [Nat.add_comm])
  add_zero := fun (a : El p) => El.ext' (by
    show (a.v + 0) % p = a.v
    exact Nat.mod_eq_of_lt a.h)
  add_neg := fun (a : El p) => El.ext' (by
    show (a.v + (p - a.v) % p) % p = 0
    have := a.h
    rw [Nat.add_mod_mod, show a.v + (p - a.v) = p by omega, Nat.mod_self])
  sub_eq := fun (a b : El p) => El.ext' (by
    show (a.v + p - b.v) % p = (a.v + (p - b.v) % p) % p
    have := b.h
    rw [Nat.add_mod_mod]; congr 1; omega)
  mul_assoc := fun a b c => El.ext' (by
    show (a.v * b.v % p * c.v) % p = (a.v * (b.v * c.v % p)) % p
    rw [Nat.mod_mul_mod, Nat.mul_mod_mod, Nat.mul_assoc])
  mul_comm := fun a b => El.ext' (by
    show (a.v * b.v) % p = (b.v * a.v) % p
    rw [Nat.mul_comm])
  mul_one := fun (a : El p) => El.ext' (by
    show (a.v * 1) % p = a.v
    rw [Nat.mul_one]; exact Nat.mod_eq_of_lt a.h)
  mul_add := fun a b c => El.ext' (by
    show (a.v * ((b.v + c.v) % p)) % p = (a.v * b.v % p + a.v * c.v % p) % p
    rw [Nat.mul_mod_mod, Nat.mul_add, ← Nat.add_mod])
  one_ne := fun e => by have := congrArg El.v e; cases this
  mul_inv := fun (a : El p) ha => by
    have ha' : a.v ≠ 0 := fun e => ha (El.ext' e)
    apply El.ext'
    show a.v * (El.v (if ha : a.v ≠ 0 then choose (pri_inv hp h a ha) else a)) % p = 1
    rw [dif_pos ha']
    exact choose_spec (pri_inv hp h a ha')

@[reducible] noncomputable def priGF (hp : 3 ≤ p) (h : Pri p) (hm : p ≤ 4096) : GF (PEl (p := p) (by omega) h) where
  toFld := priFld (by omega) h
  ch := p
  sz := p
  po := 0
  valid := Or.inr ⟨rfl, rfl, hp, hm, h⟩
  val := El.v
  val_lt := El.h
  of := ofN (by omega)
  val_of := fun i hi => ofN_v (by omega) hi
  of_val := fun (a : El p) => v_ofN (by omega) a
  val_zero := rfl
  val_one := rfl
  val_add := fun a b => by rw [if_neg (by omega)]; rfl
  val_sub := fun a b => by rw [if_neg (by omega)]; rfl
  val_mul := fun a b => by rw [if_neg (by omega)]; rfl
  val_nc := fun k => by
    letI := priFld (p := p) (by omega) h
    induction k with
    | zero => exact (Nat.zero_mod p).symm
    | succ k ih =>
      show (El.v (nc k : PEl (p := p) _ h) + 1) % p = (k + 1) % p
      rw [show El.v (nc k : PEl (p := p) _ h) = k % p from ih, Nat.mod_add_mod]
end pri

/-- every valid field is a field -/
theorem field_of {c s p : Nat} (h : VF c s p) : ∃ (K : Type) (_ : GF K), GF.ch K = c ∧ GF.sz K = s ∧ GF.po K = p := by
  rcases h with ⟨hc, d, h1, h2, h3, h4, h5, h6⟩ | ⟨h1, h2, h3, h4, h5⟩
  · have hb : Bin d s p := ⟨h1, h3, by omega, by rw [Nat.pow_succ] at h5; omega⟩
    exact ⟨BEl hb h6, binGF hb h6 h2, hc.symm, rfl, rfl⟩
  · exact ⟨PEl (p := s) (by omega) h5, priGF h3 h5 h4, h1.symm, rfl, h2.symm⟩
end Go.Proofs.Ythcjmmicjbfpgaa.Alg

/-
The least generators of the fields that symbologies use.
-/
namespace Go.Proofs.Ythcjmmicjbfpgaa.Alg
open Fld GF

/-- the product of polynomials, of at most so many digits -/
def gf (q P : Nat) : Nat → Nat → Nat → Nat
  | 0, _, _ => 0
  | f + 1, a, b => if b = 0 then 0 else (if b % 2 = 1 then a else 0) ^^^ gf q P f (xt q P a) (b / 2)
theorem gf_eq (q P : Nat) (f : Nat) : ∀ a b, b < 2 ^ f → gf q P f a b = gm q P a b := by
  induction f with
  | zero =>
    intro a b h
    have : b = 0 := by simpa using h
    subst this; rw [gm_zero]; rfl
  | succ f ih =>
    intro a b h
    unfold gf
    split
    · rename_i h0; rw [h0, gm_zero]
    · rw [gm_eq, ih _ _ (by rw [Nat.pow_succ] at h; omega)]

def mulN (c s p x y : Nat) : Nat := if c = 2 then gf s p 13 x y else x * y % s
def pb (c s p : Nat) : Nat → Nat → Nat → Nat
  | 0, _, _ => 1
  | f + 1, a, n => if n = 0 then 1 else if n % 2 = 1 then mulN c s p a (pb c s p f (mulN c s p a a) (n / 2)) else pb c s p f (mulN c s p a a) (n / 2)

section
variable {K : Type} [GF K]
theorem mulN_val (a b : K) : mulN (ch K) (sz K) (po K) (val a) (val b) = val (a * b) := by
  unfold mulN
  rw [val_mul]
  split
  · exact gf_eq _ _ _ _ _ (by have := val_lt b; have := sz_max (K := K); omega)
  · rfl
theorem pb_val (f : Nat) : ∀ (a : K) (n : Nat), n < 2 ^ f → pb (ch K) (sz K) (po K) f (val a) n = val (pw a n) := by
  induction f with
  | zero =>
    intro a n h
    have : n = 0 := by simpa using h
    subst this
    exact val_one.symm
  | succ f ih =>
    intro a n h
    unfold pb
    rw [mulN_val, ih (a * a) (n / 2) (by rw [Nat.pow_succ] at h; omega)]
    have e : pw (a * a) (n / 2) = pw a (n / 2 + n / 2) := by rw [pw_mul_base, ← pw_add]
    rw [e]
    by_cases h0 : n = 0
    · rw [if_pos h0, h0]; exact val_one.symm
    · rw [if_neg h0]
      by_cases h1 : n % 2 = 1
      · rw [if_pos h1, mulN_val, ← pw_succ']
        congr 2; omega
      · rw [if_neg h1]
        congr 2; omega

/-- each divisor of m other than m divides one of the quotients by ps -/
def covers (m : Nat) (ps : List Nat) : Bool := (List.range m).all fun n => n == 0 || m % n != 0 || ps.any fun p => m / p % n == 0
theorem ord_by {a : K} {m : Nat} {ps : List Nat} (hm : 0 < m) (hc : covers m ps = true) (h1 : pw a m = 1) (h2 : ∀ p ∈ ps, pw a (m / p) ≠ 1) (ha : a ≠ 0) : IsOrd a m := by
  obtain ⟨n, _, hn⟩ := order_exists (els := nonzero K) (fun a h => mem_nonzero.mpr h) ha
  have hd := hn.dvd.mp h1
  by_cases e : n = m
  · rw [← e]; exact hn
  · exfalso
    have hlt : n < m := by
      have := Nat.le_of_dvd hm hd
      omega
    have := List.all_eq_true.mp hc n (List.mem_range.mpr hlt)
    simp only [Bool.or_eq_true, beq_iff_eq, bne_iff_ne, List.any_eq_true] at this
    rcases this with (h | h) | ⟨p, hp, h⟩
    · have := hn.pos; omega
    · exact h (Nat.mod_eq_zero_of_dvd hd)
    · exact h2 p hp (hn.dvd.mpr (Nat.dvd_of_mod_eq_zero h))

theorem gen_known {v : Nat} {ps : List Nat} (hv : v < sz K) (hv0 : v ≠ 0) (hs : 3 ≤ sz K) (hc : covers (sz K - 1) ps = true) (h1 : pb (ch K) (sz K) (po K) 12 v (sz K - 1) = 1)
    (h2 : ps.all (fun p => pb (ch K) (sz K) (po K) 12 v ((sz K - 1) / p) != 1) = true)
    (h3 : ∀ u, 2 ≤ u → u < v → ∃ k, 0 < k ∧ k < sz K - 1 ∧ pb (ch K) (sz K) (po K) 12 u k = 1) : val (gen : K) = v := by
  have hsm := sz_max (K := K)
  have ho : IsGen (of v : K) := by
    unfold IsGen
    refine ord_by (ps := ps) (by omega) hc ?_ ?_ ?_
    · apply val_inj
      rw [← pb_val 12 _ _ (by omega), val_of v hv, h1, val_one]
    · intro p hp e
      have := List.all_eq_true.mp h2 p hp
      rw [bne_iff_ne] at this
      apply this
      have hle : (sz K - 1) / p < 2 ^ 12 := Nat.lt_of_le_of_lt (Nat.div_le_self _ _) (by omega)
      have h4 := pb_val 12 (of v : K) _ hle
      rw [val_of v hv] at h4
      rw [h4, e, val_one]
    · intro e
      have := congrArg val e
      rw [val_of v hv, val_zero] at this
      exact hv0 this
  have hle := gen_least _ ho
  rw [val_of v hv] at hle
  rcases Nat.lt_or_ge (val (gen : K)) v with hlt | hge
  · exfalso
    have hg0 : val (gen : K) ≠ 0 := fun e => gen_ne (val_eq_zero.mp e)
    by_cases hg1 : val (gen : K) = 1
    · have : (gen : K) = 1 := val_inj (by rw [hg1, val_one])
      have h5 : IsOrd (gen : K) 1 := ⟨by omega, by rw [pw_1, this], fun k h1 h2 => by omega⟩
      have := h5.uniq gen_ord
      omega
    · obtain ⟨k, k1, k2, k3⟩ := h3 (val (gen : K)) (by omega) hlt
      rw [pb_val 12 _ _ (by omega)] at k3
      exact (gen_ord (K := K)).least k k1 k2 (val_inj (by rw [k3, val_one]))
  · omega
end
end Go.Proofs.Ythcjmmicjbfpgaa.Alg

/-
A codeword's syndromes are 0.
-/
namespace Go.Proofs.Ythcjmmicjbfpgaa.Alg
section
variable {K : Type} [GF K]
open Fld GF

theorem atl_reverse {l : List K} {i : Nat} (h : i < l.length) : atl l.reverse i = atl l (l.length - 1 - i) := by
  unfold atl
  rw [List.getD_eq_getElem?_getD, List.getD_eq_getElem?_getD, List.getElem?_reverse h]
/-- a word's value, its first symbol at the highest power -/
def wv (l : List K) (x : K) : K := S l.length (fun i => atl l i * pw x (l.length - 1 - i))
theorem ev_rev (l : List K) (x : K) : ev l.length (atl l.reverse) x = wv l x := by
  unfold ev wv
  rw [S_rev]
  refine S_congr (fun i hi => ?_)
  rw [atl_reverse (by omega), show l.length - 1 - (l.length - 1 - i) = i by omega]
theorem wv_snoc (l : List K) (d x : K) : wv (l ++ [d]) x = wv l x * x + d := by
  unfold wv
  rw [List.length_append, List.length_singleton]
  show S l.length (fun i => atl (l ++ [d]) i * pw x (l.length - i)) + atl (l ++ [d]) l.length * pw x (l.length - l.length) = _
  rw [atl_append_last, Nat.sub_self]
  congr 1
  · rw [← S_mul_right]
    refine S_congr (fun i hi => ?_)
    rw [atl_append_left hi, mul_assoc, show l.length - i = (l.length - 1 - i) + 1 by omega]
    rfl
  · exact mul_one d

theorem conv_two (P : Nat → K) (a b : K) (k : Nat) : conv P (atl [a, b]) (k + 1) = a * P (k + 1) + b * P k := by
  rw [conv_comm]
  unfold conv
  rw [S_head, S_head, S_zero (n := k) (fun i hi => by rw [show atl [a, b] (i + 1 + 1) = 0 from atl_out (by simp), zero_mul]), add_zero]
  rfl
theorem ev_mul1 {P : Nat → K} {m : Nat} {a x : K} (h : ∀ k, m ≤ k → P k = 0) : ev (m + 1) (conv P (atl [0 - a, 1])) x = (x - a) * ev m P x := by
  have h0 : conv P (atl [0 - a, 1]) 0 = (0 - a) * P 0 := by
    rw [conv_comm]
    show 0 + atl [0 - a, 1] 0 * P 0 = _
    rw [zero_add]; rfl
  have h1 : ev (m + 1) P x = ev m P x := ev_more (by omega) h
  unfold ev at h1 ⊢
  rw [S_head] at h1
  rw [S_head, h0]
  have h2 : S m (fun i => conv P (atl [0 - a, 1]) (i + 1) * pw x (i + 1)) = (0 - a) * S m (fun i => P (i + 1) * pw x (i + 1)) + x * S m (fun i => P i * pw x i) := by
    rw [← S_mul, ← S_mul, ← S_add]
    refine S_congr (fun i _ => ?_)
    rw [conv_two, add_mul, one_mul, mul_assoc]
    congr 1
    show P i * (pw x i * x) = _
    ac_rfl
  rw [h2]
  have h3 : (0 - a) * P 0 * pw x 0 = (0 - a) * (P 0 * pw x 0) := mul_assoc _ _ _
  rw [h3, ← add_assoc, ← mul_add, h1, zero_sub, sub_eq, add_mul, add_comm]
theorem ev_gen_zero (f : Nat) : ∀ n k, k < n → ev (n + 1) (atl (genL K f n)) (gz ((f : Int) + (k : Int))) = 0
  | n + 1, k, hk => by
    show ev (n + 1 + 1) (atl (mulL (genL K f n) [0 - gz ((f : Int) + (n : Int)), 1])) _ = 0
    rw [atl_mulL _ _ (by rw [genL_length]; omega), ev_mul1 (fun j hj => atl_out (by rw [genL_length]; exact hj))]
    by_cases e : k = n
    · subst e; rw [sub_self, zero_mul]
    · rw [ev_gen_zero f n k (by omega), mul_zero]
theorem gen_top (f : Nat) : ∀ n, atl (genL K f n) n = 1
  | 0 => rfl
  | n + 1 => by
    show atl (mulL (genL K f n) [0 - gz ((f : Int) + (n : Int)), 1]) (n + 1) = 1
    rw [atl_mulL _ _ (by rw [genL_length]; omega), conv_two, gen_top f n, atl_out (by rw [genL_length]; omega), mul_zero, zero_add, mul_one]

theorem remv_step {g : List K} {n : Nat} {x : K} (h0 : ev (n + 1) (atl g) x = 0) (h1 : atl g n = 1) (z : List K) (d : K) (hz : z.length = n) : wv (remS g n z d) x = wv z x * x + d * pw x n := by
  unfold wv
  rw [remS_length, hz]
  have e1 : S n (fun i => atl (remS g n z d) i * pw x (n - 1 - i)) = S n (fun i => atl z (i + 1) * pw x (n - 1 - i)) - (d + atl z 0) * S n (fun i => atl g (n - 1 - i) * pw x (n - 1 - i)) := by
    rw [← S_mul, ← S_sub]
    refine S_congr (fun i hi => ?_)
    unfold remS
    rw [atl_map_range _ hi, sub_mul, mul_assoc]
  have e2 : S n (fun i => atl g (n - 1 - i) * pw x (n - 1 - i)) = -(pw x n) := by
    have := S_rev n (fun i => atl g i * pw x i)
    rw [← this]
    unfold ev at h0
    have h2 : S n (fun i => atl g i * pw x i) + atl g n * pw x n = 0 := h0
    rw [h1, one_mul] at h2
    rw [add_comm] at h2
    exact neg_unique h2
  have e3 : S n (fun i => atl z (i + 1) * pw x (n - 1 - i)) + atl z 0 * pw x n = S n (fun i => atl z i * pw x (n - 1 - i)) * x := by
    have a1 : S (n + 1) (fun i => atl z i * pw x (n - i)) = S n (fun i => atl z i * pw x (n - 1 - i)) * x := by
      show S n _ + atl z n * pw x (n - n) = _
      rw [atl_out (by omega), zero_mul, add_zero, ← S_mul_right]
      refine S_congr (fun i hi => ?_)
      rw [mul_assoc, show n - i = (n - 1 - i) + 1 by omega]
      rfl
    rw [← a1, S_head, add_comm, Nat.sub_zero]
    congr 1
    refine S_congr (fun i hi => ?_)
    rw [show n - (i + 1) = n - 1 - i by omega]
  rw [e1, e2, ← e3, sub_eq, mul_neg, neg_neg, add_mul, add_assoc]
  congr 1
  exact add_comm _ _
theorem remv_all {g : List K} {n : Nat} {x : K} (h0 : ev (n + 1) (atl g) x = 0) (h1 : atl g n = 1) (l : List K) : ∀ k, k ≤ l.length → wv (remL g n (l.take k)) x = wv (l.take k) x * pw x n
  | 0, _ => by
    rw [List.take_zero]
    show S _ _ = S 0 _ * _
    show S _ _ = 0 * _
    rw [zero_mul]
    exact S_zero (fun i _ => by
      have : atl (remL g n ([] : List K)) i = 0 := atl_replicate
      rw [this, zero_mul])
  | k + 1, hk => by
    rw [remL_take (by omega), remv_step h0 h1 _ _ (remL_length _ _ _), remv_all h0 h1 l k (by omega), List.take_succ_eq_append_getElem (by omega), wv_snoc]
    have : atl l k = l[k] := by unfold atl; rw [List.getD_eq_getElem?_getD, List.getElem?_eq_getElem (by omega)]; rfl
    rw [this, add_mul]
    congr 1
    ac_rfl
theorem enc_wv {f n : Nat} (l : List K) {k : Nat} (hk : k < n) : wv (encL (genL K f n) n l) (gz ((f : Int) + (k : Int))) = 0 := by
  have h := remv_all (ev_gen_zero (K := K) f n k hk) (gen_top f n) l l.length (Nat.le_refl _)
  rw [List.take_length] at h
  generalize (gz ((f : Int) + (k : Int)) : K) = x at h ⊢
  have e : wv (encL (genL K f n) n l) x = wv l x * pw x n - wv (remL (genL K f n) n l) x := by
    unfold wv
    rw [encL_length, S_split, remL_length, sub_eq, ← S_neg, ← S_mul_right]
    congr 1
    · refine S_congr (fun i hi => ?_)
      unfold encL
      rw [atl_append_left hi, mul_assoc, ← pw_add, show l.length - 1 - i + n = l.length + n - 1 - i by omega]
    · refine S_congr (fun i hi => ?_)
      have : atl (encL (genL K f n) n l) (l.length + i) = -(atl (remL (genL K f n) n l) i) := by
        unfold encL atl
        rw [List.getD_eq_getElem?_getD, List.getD_eq_getElem?_getD, List.getElem?_append_right (by omega), Nat.add_sub_cancel_left, List.getElem?_map, List.getElem?_eq_getElem (by rw [remL_length]; exact hi)]
        exact zero_sub _
      rw [this, neg_mul, show l.length + n - 1 - (l.length + i) = n - 1 - i by omega]
  rw [e, h, sub_self]
theorem syn_at {f n : Nat} (l : List K) {k : Nat} (hk : k < n) : atl (synL f n l) k = wv l (gz ((f : Int) + (k : Int))) := by
  unfold synL
  rw [atl_map_range _ hk, ev_rev]
theorem syn_enc (f n : Nat) (l : List K) {k : Nat} (hk : k < n) : atl (synL f n (encL (genL K f n) n l)) k = 0 := by rw [syn_at _ hk, enc_wv l hk]
end
end Go.Proofs.Ythcjmmicjbfpgaa.Alg
