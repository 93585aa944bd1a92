/-
Plain algebra for Reed-Solomon codes: fields, sums, polynomials as coefficient functions. No program in sight.
-/

namespace Go.Proofs.Ythcjmmicjbfpgaa.Alg

class Fld (K : Type) extends Zero K, One K, Add K, Mul K, Neg K, Sub K where
  inv : K → K
  add_assoc : ∀ a b c : K, a + b + c = a + (b + c)
  add_comm : ∀ a b : K, a + b = b + a
  add_zero : ∀ a : K, a + 0 = a
  add_neg : ∀ a : K, a + -a = 0
  sub_eq : ∀ a b : K, a - b = a + -b
  mul_assoc : ∀ a b c : K, a * b * c = a * (b * c)
  mul_comm : ∀ a b : K, a * b = b * a
  mul_one : ∀ a : K, a * 1 = a
  mul_add : ∀ a b c : K, a * (b + c) = a * b + a * c
  one_ne : (1 : K) ≠ 0
  mul_inv : ∀ a : K, a ≠ 0 → a * inv a = 1

section ring
variable {K : Type} [Fld K]
open Fld

theorem zero_add (a : K) : 0 + a = a := by rw [add_comm, add_zero]
theorem neg_add_self (a : K) : -a + a = 0 := by rw [add_comm, add_neg]
theorem one_mul (a : K) : 1 * a = a := by rw [mul_comm, mul_one]
theorem add_mul (a b c : K) : (a + b) * c = a * c + b * c := by rw [mul_comm, mul_add, mul_comm c a, mul_comm c b]
theorem add_left_comm (a b c : K) : a + (b + c) = b + (a + c) := by rw [← add_assoc, add_comm a b, add_assoc]
theorem mul_left_comm (a b c : K) : a * (b * c) = b * (a * c) := by rw [← mul_assoc, mul_comm a b, mul_assoc]
theorem add_left_cancel {a b c : K} (h : a + b = a + c) : b = c := by
  have := congrArg (fun x => -a + x) h
  simpa [← add_assoc, neg_add_self, zero_add] using this
theorem add_right_cancel {a b c : K} (h : a + c = b + c) : a = b := by
  rw [add_comm a c, add_comm b c] at h; exact add_left_cancel h
theorem mul_zero (a : K) : a * 0 = 0 := by
  have h : a * 0 + a * 0 = a * 0 + 0 := by rw [← mul_add, add_zero, add_zero]
  exact add_left_cancel h
theorem zero_mul (a : K) : 0 * a = 0 := by rw [mul_comm, mul_zero]
theorem neg_unique {a b : K} (h : a + b = 0) : b = -a := by
  have : a + b = a + -a := by rw [h, add_neg]
  exact add_left_cancel this
theorem neg_neg (a : K) : - -a = a := (neg_unique (neg_add_self a)).symm
theorem neg_zero : -(0 : K) = 0 := (neg_unique (add_zero (0 : K))).symm
theorem mul_neg (a b : K) : a * -b = -(a * b) := neg_unique (by rw [← mul_add, add_neg, mul_zero])
theorem neg_mul (a b : K) : -a * b = -(a * b) := by rw [mul_comm, mul_neg, mul_comm]
theorem neg_add (a b : K) : -(a + b) = -a + -b := by
  symm; apply neg_unique
  rw [add_assoc, add_left_comm b, add_neg, add_zero, add_neg]
theorem sub_self (a : K) : a - a = 0 := by rw [sub_eq, add_neg]
theorem sub_zero (a : K) : a - 0 = a := by rw [sub_eq, neg_zero, add_zero]
theorem zero_sub (a : K) : 0 - a = -a := by rw [sub_eq, zero_add]
theorem sub_eq_zero {a b : K} (h : a - b = 0) : a = b := by
  rw [sub_eq] at h
  have : a + -b = b + -b := by rw [h, add_neg]
  exact add_right_cancel this
theorem sub_add_cancel (a b : K) : a - b + b = a := by rw [sub_eq, add_assoc, neg_add_self, add_zero]
theorem add_sub_cancel (a b : K) : a + b - b = a := by rw [sub_eq, add_assoc, add_neg, add_zero]
theorem mul_sub (a b c : K) : a * (b - c) = a * b - a * c := by rw [sub_eq, mul_add, mul_neg, sub_eq]
theorem sub_mul (a b c : K) : (a - b) * c = a * c - b * c := by rw [sub_eq, add_mul, neg_mul, sub_eq]
theorem neg_sub (a b : K) : -(a - b) = b - a := by rw [sub_eq, neg_add, neg_neg, sub_eq, add_comm]
theorem inv_mul {a : K} (h : a ≠ 0) : inv a * a = 1 := by rw [mul_comm, mul_inv a h]
theorem mul_left_cancel {a b c : K} (ha : a ≠ 0) (h : a * b = a * c) : b = c := by
  have := congrArg (fun x => inv a * x) h
  simpa [← mul_assoc, inv_mul ha, one_mul] using this
theorem mul_eq_zero {a b : K} (h : a * b = 0) : a = 0 ∨ b = 0 := by
  by_cases ha : a = 0
  · exact Or.inl ha
  · right; exact mul_left_cancel ha (by rw [h, mul_zero])
theorem mul_ne_zero {a b : K} (ha : a ≠ 0) (hb : b ≠ 0) : a * b ≠ 0 := fun h => (mul_eq_zero h).elim ha hb
theorem inv_ne {a : K} (ha : a ≠ 0) : inv a ≠ 0 := fun h => one_ne (K := K) (by rw [← mul_inv a ha, h, mul_zero])
theorem inv_unique {a b : K} (ha : a ≠ 0) (h : a * b = 1) : b = inv a := mul_left_cancel ha (by rw [h, mul_inv a ha])
theorem inv_inv {a : K} (ha : a ≠ 0) : inv (inv a) = a := (inv_unique (inv_ne ha) (inv_mul ha)).symm
theorem neg_ne {a : K} (h : a ≠ 0) : -a ≠ 0 := fun e => h (by rw [← neg_neg a, e, neg_zero])

instance : Std.Associative (α := K) (· + ·) := ⟨add_assoc⟩
instance : Std.Commutative (α := K) (· + ·) := ⟨add_comm⟩
instance : Std.Associative (α := K) (· * ·) := ⟨mul_assoc⟩
instance : Std.Commutative (α := K) (· * ·) := ⟨mul_comm⟩

/-! sums -/
def S : Nat → (Nat → K) → K
  | 0, _ => 0
  | n + 1, f => S n f + f n

theorem S_congr {n : Nat} {f g : Nat → K} (h : ∀ i, i < n → f i = g i) : S n f = S n g := by
  induction n with
  | zero => rfl
  | succ n ih => simp only [S]; rw [ih (fun i hi => h i (by omega)), h n (by omega)]

theorem S_zero {n : Nat} {f : Nat → K} (h : ∀ i, i < n → f i = 0) : S n f = 0 := by
  induction n with
  | zero => rfl
  | succ n ih => simp only [S]; rw [ih (fun i hi => h i (by omega)), h n (by omega), add_zero]

theorem S_add (n : Nat) (f g : Nat → K) : S n (fun i => f i + g i) = S n f + S n g := by
  induction n with
  | zero => simp only [S]; rw [add_zero]
  | succ n ih => simp only [S]; rw [ih]; ac_rfl

theorem S_mul (n : Nat) (a : K) (f : Nat → K) : S n (fun i => a * f i) = a * S n f := by
  induction n with
  | zero => simp only [S]; rw [mul_zero]
  | succ n ih => simp only [S]; rw [ih, mul_add]

theorem S_mul_right (n : Nat) (a : K) (f : Nat → K) : S n (fun i => f i * a) = S n f * a := by
  rw [mul_comm, ← S_mul]; exact S_congr (fun i _ => mul_comm _ _)

theorem S_neg (n : Nat) (f : Nat → K) : S n (fun i => -(f i)) = -(S n f) := by
  induction n with
  | zero => simp only [S]; rw [neg_zero]
  | succ n ih => simp only [S]; rw [ih, neg_add]

theorem S_sub (n : Nat) (f g : Nat → K) : S n (fun i => f i - g i) = S n f - S n g := by
  rw [sub_eq, ← S_neg, ← S_add]; exact S_congr (fun i _ => sub_eq _ _)

theorem S_swap (n m : Nat) (f : Nat → Nat → K) : S n (fun i => S m (fun j => f i j)) = S m (fun j => S n (fun i => f i j)) := by
  induction n with
  | zero => simp only [S]; exact (S_zero (fun _ _ => rfl)).symm
  | succ n ih => simp only [S]; rw [ih, ← S_add]

theorem S_split (n m : Nat) (f : Nat → K) : S (n + m) f = S n f + S m (fun i => f (n + i)) := by
  induction m with
  | zero => simp only [S, Nat.add_zero]; rw [add_zero]
  | succ m ih => rw [← Nat.add_assoc]; simp only [S]; rw [ih, add_assoc]

theorem S_more {n m : Nat} {f : Nat → K} (hm : n ≤ m) (h : ∀ i, n ≤ i → i < m → f i = 0) : S m f = S n f := by
  obtain ⟨d, rfl⟩ : ∃ d, m = n + d := ⟨m - n, by omega⟩
  rw [S_split, S_zero (n := d) (fun i hi => h _ (by omega) (by omega)), add_zero]

theorem S_head (n : Nat) (f : Nat → K) : S (n + 1) f = f 0 + S n (fun i => f (i + 1)) := by
  rw [Nat.add_comm n 1, S_split]; simp only [S]; rw [zero_add]
  congr 1; exact S_congr (fun i _ => by rw [Nat.add_comm])

theorem S_rev (n : Nat) (f : Nat → K) : S n f = S n (fun i => f (n - 1 - i)) := by
  induction n generalizing f with
  | zero => rfl
  | succ n ih =>
    rw [S_head, ih]; simp only [S]
    rw [add_comm]
    congr 1
    · exact S_congr (fun i hi => by congr 1; omega)
    · congr 1; omega

/-- a sum with one term alone -/
theorem S_one {n k : Nat} {f : Nat → K} (hk : k < n) (h : ∀ i, i < n → i ≠ k → f i = 0) : S n f = f k := by
  rw [S_more (n := k + 1) (by omega) (fun i h1 h2 => h i h2 (by omega))]
  simp only [S]
  rw [S_zero (fun i hi => h i (by omega) (by omega)), zero_add]

/-! powers -/
def pw (a : K) : Nat → K
  | 0 => 1
  | n + 1 => pw a n * a

theorem pw_add (a : K) (m n : Nat) : pw a (m + n) = pw a m * pw a n := by
  induction n with
  | zero => simp only [Nat.add_zero, pw]; rw [mul_one]
  | succ n ih => rw [← Nat.add_assoc]; simp only [pw]; rw [ih, mul_assoc]
theorem pw_one (n : Nat) : pw (1 : K) n = 1 := by
  induction n with
  | zero => rfl
  | succ n ih => simp only [pw]; rw [ih, mul_one]
theorem pw_1 (a : K) : pw a 1 = a := by simp only [pw]; rw [one_mul]
theorem pw_succ' (a : K) (n : Nat) : pw a (n + 1) = a * pw a n := by simp only [pw]; rw [mul_comm]
theorem pw_mul (a : K) (m n : Nat) : pw a (m * n) = pw (pw a m) n := by
  induction n with
  | zero => simp only [Nat.mul_zero, pw]
  | succ n ih => rw [Nat.mul_succ, pw_add, ih]; rfl
theorem pw_mul_base (a b : K) (n : Nat) : pw (a * b) n = pw a n * pw b n := by
  induction n with
  | zero => simp only [pw]; rw [mul_one]
  | succ n ih => simp only [pw]; rw [ih]; ac_rfl
theorem pw_ne {a : K} (h : a ≠ 0) (n : Nat) : pw a n ≠ 0 := by
  induction n with
  | zero => exact one_ne
  | succ n ih => exact mul_ne_zero ih h
theorem pw_sub {a : K} (h : a ≠ 0) {m n : Nat} (hmn : m ≤ n) (e : pw a m = pw a n) : pw a (n - m) = 1 := by
  have : pw a n = pw a m * pw a (n - m) := by rw [← pw_add]; congr 1; omega
  exact mul_left_cancel (pw_ne h m) (by rw [← this, mul_one, e])
theorem inv_one : inv (1 : K) = 1 := (inv_unique one_ne (mul_one _)).symm
theorem inv_pw {a : K} (h : a ≠ 0) (n : Nat) : pw (inv a) n = inv (pw a n) := by
  apply inv_unique (pw_ne h n)
  rw [← pw_mul_base, mul_inv a h, pw_one]
theorem inv_mul_inv {a b : K} (ha : a ≠ 0) (hb : b ≠ 0) : inv (a * b) = inv a * inv b := by
  symm; apply inv_unique (mul_ne_zero ha hb)
  rw [show a * b * (inv a * inv b) = (a * inv a) * (b * inv b) by ac_rfl, mul_inv a ha, mul_inv b hb, mul_one]

end ring
end Go.Proofs.Ythcjmmicjbfpgaa.Alg

/-
Polynomials as coefficient functions: the product of linear factors, its values, the count of roots.
-/
namespace Go.Proofs.Ythcjmmicjbfpgaa.Alg
section poly
variable {K : Type} [Fld K]
open Fld

/-- the value of the first n coefficients at x -/
def ev (n : Nat) (f : Nat → K) (x : K) : K := S n (fun i => f i * pw x i)
/-- the value of the reversed polynomial of length L + 1 -/
def rv (L : Nat) (f : Nat → K) (x : K) : K := S (L + 1) (fun k => f k * pw x (L - k))
/-- times 1 - a x -/
def ml (a : K) (Q : Nat → K) : Nat → K
  | 0 => Q 0
  | k + 1 => Q (k + 1) - a * Q k
/-- the product of 1 - a x over a list -/
def loc : List K → Nat → K
  | [] => fun k => if k = 0 then 1 else 0
  | a :: l => ml a (loc l)

theorem ml_0 (a : K) (Q : Nat → K) : ml a Q 0 = Q 0 := rfl
theorem loc_0 (l : List K) : loc l 0 = 1 := by
  induction l with
  | nil => rfl
  | cons a l ih => simp only [loc, ml]; exact ih
theorem ml_supp {a : K} {Q : Nat → K} {n : Nat} (h : ∀ k, n ≤ k → Q k = 0) : ∀ k, n + 1 ≤ k → ml a Q k = 0 := by
  intro k hk
  cases k with
  | zero => omega
  | succ k => simp only [ml]; rw [h (k + 1) (by omega), h k (by omega), mul_zero, sub_zero]
theorem loc_supp (l : List K) : ∀ k, l.length < k → loc l k = 0 := by
  induction l with
  | nil => intro k hk; simp only [loc]; rw [if_neg (by simp at hk; omega)]
  | cons a l ih =>
    intro k hk
    simp only [loc]
    exact ml_supp (n := l.length + 1) (fun k hk => ih k (by omega)) k (by simp at hk; omega)

theorem ml_comm (a b : K) (Q : Nat → K) : ml a (ml b Q) = ml b (ml a Q) := by
  funext k
  match k with
  | 0 => rfl
  | 1 => simp only [ml, sub_eq]; ac_rfl
  | k + 2 =>
    simp only [ml, sub_eq, neg_add, neg_neg, mul_add, mul_neg]
    rw [mul_left_comm b a]; ac_rfl

theorem loc_perm {l m : List K} (h : l.Perm m) : loc l = loc m := by
  induction h with
  | nil => rfl
  | cons a _ ih => simp only [loc]; rw [ih]
  | swap a b l => simp only [loc]; exact ml_comm _ _ _
  | trans _ _ ih1 ih2 => rw [ih1, ih2]

theorem loc_erase [DecidableEq K] {l : List K} {a : K} (h : a ∈ l) : loc l = ml a (loc (l.erase a)) :=
  (loc_perm (List.perm_cons_erase h) : _)

theorem ev_more {n m : Nat} {f : Nat → K} {x : K} (hm : n ≤ m) (h : ∀ k, n ≤ k → f k = 0) : ev m f x = ev n f x :=
  S_more hm (fun i h1 _ => by rw [h i h1, zero_mul])

theorem ev_ml {n : Nat} {Q : Nat → K} {a x : K} (h : ∀ k, n ≤ k → Q k = 0) : ev (n + 1) (ml a Q) x = (1 - a * x) * ev n Q x := by
  have e1 : ev (n + 1) (ml a Q) x = ev (n + 1) Q x - a * x * ev n Q x := by
    unfold ev
    rw [S_head, S_head n (fun i => Q i * pw x i), ← S_mul, sub_eq, add_assoc, ← S_neg, ← S_add]
    congr 1
    apply S_congr
    intro i _
    simp only [ml, pw, sub_eq, add_mul, neg_mul]
    congr 1; congr 1; ac_rfl
  rw [e1, ev_more (Nat.le_succ n) h, sub_mul, one_mul]

theorem ev_loc_cons (a : K) (l : List K) (x : K) : ev ((a :: l).length + 1) (loc (a :: l)) x = (1 - a * x) * ev (l.length + 1) (loc l) x :=
  ev_ml (n := l.length + 1) (fun k hk => loc_supp l k (by omega))

theorem ev_loc_zero {l : List K} {x : K} : ev (l.length + 1) (loc l) x = 0 ↔ ∃ a, a ∈ l ∧ a * x = 1 := by
  induction l with
  | nil =>
    simp only [ev, S, loc, pw, List.length_nil, if_true]
    constructor
    · intro h; exact absurd (by simpa [zero_add, mul_one] using h) (one_ne (K := K))
    · rintro ⟨a, h, _⟩; cases h
  | cons a l ih =>
    rw [ev_loc_cons]
    constructor
    · intro h
      rcases mul_eq_zero h with h | h
      · exact ⟨a, List.mem_cons_self, (sub_eq_zero h).symm⟩
      · obtain ⟨b, hb, e⟩ := ih.mp h; exact ⟨b, List.mem_cons_of_mem _ hb, e⟩
    · rintro ⟨b, hb, e⟩
      rcases List.mem_cons.mp hb with rfl | hb
      · rw [e, sub_self, zero_mul]
      · rw [ih.mpr ⟨b, hb, e⟩, mul_zero]

theorem loc_last {l : List K} (h : ∀ a, a ∈ l → a ≠ 0) : loc l l.length ≠ 0 := by
  induction l with
  | nil => simp only [loc, List.length_nil, if_true]; exact one_ne
  | cons a l ih =>
    simp only [loc, List.length_cons, ml]
    rw [loc_supp l (l.length + 1) (by omega), zero_sub]
    exact neg_ne (mul_ne_zero (h a List.mem_cons_self) (ih (fun b hb => h b (List.mem_cons_of_mem _ hb))))

/-! reversed values -/
theorem rv_succ (L : Nat) (f : Nat → K) (x : K) : rv (L + 1) f x = x * rv L f x + f (L + 1) := by
  unfold rv
  have : S (L + 1 + 1) (fun k => f k * pw x (L + 1 - k)) = S (L + 1) (fun k => f k * pw x (L + 1 - k)) + f (L + 1) * pw x (L + 1 - (L + 1)) := rfl
  rw [this, Nat.sub_self]; simp only [pw]; rw [mul_one, ← S_mul]
  congr 1
  apply S_congr
  intro i hi
  rw [show L + 1 - i = (L - i) + 1 by omega]; simp only [pw]; ac_rfl

theorem rv_zero (f : Nat → K) (x : K) : rv 0 f x = f 0 := by
  show 0 + f 0 * 1 = f 0
  rw [zero_add, mul_one]

theorem rv_ml {L : Nat} {Q : Nat → K} {a x : K} (h : ∀ k, L < k → Q k = 0) : rv (L + 1) (ml a Q) x = (x - a) * rv L Q x := by
  unfold rv
  rw [S_head]
  simp only [ml]
  have e1 : (fun i => (Q (i + 1) - a * Q i) * pw x (L + 1 - (i + 1))) = fun i => Q (i + 1) * pw x (L + 1 - (i + 1)) - a * (Q i * pw x (L - i)) := by
    funext i; rw [sub_mul, mul_assoc, Nat.add_sub_add_right]
  rw [e1, S_sub, S_mul, sub_eq, ← add_assoc]
  have e2 := S_head (L + 1) (fun i => Q i * pw x (L + 1 - i))
  rw [← e2]
  have e3 : S (L + 1 + 1) (fun i => Q i * pw x (L + 1 - i)) = S (L + 1) (fun i => Q i * pw x (L + 1 - i)) + Q (L + 1) * pw x (L + 1 - (L + 1)) := rfl
  rw [e3, h (L + 1) (by omega), zero_mul, add_zero, sub_mul, sub_eq]
  congr 1
  rw [← S_mul]
  apply S_congr
  intro i hi
  rw [show L + 1 - i = (L - i) + 1 by omega]; simp only [pw]; ac_rfl

theorem rv_loc_zero {l : List K} {x : K} : rv l.length (loc l) x = 0 ↔ x ∈ l := by
  induction l with
  | nil =>
    simp only [List.length_nil, rv_zero, loc_0]
    constructor
    · intro h; exact absurd h one_ne
    · intro h; cases h
  | cons a l ih =>
    simp only [List.length_cons, loc]
    rw [rv_ml (loc_supp l)]
    constructor
    · intro h
      rcases mul_eq_zero h with h | h
      · rw [sub_eq_zero h]; exact List.mem_cons_self
      · exact List.mem_cons_of_mem _ (ih.mp h)
    · intro h
      rcases List.mem_cons.mp h with rfl | h
      · rw [sub_self, zero_mul]
      · rw [ih.mpr h, mul_zero]

/-- division by 1 - a x, where a is a root of the reversed polynomial -/
theorem divide {L : Nat} {C : Nat → K} {a : K} (hs : ∀ k, L + 1 < k → C k = 0) (hr : rv (L + 1) C a = 0) :
    ∃ Q : Nat → K, (∀ k, L < k → Q k = 0) ∧ C = ml a Q := by
  refine ⟨fun k => rv k C a, ?_, ?_⟩
  · intro k hk
    obtain ⟨d, rfl⟩ : ∃ d, k = L + 1 + d := ⟨k - (L + 1), by omega⟩
    clear hk
    induction d with
    | zero => exact hr
    | succ d ih => show rv (L + 1 + d + 1) C a = 0; rw [rv_succ, show rv (L + 1 + d) C a = 0 from ih, mul_zero, zero_add]; exact hs _ (by omega)
  · funext k
    cases k with
    | zero => simp only [ml, rv_zero]
    | succ k => simp only [ml]; rw [rv_succ, add_comm, add_sub_cancel]

/-- a polynomial of length L + 1 has at most L roots, and where it has L, it is the product of its factors -/
theorem roots_count (l : List K) : ∀ (L : Nat) (C : Nat → K), l.Nodup → C 0 = 1 → (∀ k, L < k → C k = 0) → (∀ x, x ∈ l → rv L C x = 0) →
    l.length ≤ L ∧ (L = l.length → C = loc l) := by
  induction l with
  | nil =>
    intro L C _ h0 hs _
    refine ⟨Nat.zero_le _, ?_⟩
    intro hL
    funext k
    cases k with
    | zero => rw [h0]; rfl
    | succ k => rw [hs _ (by simp at hL; omega)]; rfl
  | cons a l ih =>
    intro L C hn h0 hs hr
    cases L with
    | zero =>
      have := hr a List.mem_cons_self
      rw [rv_zero, h0] at this
      exact absurd this one_ne
    | succ L =>
      obtain ⟨Q, hQ, rfl⟩ := divide hs (hr a List.mem_cons_self)
      obtain ⟨ha, hn'⟩ := List.nodup_cons.mp hn
      have := ih L Q hn' h0 hQ (fun x hx => by
        have h := hr x (List.mem_cons_of_mem _ hx)
        rw [rv_ml hQ] at h
        rcases mul_eq_zero h with h | h
        · exact absurd (sub_eq_zero h ▸ hx) ha
        · exact h)
      refine ⟨by simp only [List.length_cons]; omega, ?_⟩
      intro hL
      simp only [loc]
      rw [this.2 (by simp only [List.length_cons] at hL; omega)]

/-- k times 1 -/
def nc : Nat → K
  | 0 => 0
  | n + 1 => nc n + 1

/-- the coefficients of a product -/
def conv (f g : Nat → K) (k : Nat) : K := S (k + 1) (fun i => f i * g (k - i))

theorem conv_comm (f g : Nat → K) (k : Nat) : conv f g k = conv g f k := by
  unfold conv
  rw [S_rev]
  apply S_congr
  intro i hi
  rw [show k + 1 - 1 - i = k - i by omega, show k - (k - i) = i by omega, mul_comm]

end poly
end Go.Proofs.Ythcjmmicjbfpgaa.Alg

/-
The algorithm of Berlekamp and Massey: its invariant, and what its answer is where the sequence is a sum of few powers.
-/
namespace Go.Proofs.Ythcjmmicjbfpgaa.Alg
section bm
variable {K : Type} [Fld K]
open Fld

/-- the sum of C[i] * s[j - i] for i from 0 to L -/
def dis (C : Nat → K) (L : Nat) (s : Nat → K) (j : Nat) : K := S (L + 1) (fun i => C i * s (j - i))

/-- the recurrence of length L holds at all places from L on and below n -/
def recur (C : Nat → K) (L : Nat) (s : Nat → K) (n : Nat) : Prop := ∀ j, L ≤ j → j < n → dis C L s j = 0

theorem dis_more {C : Nat → K} {L M : Nat} {s : Nat → K} {j : Nat} (h : L ≤ M) (hs : ∀ k, L < k → C k = 0) : dis C M s j = dis C L s j :=
  S_more (by omega) (fun i h1 _ => by rw [hs i (by omega), zero_mul])

/-- two recurrences, of which the first one fails at n and the second one does not, are long together -/
theorem massey {C D : Nat → K} {L M n : Nat} {s : Nat → K} (hD0 : D 0 = 1)
    (hC : recur C L s n) (hd : dis C L s n ≠ 0) (hD : recur D M s (n + 1)) : n + 1 ≤ L + M := by
  apply Classical.byContradiction
  intro hn
  apply hd
  have e1 : S (L + 1) (fun i => C i * S (M + 1) (fun k => D k * s (n - i - k))) = 0 :=
    S_zero (fun i hi => by
      have := hD (n - i) (by omega) (by omega)
      unfold dis at this
      rw [this, mul_zero])
  have e2 : S (L + 1) (fun i => C i * S (M + 1) (fun k => D k * s (n - i - k))) = S (M + 1) (fun k => D k * S (L + 1) (fun i => C i * s (n - k - i))) := by
    have a1 : S (L + 1) (fun i => C i * S (M + 1) (fun k => D k * s (n - i - k))) = S (L + 1) (fun i => S (M + 1) (fun k => C i * (D k * s (n - i - k)))) :=
      S_congr (fun i _ => (S_mul _ _ _).symm)
    rw [a1, S_swap]
    apply S_congr
    intro k _
    rw [← S_mul]
    apply S_congr
    intro i _
    rw [mul_left_comm, Nat.sub_right_comm]
  rw [e2, S_head] at e1
  have e3 : S M (fun i => D (i + 1) * S (L + 1) (fun i_1 => C i_1 * s (n - (i + 1) - i_1))) = 0 :=
    S_zero (fun k hk => by
      have := hC (n - (k + 1)) (by omega) (by omega)
      unfold dis at this
      rw [this, mul_zero])
  rw [e3, add_zero, hD0, one_mul] at e1
  exact e1

/-- the state of the algorithm, before syndrome number n -/
structure Inv (s : Nat → K) (n : Nat) (C B : Nat → K) (L m : Nat) (b : K) : Prop where
  c0 : C 0 = 1
  cs : ∀ k, L < k → C k = 0
  ln : L ≤ n
  cg : recur C L s n
  bne : b ≠ 0
  mpos : 1 ≤ m
  back : (L = 0 ∧ m = n + 1 ∧ B = loc [] ∧ ∀ j, j < n → s j = 0) ∨
    (m ≤ n ∧ ∃ M, B 0 = 1 ∧ (∀ k, M < k → B k = 0) ∧ M ≤ n - m ∧ recur B M s (n - m) ∧ dis B M s (n - m) = b ∧ L + M = n - m + 1)

theorem inv_start (s : Nat → K) : Inv s 0 (loc []) (loc []) 0 1 1 where
  c0 := rfl
  cs := fun k hk => by simp only [loc]; rw [if_neg (by omega)]
  ln := Nat.le_refl _
  cg := fun j _ h => by omega
  bne := one_ne
  mpos := Nat.le_refl _
  back := Or.inl ⟨rfl, rfl, rfl, fun j h => by omega⟩

theorem Inv.least {s : Nat → K} {n : Nat} {C B : Nat → K} {L m : Nat} {b : K} (h : Inv s n C B L m b) {D : Nat → K} {M : Nat}
    (hD0 : D 0 = 1) (hD : recur D M s n) : L ≤ M := by
  rcases h.back with ⟨h0, _⟩ | ⟨hm, N, _, _, hN, hg, hb, hL⟩
  · omega
  · have := massey hD0 hg (by rw [hb]; exact h.bne) (fun j h1 h2 => hD j h1 (by have := h.mpos; omega))
    omega

theorem Inv.keep {s : Nat → K} {n : Nat} {C B : Nat → K} {L m : Nat} {b : K} (h : Inv s n C B L m b) (hd : dis C L s n = 0) :
    Inv s (n + 1) C B L (m + 1) b where
  c0 := h.c0
  cs := h.cs
  ln := by have := h.ln; omega
  cg := fun j h1 h2 => by
    by_cases e : j = n
    · rw [e]; exact hd
    · exact h.cg j h1 (by omega)
  bne := h.bne
  mpos := by omega
  back := by
    rcases h.back with ⟨h0, h1, h2, h3⟩ | ⟨hm, N, hN⟩
    · refine Or.inl ⟨h0, by omega, h2, ?_⟩
      intro j hj
      by_cases e : j = n
      · subst h0
        have hc := h.c0
        simp only [dis, S, Nat.sub_zero] at hd
        rw [zero_add, hc, one_mul] at hd
        rw [e]; exact hd
      · exact h3 j (by omega)
    · refine Or.inr ⟨by omega, N, ?_⟩
      rw [show n + 1 - (m + 1) = n - m by omega]; exact hN

/-- C - k x^m B -/
def nxt (C B : Nat → K) (m : Nat) (k : K) : Nat → K := fun i => C i - (if i < m then 0 else k * B (i - m))

theorem dis_nxt {C B : Nat → K} {m L : Nat} {k : K} {s : Nat → K} {j : Nat} (hm : m ≤ L + 1) :
    dis (nxt C B m k) L s j = dis C L s j - k * S (L + 1 - m) (fun i => B i * s (j - m - i)) := by
  unfold dis nxt
  have e : (fun i => (C i - (if i < m then 0 else k * B (i - m))) * s (j - i)) = fun i => C i * s (j - i) - (if i < m then 0 else k * B (i - m)) * s (j - i) := by
    funext i; rw [sub_mul]
  rw [e, S_sub]
  congr 1
  have hsplit : L + 1 = m + (L + 1 - m) := by omega
  rw [hsplit, S_split, S_zero (n := m) (fun i hi => by simp only [if_pos hi]; rw [zero_mul]), zero_add, ← S_mul]
  rw [show m + (L + 1 - m) - m = L + 1 - m by omega]
  apply S_congr
  intro i _
  simp only [if_neg (show ¬ m + i < m by omega)]
  rw [show m + i - m = i by omega, mul_assoc, Nat.sub_add_eq]

theorem Inv.new {s : Nat → K} {n : Nat} {C B : Nat → K} {L m : Nat} {b : K} (h : Inv s n C B L m b) {k : K} (hk : k * b = dis C L s n)
    (L' : Nat) (hL' : L' = max L (n + 1 - L)) :
    (nxt C B m k) 0 = 1 ∧ (∀ i, L' < i → nxt C B m k i = 0) ∧ L' ≤ n + 1 ∧ recur (nxt C B m k) L' s (n + 1) := by
  have hmp := h.mpos
  have hln := h.ln
  have hlm := Nat.le_max_left L (n + 1 - L)
  have hrm := Nat.le_max_right L (n + 1 - L)
  have hub : max L (n + 1 - L) ≤ n + 1 := Nat.max_le.mpr ⟨by omega, by omega⟩
  refine ⟨by simp only [nxt]; rw [if_pos (by omega), sub_zero, h.c0], ?_, by omega, ?_⟩
  · intro i hi
    simp only [nxt]
    rw [h.cs i (by omega), zero_sub]
    rcases h.back with ⟨h0, h1, h2, _⟩ | ⟨hm, N, _, hs, _, _, _, hL⟩
    · by_cases e : i < m
      · rw [if_pos e, neg_zero]
      · rw [if_neg e, h2, loc_supp [] (i - m) (by simp; omega), mul_zero, neg_zero]
    · by_cases e : i < m
      · rw [if_pos e, neg_zero]
      · rw [if_neg e, hs (i - m) (by omega), mul_zero, neg_zero]
  · intro j h1 h2
    rcases h.back with ⟨h0, h3, h4, h5⟩ | ⟨hm, N, _, hs, _, hg, hb, hL⟩
    · omega
    · rw [dis_nxt (by omega), dis_more (by omega) h.cs]
      have e1 : S (L' + 1 - m) (fun i => B i * s (j - m - i)) = dis B N s (j - m) :=
        S_more (by omega) (fun i h1 _ => by rw [hs i (by omega), zero_mul])
      rw [e1]
      by_cases e : j = n
      · rw [e, hb, hk, sub_self]
      · rw [h.cg j (by omega) (by omega), hg (j - m) (by omega) (by omega), mul_zero, sub_zero]

theorem Inv.change {s : Nat → K} {n : Nat} {C B : Nat → K} {L m : Nat} {b : K} (h : Inv s n C B L m b) {k : K} (hk : k * b = dis C L s n) (hd : dis C L s n ≠ 0)
    (h2 : 2 * L ≤ n) : Inv s (n + 1) (nxt C B m k) C (n + 1 - L) 1 (dis C L s n) := by
  have hln := h.ln
  obtain ⟨a1, a2, a3, a4⟩ := h.new hk (n + 1 - L) (by rw [Nat.max_def]; split <;> omega)
  exact ⟨a1, a2, a3, a4, hd, Nat.le_refl _, Or.inr ⟨by omega, L, h.c0, h.cs, by omega, by rw [Nat.add_sub_cancel]; exact h.cg, by rw [Nat.add_sub_cancel], by omega⟩⟩

theorem Inv.longer {s : Nat → K} {n : Nat} {C B : Nat → K} {L m : Nat} {b : K} (h : Inv s n C B L m b) {k : K} (hk : k * b = dis C L s n)
    (h2 : n < 2 * L) : Inv s (n + 1) (nxt C B m k) B L (m + 1) b := by
  have hln := h.ln
  obtain ⟨a1, a2, a3, a4⟩ := h.new hk L (by rw [Nat.max_def]; split <;> omega)
  refine ⟨a1, a2, a3, a4, h.bne, by omega, Or.inr ?_⟩
  rcases h.back with ⟨h0, _⟩ | ⟨hm, N, hN⟩
  · omega
  · refine ⟨by omega, N, ?_⟩
    rw [show n + 1 - (m + 1) = n - m by omega]; exact hN

/-! sequences that are sums of powers -/
/-- the sequence of the sums of Y[i] * X[i]^n -/
def pows (N : Nat) (X Y : Nat → K) (n : Nat) : K := S N (fun i => Y i * pw (X i) n)

theorem dis_pows {C : Nat → K} {L N j : Nat} {X Y : Nat → K} (hj : L ≤ j) :
    dis C L (pows N X Y) j = S N (fun i => Y i * rv L C (X i) * pw (X i) (j - L)) := by
  unfold dis pows
  have e1 : S (L + 1) (fun k => C k * S N (fun i => Y i * pw (X i) (j - k))) = S (L + 1) (fun k => S N (fun i => C k * (Y i * pw (X i) (j - k)))) :=
    S_congr (fun k _ => (S_mul _ _ _).symm)
  rw [e1, S_swap]
  apply S_congr
  intro i _
  unfold rv
  rw [mul_assoc, ← S_mul_right, ← S_mul]
  apply S_congr
  intro k hk
  rw [mul_left_comm]
  congr 1
  rw [mul_assoc, ← pw_add]
  congr 2; omega

/-- the locator of places at which the weights are not 0 is a recurrence -/
theorem recur_loc {N n : Nat} {X Y : Nat → K} {l : List K} (hl : ∀ i, i < N → Y i ≠ 0 → X i ∈ l) : recur (loc l) l.length (pows N X Y) n := by
  intro j hj _
  rw [dis_pows hj]
  apply S_zero
  intro i hi
  by_cases e : Y i = 0
  · rw [e, zero_mul, zero_mul]
  · rw [rv_loc_zero.mpr (hl i hi e), mul_zero, zero_mul]

/-- a short recurrence vanishes at each place -/
theorem short_roots [DecidableEq K] {N L M : Nat} {X Y C : Nat → K} {l : List K} (hX : ∀ i j, i < N → j < N → X i = X j → i = j)
    (hl : ∀ i, i < N → Y i ≠ 0 → X i ∈ l) (hn : l.Nodup)
    (hC : recur C L (pows N X Y) M) (hM : L + l.length ≤ M) (i0 : Nat) (hi0 : i0 < N) (hy : Y i0 ≠ 0) : rv L C (X i0) = 0 := by
  have hmem := hl i0 hi0 hy
  have hlen : (l.erase (X i0)).length = l.length - 1 := List.length_erase_of_mem hmem
  have hpos : 0 < l.length := List.length_pos_of_mem hmem
  -- the weights Z
  have hz : ∀ t, t + L < M → pows N X (fun i => Y i * rv L C (X i)) t = 0 := by
    intro t ht
    have := hC (t + L) (by omega) ht
    rw [dis_pows (by omega)] at this
    rw [← this]; unfold pows
    exact S_congr (fun i _ => by rw [show t + L - L = t by omega])
  have h1 : dis (loc (l.erase (X i0))) (l.length - 1) (pows N X (fun i => Y i * rv L C (X i))) (l.length - 1) = 0 := by
    unfold dis
    exact S_zero (fun k hk => by rw [hz _ (by omega), mul_zero])
  rw [dis_pows (Nat.le_refl _), ← hlen] at h1
  rw [S_one hi0] at h1
  · rw [Nat.sub_self] at h1
    simp only [pw] at h1; rw [mul_one] at h1
    rcases mul_eq_zero h1 with h | h
    · exact (mul_eq_zero h).resolve_left hy
    · exact absurd (rv_loc_zero.mp h) (by rw [hn.mem_erase_iff]; exact fun h => h.1 rfl)
  · intro i hi hne
    by_cases e : Y i = 0
    · rw [e, zero_mul, zero_mul, zero_mul]
    · have : X i ∈ l.erase (X i0) := by
        rw [hn.mem_erase_iff]
        exact ⟨fun h => hne (hX i i0 hi hi0 h), hl i hi e⟩
      rw [rv_loc_zero.mpr this, mul_zero, zero_mul]

/-- the algorithm finds the locator -/
theorem finds [DecidableEq K] {N M : Nat} {X Y : Nat → K} {l : List K} {C B : Nat → K} {L m : Nat} {b : K}
    (hX : ∀ i j, i < N → j < N → X i = X j → i = j) (hn : l.Nodup)
    (hl : ∀ x, x ∈ l ↔ ∃ i, i < N ∧ Y i ≠ 0 ∧ X i = x) (h2 : 2 * l.length ≤ M) (h : Inv (pows N X Y) M C B L m b) : L = l.length ∧ C = loc l := by
  have hl' : ∀ i, i < N → Y i ≠ 0 → X i ∈ l := fun i h1 h2 => (hl _).mpr ⟨i, h1, h2, rfl⟩
  have hle := h.least (loc_0 l) (recur_loc (n := M) hl')
  have := roots_count l L C hn h.c0 h.cs (fun x hx => by
    obtain ⟨i, h1, h2, rfl⟩ := (hl x).mp hx
    exact short_roots hX hl' hn h.cg (by omega) i h1 h2)
  have e : L = l.length := by omega
  exact ⟨e, this.2 e⟩

end bm
end Go.Proofs.Ythcjmmicjbfpgaa.Alg

/-
Erasures and error values: the modified syndromes, the product of two locators, and Forney's formula.
-/
namespace Go.Proofs.Ythcjmmicjbfpgaa.Alg
section forney
variable {K : Type} [Fld K]
open Fld

theorem conv_ml (a : K) (P Q : Nat → K) : conv (ml a P) Q = ml a (conv P Q) := by
  funext k
  cases k with
  | zero => rfl
  | succ k =>
    simp only [ml]
    unfold conv
    rw [S_head, S_head (k + 1) (fun i => P i * Q (k + 1 - i)), ← S_mul, sub_eq, add_assoc, ← S_neg, ← S_add]
    simp only [ml]
    congr 1
    apply S_congr
    intro i _
    rw [sub_mul, sub_eq, Nat.add_sub_add_right, mul_assoc]

theorem conv_one (Q : Nat → K) : conv (loc []) Q = Q := by
  funext k
  unfold conv
  rw [S_head, S_zero (n := k) (fun i _ => by simp only [loc]; rw [if_neg (by omega), zero_mul]), add_zero]
  simp only [loc, if_true, Nat.sub_zero]; rw [one_mul]

theorem conv_loc (l g : List K) : conv (loc l) (loc g) = loc (l ++ g) := by
  induction l with
  | nil => rw [conv_one]; rfl
  | cons a l ih => simp only [loc, List.cons_append]; rw [conv_ml, ih]

theorem conv_pw_ml (a : K) (Q : Nat → K) (n : Nat) : conv (pw a) (ml a Q) n = Q n := by
  have h : ∀ n, rv n (ml a Q) a = Q n := by
    intro n
    induction n with
    | zero => rw [rv_zero]; rfl
    | succ n ih => rw [rv_succ, ih]; simp only [ml]; rw [add_comm, sub_add_cancel]
  rw [conv_comm, ← h n]; rfl

/-- what is left of a syndrome's product with the locator -/
theorem conv_pows [DecidableEq K] {N : Nat} {X W : Nat → K} {t : List K} (ht : ∀ i, i < N → W i ≠ 0 → X i ∈ t) (n : Nat) :
    conv (pows N X W) (loc t) n = S N (fun i => W i * loc (t.erase (X i)) n) := by
  have e1 : conv (pows N X W) (loc t) n = S N (fun i => W i * conv (pw (X i)) (loc t) n) := by
    unfold conv pows
    have : S (n + 1) (fun k => S N (fun i => W i * pw (X i) k) * loc t (n - k)) = S (n + 1) (fun k => S N (fun i => W i * pw (X i) k * loc t (n - k))) :=
      S_congr (fun k _ => (S_mul_right _ _ _).symm)
    rw [this, S_swap]
    apply S_congr
    intro i _
    rw [← S_mul]
    exact S_congr (fun k _ => mul_assoc _ _ _)
  rw [e1]
  apply S_congr
  intro i hi
  by_cases e : W i = 0
  · rw [e, zero_mul, zero_mul]
  · rw [loc_erase (ht i hi e), conv_pw_ml]

theorem ev_loc_erase_ne [DecidableEq K] {t : List K} (hn : t.Nodup) {a x : K} (ha : a ∈ t) (hx : a * x = 1) : ev t.length (loc (t.erase a)) x ≠ 0 := by
  have hlen : t.length = (t.erase a).length + 1 := by
    have := List.length_erase_of_mem ha
    have := List.length_pos_of_mem ha
    omega
  rw [hlen]
  intro h
  obtain ⟨b, hb, e⟩ := ev_loc_zero.mp h
  have hne : x ≠ 0 := fun e => one_ne (K := K) (by rw [← hx, e, mul_zero])
  have : a = b := by
    have : x * a = x * b := by rw [mul_comm, hx, mul_comm, e]
    exact mul_left_cancel hne this
  exact ((hn.mem_erase_iff).mp hb).1 this.symm

theorem ev_loc_erase_zero [DecidableEq K] {t : List K} (hn : t.Nodup) {a b x : K} (ha : a ∈ t) (hb : b ∈ t) (hab : a ≠ b) (hx : b * x = 1) : ev t.length (loc (t.erase a)) x = 0 := by
  have hlen : t.length = (t.erase a).length + 1 := by
    have := List.length_erase_of_mem ha
    have := List.length_pos_of_mem ha
    omega
  rw [hlen]
  exact ev_loc_zero.mpr ⟨b, (hn.mem_erase_iff).mpr ⟨fun h => hab h.symm, hb⟩, hx⟩

/-- the value of the evaluator at the inverse of a place -/
theorem omega_at [DecidableEq K] {N p : Nat} {X W : Nat → K} {t : List K} (hX : ∀ i j, i < N → j < N → X i = X j → i = j) (hn : t.Nodup)
    (ht : ∀ i, i < N → W i ≠ 0 → X i ∈ t) (hp : t.length ≤ p) (j : Nat) (hj : j < N) (hjt : X j ∈ t) {x : K} (hx : X j * x = 1) :
    ev p (conv (pows N X W) (loc t)) x = W j * ev t.length (loc (t.erase (X j))) x := by
  have e1 : ev p (conv (pows N X W) (loc t)) x = S N (fun i => W i * ev p (loc (t.erase (X i))) x) := by
    unfold ev
    have : S p (fun n => conv (pows N X W) (loc t) n * pw x n) = S p (fun n => S N (fun i => W i * (loc (t.erase (X i)) n * pw x n))) :=
      S_congr (fun n _ => by
        rw [conv_pows ht, ← S_mul_right]
        exact S_congr (fun i _ => mul_assoc _ _ _))
    rw [this, S_swap]
    exact S_congr (fun i _ => S_mul _ _ _)
  have e2 : ∀ i, i < N → W i * ev p (loc (t.erase (X i))) x = W i * ev t.length (loc (t.erase (X i))) x := by
    intro i hi
    by_cases e : W i = 0
    · rw [e, zero_mul, zero_mul]
    · have hm := ht i hi e
      have h1 := List.length_erase_of_mem hm
      have h2 := List.length_pos_of_mem hm
      rw [ev_more hp (fun k hk => loc_supp _ _ (by omega))]
  rw [e1, S_congr e2, S_one hj]
  intro i hi hij
  by_cases e : W i = 0
  · rw [e, zero_mul]
  · rw [ev_loc_erase_zero hn (ht i hi e) hjt (fun h => hij (hX i j hi hj h)) hx, mul_zero]

/-- the derivative -/
def der (f : Nat → K) (n : Nat) : K := f (n + 1) * nc (n + 1)

theorem ev_der_ml {n : Nat} {Q : Nat → K} {a x : K} (h : ∀ k, n ≤ k → Q k = 0) (hx : a * x = 1) : ev n (der (ml a Q)) x = -(a * ev n Q x) := by
  unfold ev der
  have e1 : S n (fun i => ml a Q (i + 1) * nc (i + 1) * pw x i) = S n (fun i => Q (i + 1) * nc (i + 1) * pw x i) - a * S n (fun i => Q i * nc (i + 1) * pw x i) := by
    rw [← S_mul, ← S_sub]
    apply S_congr
    intro i _
    simp only [ml]
    rw [sub_mul, sub_mul]
    congr 1; ac_rfl
  have e2 : S n (fun i => Q i * nc (i + 1) * pw x i) = S n (fun i => Q i * nc i * pw x i) + S n (fun i => Q i * pw x i) := by
    rw [← S_add]
    apply S_congr
    intro i _
    simp only [nc]
    rw [mul_add, mul_one, add_mul]
  have e3 : S n (fun i => Q i * nc i * pw x i) = x * S n (fun i => Q (i + 1) * nc (i + 1) * pw x i) := by
    have a1 : S (n + 1) (fun i => Q i * nc i * pw x i) = S n (fun i => Q i * nc i * pw x i) :=
      S_more (by omega) (fun i h1 _ => by rw [h i h1, zero_mul, zero_mul])
    rw [← a1, S_head]
    have : Q 0 * nc 0 * pw x 0 = 0 := by simp only [nc]; rw [mul_zero, zero_mul]
    rw [this, zero_add, ← S_mul]
    apply S_congr
    intro i _
    simp only [pw]; ac_rfl
  rw [e1, e2, e3, mul_add, ← mul_assoc, hx, one_mul, sub_eq, neg_add, ← add_assoc, add_neg, zero_add]

theorem slope_at [DecidableEq K] {t : List K} {a x : K} (ha : a ∈ t) (hx : a * x = 1) : ev t.length (der (loc t)) x = -(a * ev t.length (loc (t.erase a)) x) := by
  have h1 := List.length_erase_of_mem ha
  have h2 := List.length_pos_of_mem ha
  rw [loc_erase ha, ev_der_ml (fun k hk => loc_supp _ _ (by omega)) hx]

/-- the product of 1 - b x over a list -/
def prod1 : List K → K → K
  | [], _ => 1
  | b :: l, x => (1 - b * x) * prod1 l x
theorem ev_loc_prod (l : List K) (x : K) : ev (l.length + 1) (loc l) x = prod1 l x := by
  induction l with
  | nil =>
    show 0 + loc [] 0 * 1 = (1 : K)
    rw [zero_add, mul_one]; rfl
  | cons a l ih => rw [ev_loc_cons, ih]; rfl

/-- the modified syndromes -/
theorem modified {N n : Nat} {X W : Nat → K} {g : List K} :
    conv (pows N X W) (loc g) (n + g.length) = pows N X (fun i => W i * rv g.length (loc g) (X i)) n := by
  have h : conv (pows N X W) (loc g) (n + g.length) = dis (loc g) g.length (pows N X W) (n + g.length) := by
    rw [conv_comm]
    unfold conv dis
    exact S_more (by omega) (fun i h1 _ => by rw [loc_supp g i (by omega), zero_mul])
  rw [h, dis_pows (by omega)]
  unfold pows
  exact S_congr (fun i _ => by rw [Nat.add_sub_cancel])

end forney
end Go.Proofs.Ythcjmmicjbfpgaa.Alg

/-
Finite fields: orders of elements, and that there is an element whose powers are all others.
-/
namespace Go.Proofs.Ythcjmmicjbfpgaa.Alg
section cyc
variable {K : Type} [Fld K]
open Fld

/-- n is the order of a -/
structure IsOrd (a : K) (n : Nat) : Prop where
  pos : 0 < n
  one : pw a n = 1
  least : ∀ k, 0 < k → k < n → pw a k ≠ 1

theorem pw_mod {a : K} {n : Nat} (h : pw a n = 1) (t : Nat) : pw a t = pw a (t % n) := by
  have e : t = n * (t / n) + t % n := (Nat.div_add_mod t n).symm
  have e2 : pw a t = pw a (n * (t / n) + t % n) := congrArg (pw a) e
  rw [e2, pw_add, pw_mul, h, pw_one, one_mul]

theorem IsOrd.dvd {a : K} {n t : Nat} (h : IsOrd a n) : pw a t = 1 ↔ n ∣ t := by
  constructor
  · intro e
    rw [pw_mod h.one] at e
    apply Nat.dvd_of_mod_eq_zero
    apply Classical.byContradiction
    intro hne
    exact h.least _ (by omega) (Nat.mod_lt _ h.pos) e
  · rintro ⟨q, rfl⟩
    rw [pw_mul, h.one, pw_one]

theorem IsOrd.uniq {a : K} {n m : Nat} (h : IsOrd a n) (h' : IsOrd a m) : n = m :=
  Nat.dvd_antisymm (h.dvd.mp h'.one) (h'.dvd.mp h.one)

theorem IsOrd.of {a : K} {n : Nat} (hp : 0 < n) (h : ∀ t, pw a t = 1 ↔ n ∣ t) : IsOrd a n :=
  ⟨hp, (h n).mpr (Nat.dvd_refl n), fun k h0 h1 e => by have := Nat.le_of_dvd h0 ((h k).mp e); omega⟩

theorem IsOrd.ne {a : K} {n : Nat} (h : IsOrd a n) : a ≠ 0 := by
  intro e
  have h1 := h.one
  obtain ⟨m, rfl⟩ : ∃ m, n = m + 1 := ⟨n - 1, by have := h.pos; omega⟩
  simp only [pw] at h1
  rw [e, mul_zero] at h1
  exact one_ne h1.symm

theorem IsOrd.inj {a : K} {n : Nat} (h : IsOrd a n) {i j : Nat} (hi : i < n) (hj : j < n) (e : pw a i = pw a j) : i = j := by
  have key : ∀ i j, i ≤ j → j < n → pw a i = pw a j → i = j := by
    intro i j hij hj e
    have := pw_sub h.ne hij e
    have := h.dvd.mp this
    apply Classical.byContradiction
    intro hne
    have := Nat.le_of_dvd (by omega) this
    omega
  rcases Nat.le_total i j with h1 | h1
  · exact key i j h1 hj e
  · exact (key j i h1 hi e.symm).symm

theorem IsOrd.pow {a : K} {n d : Nat} (h : IsOrd a (d * n)) (hd : 0 < d) : IsOrd (pw a d) n := by
  have hp := h.pos
  refine IsOrd.of (Nat.pos_of_ne_zero (fun e => by rw [e] at hp; simp at hp)) (fun t => ?_)
  rw [← pw_mul, h.dvd]
  exact Nat.mul_dvd_mul_iff_left hd

theorem IsOrd.mul {a b : K} {m n : Nat} (ha : IsOrd a m) (hb : IsOrd b n) (hc : Nat.Coprime m n) : IsOrd (a * b) (m * n) := by
  refine IsOrd.of (Nat.mul_pos ha.pos hb.pos) (fun t => ?_)
  constructor
  · intro e
    rw [pw_mul_base] at e
    have h1 : m ∣ t := by
      have : pw a (t * n) = 1 := by
        have := congrArg (fun x => pw x n) e
        simp only [pw_mul_base, pw_one, ← pw_mul] at this
        rw [(hb.dvd (t := t * n)).mpr (Nat.dvd_mul_left n t), mul_one] at this
        exact this
      exact hc.dvd_of_dvd_mul_right (ha.dvd.mp this)
    have h2 : n ∣ t := by
      have : pw b (t * m) = 1 := by
        have := congrArg (fun x => pw x m) e
        simp only [pw_mul_base, pw_one, ← pw_mul] at this
        rw [(ha.dvd (t := t * m)).mpr (Nat.dvd_mul_left m t), one_mul] at this
        exact this
      exact hc.symm.dvd_of_dvd_mul_right (hb.dvd.mp this)
    exact hc.mul_dvd_of_dvd_of_dvd h1 h2
  · intro h
    rw [pw_mul_base, ha.dvd.mpr (Nat.dvd_trans (Nat.dvd_mul_right m n) h), hb.dvd.mpr (Nat.dvd_trans (Nat.dvd_mul_left n m) h), mul_one]

/-! numbers -/
theorem least_divisor {n : Nat} (h : 2 ≤ n) : ∃ r, 2 ≤ r ∧ r ∣ n ∧ ∀ d, 2 ≤ d → d ∣ r → d = r := by
  induction n using Nat.strongRecOn with
  | ind n ih =>
    by_cases hp : ∀ d, 2 ≤ d → d ∣ n → d = n
    · exact ⟨n, h, Nat.dvd_refl n, hp⟩
    · obtain ⟨d, hd⟩ := Classical.not_forall.mp hp
      obtain ⟨h2, hd⟩ := Classical.not_imp.mp hd
      obtain ⟨hdn, hne⟩ := Classical.not_imp.mp hd
      have hle := Nat.le_of_dvd (by omega) hdn
      obtain ⟨r, h1, h3, h4⟩ := ih d (by omega) h2
      exact ⟨r, h1, Nat.dvd_trans h3 hdn, h4⟩

theorem coprime_prime {r m : Nat} (hr : 2 ≤ r) (hp : ∀ d, 2 ≤ d → d ∣ r → d = r) (h : ¬ r ∣ m) : Nat.Coprime r m := by
  have h1 : Nat.gcd r m ∣ r := Nat.gcd_dvd_left r m
  have h2 : Nat.gcd r m ∣ m := Nat.gcd_dvd_right r m
  have h0 : 0 < Nat.gcd r m := Nat.gcd_pos_of_pos_left m (by omega)
  apply Classical.byContradiction
  intro hne
  have hne' : Nat.gcd r m ≠ 1 := hne
  have := hp _ (by omega) h1
  rw [this] at h2
  exact h h2

theorem split_power (r : Nat) (hr : 2 ≤ r) (n : Nat) (hn : 0 < n) : ∃ e u, n = r ^ e * u ∧ ¬ r ∣ u := by
  induction n using Nat.strongRecOn with
  | ind n ih =>
    by_cases h : r ∣ n
    · obtain ⟨k, rfl⟩ := h
      have hk : 0 < k := Nat.pos_of_ne_zero (fun e => by rw [e] at hn; simp at hn)
      have hlt : k < r * k := by
        have : 2 * k ≤ r * k := Nat.mul_le_mul_right k hr
        omega
      obtain ⟨e, u, h1, h2⟩ := ih k hlt hk
      exact ⟨e + 1, u, by rw [Nat.pow_succ, Nat.mul_comm (r ^ e) r, Nat.mul_assoc, ← h1], h2⟩
    · exact ⟨0, n, by simp, h⟩

/-- in a finite field: els lists all elements other than 0, each once -/
theorem order_exists {els : List K} (hall : ∀ a : K, a ≠ 0 → a ∈ els) {a : K} (ha : a ≠ 0) : ∃ n, n ≤ els.length ∧ IsOrd a n := by
  have h1 : ∃ n, 0 < n ∧ n ≤ els.length ∧ pw a n = 1 := by
    apply Classical.byContradiction
    intro hno
    have hinj : ((List.range (els.length + 1)).map (pw a)).Nodup := by
      rw [List.Nodup, List.pairwise_map]
      refine List.Pairwise.imp_of_mem ?_ (List.nodup_range (n := els.length + 1))
      intro i j hi hj hij e
      rw [List.mem_range] at hi hj
      rcases Nat.lt_or_gt_of_ne hij with h | h
      · exact hno ⟨j - i, by omega, by omega, pw_sub ha (by omega) e⟩
      · exact hno ⟨i - j, by omega, by omega, pw_sub ha (by omega) e.symm⟩
    have := hinj.length_le_of_subset (l₂ := els) (fun x hx => by
      obtain ⟨i, _, rfl⟩ := List.mem_map.mp hx
      exact hall _ (pw_ne ha i))
    simp at this
    omega
  obtain ⟨n, h0, hl, hn⟩ := h1
  have key : ∀ n, 0 < n → n ≤ els.length → pw a n = 1 → ∃ m, m ≤ els.length ∧ IsOrd a m := by
    intro n
    induction n using Nat.strongRecOn with
    | ind n ih =>
      intro h0 hl hn
      by_cases hk : ∃ k, 0 < k ∧ k < n ∧ pw a k = 1
      · obtain ⟨k, h1, h2, h3⟩ := hk
        exact ih k h2 h1 (by omega) h3
      · exact ⟨n, hl, h0, hn, fun k h1 h2 h3 => hk ⟨k, h1, h2, h3⟩⟩
  exact key n h0 hl hn

theorem greatest (P : Nat → Prop) (B : Nat) (hB : ∀ n, P n → n ≤ B) (m : Nat) (hm : P m) : ∃ m, P m ∧ ∀ n, P n → n ≤ m := by
  have key : ∀ d m, P m → B - m = d → ∃ m, P m ∧ ∀ n, P n → n ≤ m := by
    intro d
    induction d using Nat.strongRecOn with
    | ind d ih =>
      intro m hm hd
      by_cases h : ∀ n, P n → n ≤ m
      · exact ⟨m, hm, h⟩
      · obtain ⟨n, hn⟩ := Classical.not_forall.mp h
        obtain ⟨hn, hlt⟩ := Classical.not_imp.mp hn
        have := hB n hn
        exact ih (B - n) (by omega) n hn rfl
  exact key _ m hm rfl

/-- there is an element whose order is the number of all elements other than 0 -/
theorem cyclic {els : List K} (hall : ∀ a : K, a ≠ 0 → a ∈ els) (hnz : ∀ a, a ∈ els → a ≠ 0) (hnd : els.Nodup) : ∃ g : K, IsOrd g els.length := by
  -- the greatest order
  obtain ⟨n1, _, hn1⟩ := order_exists hall (a := (1 : K)) one_ne
  obtain ⟨m, ⟨x, hx⟩, hmax⟩ := greatest (fun n => ∃ x : K, IsOrd x n) els.length (fun n ⟨y, hy⟩ => by
    obtain ⟨n', h1, h2⟩ := order_exists hall hy.ne
    have := hy.uniq h2
    omega) n1 ⟨1, hn1⟩
  -- each order divides it
  have hdvd : ∀ n (b : K), IsOrd b n → n ∣ m := by
    intro n
    induction n using Nat.strongRecOn with
    | ind n ih =>
      intro b hb
      apply Classical.byContradiction
      intro hno
      have hn1 : n ≠ 1 := fun e => hno (by rw [e]; exact Nat.one_dvd m)
      have hn0 := hb.pos
      have hprop : ∀ d k, n = d * k → 1 < d → k ∣ m := by
        intro d k e hd
        have hk : 0 < k := Nat.pos_of_ne_zero (fun h => by rw [h] at e; simp at e; omega)
        have hlt : k < n := by
          have : 2 * k ≤ d * k := Nat.mul_le_mul_right k hd
          omega
        rw [e] at hb
        exact ih k hlt _ (hb.pow (by omega))
      obtain ⟨r, hr2, ⟨k, hk⟩, hrp⟩ := least_divisor (n := n) (by omega)
      obtain ⟨m1, hm1⟩ := hprop r k hk (by omega)
      have hkpos : 0 < k := Nat.pos_of_ne_zero (fun h => by rw [h] at hk; simp at hk; omega)
      have hm1pos : 0 < m1 := Nat.pos_of_ne_zero (fun h => by rw [h] at hm1; have := hx.pos; simp at hm1; omega)
      have hr1 : ¬ r ∣ m1 := by
        rintro ⟨t, ht⟩
        exact hno ⟨t, by rw [hm1, ht, hk]; ac_rfl⟩
      obtain ⟨e, u, he, hu⟩ := split_power r hr2 n hn0
      have hu1 : u = 1 := by
        apply Classical.byContradiction
        intro hne
        have hu0 : 0 < u := Nat.pos_of_ne_zero (fun h => by rw [h] at he; simp at he; omega)
        have h1 : r ^ e ∣ m := hprop u (r ^ e) (by rw [he, Nat.mul_comm]) (by omega)
        have he0 : e ≠ 0 := by
          intro h0
          rw [h0] at he; simp at he
          exact hu (he ▸ ⟨k, hk⟩)
        have h2 : u ∣ m := hprop (r ^ e) u he (Nat.one_lt_pow he0 (by omega))
        exact hno (he ▸ (Nat.Coprime.pow_left e (coprime_prime hr2 hrp hu)).mul_dvd_of_dvd_of_dvd h1 h2)
      have hco : Nat.Coprime m1 n := by
        rw [he, hu1, Nat.mul_one]
        exact (Nat.Coprime.pow_left e (coprime_prime hr2 hrp hr1)).symm
      have hxk : IsOrd (pw x k) m1 := IsOrd.pow (by rw [← hm1]; exact hx) hkpos
      have := hmax _ ⟨_, hxk.mul hb hco⟩
      have h3 : m1 * n = m * r := by rw [hk, hm1]; ac_rfl
      rw [h3] at this
      have h4 : m * 2 ≤ m * r := Nat.mul_le_mul_left m hr2
      have := hx.pos
      omega
  -- so all elements are roots of x^m - 1
  have hroots := roots_count els m (fun k => if k = 0 then 1 else if k = m then -1 else 0) hnd (by simp) (fun k hk => by
      rw [if_neg (by omega), if_neg (by omega)]) (fun a ha => by
    have h1 : pw a m = 1 := by
      obtain ⟨n, _, hn⟩ := order_exists hall (hnz a ha)
      exact hn.dvd.mpr (hdvd n a hn)
    have hmp := hx.pos
    unfold rv
    rw [S_head]
    obtain ⟨m', rfl⟩ : ∃ m', m = m' + 1 := ⟨m - 1, by omega⟩
    rw [S_one (n := m' + 1) (k := m') (by omega) (fun i hi hne => by
      dsimp only
      rw [if_neg (by omega), if_neg (by omega), zero_mul])]
    dsimp only
    rw [if_pos rfl, if_neg (by omega), if_pos rfl, Nat.sub_zero, h1, Nat.sub_self]
    simp only [pw]
    rw [mul_one, mul_one, add_neg])
  obtain ⟨n', h1, h2⟩ := order_exists hall hx.ne
  have := hx.uniq h2
  have : m = els.length := by omega
  exact ⟨x, this ▸ hx⟩
end cyc
end Go.Proofs.Ythcjmmicjbfpgaa.Alg

/-
Finite fields whose elements are the numbers below their size: what the codes use of them.
-/
namespace Go.Proofs.Ythcjmmicjbfpgaa.Alg
open Fld

/-- a finite integral domain's way to inverses -/
theorem inverse_exists {K : Type} {mul : K → K → K} {one zero : K} {els : List K} (hall : ∀ a : K, a ∈ els) (hnd : els.Nodup)
    (hcan : ∀ a b c : K, a ≠ zero → mul a b = mul a c → b = c) (a : K) (ha : a ≠ zero) : ∃ b, mul a b = one := by
  apply Classical.byContradiction
  intro hno
  have h1 : (one :: els.map (mul a)).Nodup := by
    rw [List.nodup_cons]
    constructor
    · intro hm
      obtain ⟨b, _, hb⟩ := List.mem_map.mp hm
      exact hno ⟨b, hb⟩
    · rw [List.Nodup, List.pairwise_map]
      exact List.Pairwise.imp (fun hne e => hne (hcan a _ _ ha e)) hnd
  have := h1.length_le_of_subset (l₂ := els) (fun x _ => hall x)
  simp at this
  omega

/-- the number of binary digits -/
def len (n : Nat) : Nat := if n = 0 then 0 else n.log2 + 1
/-- the remainder of polynomials over the field of two elements -/
def rem (fuel v D : Nat) : Nat :=
  match fuel with
  | 0 => v
  | f + 1 => if len D ≤ len v then rem f (v ^^^ (D <<< (len v - len D))) D else v
/-- no polynomial of at most half the degree divides P, which is of degree d -/
def Irr (P d : Nat) : Prop := ∀ D, 2 ≤ D → 2 * (len D - 1) ≤ d → rem P P D ≠ 0
/-- no number from 2 to the root divides p -/
def Pri (p : Nat) : Prop := ∀ d, 2 ≤ d → d * d ≤ p → p % d ≠ 0
/-- a field that is valid -/
def VF (c s p : Nat) : Prop :=
  (c = 2 ∧ ∃ d, 1 ≤ d ∧ d ≤ 12 ∧ s = 2 ^ d ∧ 2 ^ d ≤ p ∧ p < 2 ^ (d + 1) ∧ Irr p d) ∨ (c = s ∧ p = 0 ∧ 3 ≤ s ∧ s ≤ 4096 ∧ Pri s)

/-- a polynomial times x -/
def xt (q P a : Nat) : Nat := if q ≤ 2 * a then (2 * a) ^^^ P else 2 * a
/-- the product of polynomials -/
def gm (q P : Nat) (a b : Nat) : Nat :=
  if b = 0 then 0 else (if b % 2 = 1 then a else 0) ^^^ gm q P (xt q P a) (b / 2)
termination_by b
decreasing_by omega

/-- a finite field of q elements, which are told by the numbers below q -/
class GF (K : Type) extends Fld K where
  /-- characteristic, number of elements, polynomial -/
  ch : Nat
  sz : Nat
  po : Nat
  valid : VF ch sz po
  val : K → Nat
  val_lt : ∀ a, val a < sz
  of : Nat → K
  val_of : ∀ i, i < sz → val (of i) = i
  of_val : ∀ a, of (val a) = a
  val_zero : val 0 = 0
  val_one : val 1 = 1
  val_add : ∀ a b, val (a + b) = if ch = 2 then val a ^^^ val b else (val a + val b) % sz
  val_sub : ∀ a b, val (a - b) = if ch = 2 then val a ^^^ val b else (val a + sz - val b) % sz
  val_mul : ∀ a b, val (a * b) = if ch = 2 then gm sz po (val a) (val b) else (val a * val b) % sz
  val_nc : ∀ k, val (nc k) = k % ch

section gf
variable {K : Type} [GF K]
open GF

theorem sz_two : 2 ≤ sz K := by
  rcases valid (K := K) with ⟨_, d, h1, _, h3, _⟩ | ⟨_, _, h, _⟩
  · rw [h3]; have : 2 ^ 1 ≤ 2 ^ d := Nat.pow_le_pow_right (by omega) h1; omega
  · omega
theorem sz_max : sz K ≤ 4096 := by
  rcases valid (K := K) with ⟨_, d, _, h2, h3, _⟩ | ⟨_, _, _, h, _⟩
  · rw [h3]; have : 2 ^ d ≤ 2 ^ 12 := Nat.pow_le_pow_right (by omega) h2; omega
  · omega
theorem po_max : po K < 8192 := by
  rcases valid (K := K) with ⟨_, d, _, h2, _, _, h6, _⟩ | ⟨_, h, _⟩
  · have : 2 ^ (d + 1) ≤ 2 ^ 13 := Nat.pow_le_pow_right (by omega) (by omega); omega
  · omega
theorem ch_two : 2 ≤ ch K := by
  rcases valid (K := K) with ⟨h, _⟩ | ⟨h, _, h3, _⟩ <;> omega
theorem ch_le : ch K ≤ sz K := by
  have := sz_two (K := K)
  rcases valid (K := K) with ⟨h, _⟩ | ⟨h, _, h3, _⟩ <;> omega

theorem val_inj {a b : K} (h : val a = val b) : a = b := by rw [← of_val a, ← of_val b, h]
theorem val_eq_zero {a : K} : val a = 0 ↔ a = 0 := ⟨fun h => val_inj (h.trans val_zero.symm), fun h => by rw [h]; exact val_zero⟩
instance : DecidableEq K := fun a b => if h : val a = val b then isTrue (val_inj h) else isFalse (fun e => h (by rw [e]))

/-- all elements other than 0 -/
def nonzero (K : Type) [GF K] : List K := (List.range (sz K - 1)).map (fun i => of (i + 1))
theorem nonzero_length : (nonzero K).length = sz K - 1 := by simp [nonzero]
theorem mem_nonzero {a : K} : a ∈ nonzero K ↔ a ≠ 0 := by
  unfold nonzero
  rw [List.mem_map]
  constructor
  · rintro ⟨i, hi, rfl⟩ h
    rw [List.mem_range] at hi
    have := congrArg val h
    rw [val_of _ (by omega), val_zero] at this
    omega
  · intro h
    have h1 := val_lt a
    have h2 : val a ≠ 0 := fun e => h (val_eq_zero.mp e)
    exact ⟨val a - 1, List.mem_range.mpr (by omega), by rw [show val a - 1 + 1 = val a by omega, of_val]⟩
theorem nonzero_nodup : (nonzero K).Nodup := by
  unfold nonzero
  rw [List.Nodup, List.pairwise_map]
  refine List.Pairwise.imp_of_mem ?_ (List.nodup_range (n := sz K - 1))
  intro i j hi hj hne e
  rw [List.mem_range] at hi hj
  have := congrArg val e
  rw [val_of _ (by omega), val_of _ (by omega)] at this
  omega

/-- a generator -/
def IsGen (a : K) : Prop := IsOrd a (sz K - 1)
theorem gen_exists : ∃ g : K, IsGen g ∧ ∀ h : K, IsGen h → val g ≤ val h := by
  obtain ⟨g, hg⟩ := cyclic (els := nonzero K) (fun a h => mem_nonzero.mpr h) (fun a h => mem_nonzero.mp h) nonzero_nodup
  rw [nonzero_length] at hg
  have key : ∀ n (g : K), IsGen g → val g = n → ∃ g : K, IsGen g ∧ ∀ h : K, IsGen h → val g ≤ val h := by
    intro n
    induction n using Nat.strongRecOn with
    | ind n ih =>
      intro g hg hn
      by_cases h : ∀ h : K, IsGen h → val g ≤ val h
      · exact ⟨g, hg, h⟩
      · obtain ⟨h, hh⟩ := Classical.not_forall.mp h
        obtain ⟨h1, h2⟩ := Classical.not_imp.mp hh
        exact ih (val h) (by omega) h h1 rfl
  exact key _ g hg rfl
/-- the least generator -/
noncomputable def gen : K := Classical.choose (gen_exists (K := K))
theorem gen_ord : IsOrd (gen : K) (sz K - 1) := (Classical.choose_spec (gen_exists (K := K))).1
theorem gen_least (h : K) (hh : IsGen h) : val (gen : K) ≤ val h := (Classical.choose_spec (gen_exists (K := K))).2 h hh
theorem gen_ne : (gen : K) ≠ 0 := gen_ord.ne

theorem log_exists {a : K} (h : a ≠ 0) : ∃ n, n < sz K - 1 ∧ pw (gen : K) n = a := by
  have h2 := sz_two (K := K)
  apply Classical.byContradiction
  intro hno
  have h1 : (a :: (List.range (sz K - 1)).map (pw (gen : K))).Nodup := by
    rw [List.nodup_cons]
    constructor
    · intro hm
      obtain ⟨n, hn, e⟩ := List.mem_map.mp hm
      exact hno ⟨n, List.mem_range.mp hn, e⟩
    · rw [List.Nodup, List.pairwise_map]
      refine List.Pairwise.imp_of_mem ?_ (List.nodup_range (n := sz K - 1))
      intro i j hi hj hne e
      exact hne (gen_ord.inj (List.mem_range.mp hi) (List.mem_range.mp hj) e)
  have := h1.length_le_of_subset (l₂ := nonzero K) (fun x hx => by
    rcases List.mem_cons.mp hx with rfl | hx
    · exact mem_nonzero.mpr h
    · obtain ⟨n, _, rfl⟩ := List.mem_map.mp hx
      exact mem_nonzero.mpr (pw_ne gen_ne n))
  rw [nonzero_length] at this
  simp at this
  omega
open Classical in
/-- the logarithm; 0 of 0 -/
noncomputable def lg (a : K) : Nat := if h : a ≠ 0 then choose (log_exists h) else 0
theorem lg_lt (a : K) : lg a < sz K - 1 := by
  have h2 := sz_two (K := K)
  unfold lg
  split
  · rename_i h; exact (Classical.choose_spec (log_exists h)).1
  · omega
theorem pw_lg {a : K} (h : a ≠ 0) : pw (gen : K) (lg a) = a := by
  unfold lg
  rw [dif_pos h]
  exact (Classical.choose_spec (log_exists h)).2
theorem lg_pw {n : Nat} (h : n < sz K - 1) : lg (pw (gen : K) n) = n :=
  gen_ord.inj (lg_lt _) h (pw_lg (pw_ne gen_ne n))
theorem fermat {a : K} (h : a ≠ 0) : pw a (sz K - 1) = 1 := by
  rw [← pw_lg h, ← pw_mul, Nat.mul_comm, pw_mul, gen_ord.one, pw_one]

/-- the generator to the power of a number of either sign -/
noncomputable def gz (n : Int) : K := pw gen (n % ((sz K - 1 : Nat) : Int)).toNat
theorem gz_nat (n : Nat) : (gz (n : Int) : K) = pw gen n := by
  unfold gz
  rw [pw_mod gen_ord.one n]
  congr 1
theorem gz_add (m n : Int) : (gz (m + n) : K) = gz m * gz n := by
  have h2 := sz_two (K := K)
  have hp : (0 : Int) < ((sz K - 1 : Nat) : Int) := by omega
  unfold gz
  rw [← pw_add, pw_mod gen_ord.one ((m % ((sz K - 1 : Nat) : Int)).toNat + (n % ((sz K - 1 : Nat) : Int)).toNat)]
  congr 1
  have a1 := Int.emod_nonneg m (show ((sz K - 1 : Nat) : Int) ≠ 0 by omega)
  have a2 := Int.emod_nonneg n (show ((sz K - 1 : Nat) : Int) ≠ 0 by omega)
  have : (((m % ((sz K - 1 : Nat) : Int)).toNat + (n % ((sz K - 1 : Nat) : Int)).toNat : Nat) : Int) = m % ((sz K - 1 : Nat) : Int) + n % ((sz K - 1 : Nat) : Int) := by omega
  have h3 : (m + n) % ((sz K - 1 : Nat) : Int) = (((m % ((sz K - 1 : Nat) : Int)).toNat + (n % ((sz K - 1 : Nat) : Int)).toNat : Nat) : Int) % ((sz K - 1 : Nat) : Int) := by
    rw [this, Int.add_emod_emod, Int.emod_add_emod]
  rw [h3]
  omega
theorem gz_ne (n : Int) : (gz n : K) ≠ 0 := pw_ne gen_ne _
theorem gz_zero : (gz 0 : K) = 1 := by
  have := gz_nat (K := K) 0
  simpa [pw] using this
theorem gz_neg (n : Int) : (gz n : K) * gz (-n) = 1 := by
  rw [← gz_add, Int.add_right_neg, gz_zero]
theorem gz_inv (n : Int) : (gz (-n) : K) = inv (gz n) := inv_unique (gz_ne n) (gz_neg n)
theorem gz_mul (m : Int) (n : Nat) : (gz (m * n) : K) = pw (gz m) n := by
  induction n with
  | zero => simp only [pw, Int.natCast_zero, Int.mul_zero]; exact gz_zero
  | succ n ih =>
    simp only [pw]
    rw [← ih, ← gz_add]
    congr 1
    rw [Int.natCast_succ, Int.mul_add, Int.mul_one]
theorem gz_sub (m n : Int) : (gz (m - n) : K) = gz m * inv (gz n) := by rw [Int.sub_eq_add_neg, gz_add, gz_inv]
theorem gz_inj {i j : Nat} (hi : i < sz K - 1) (hj : j < sz K - 1) (e : (gz (i : Int) : K) = gz (j : Int)) : i = j := by
  rw [gz_nat, gz_nat] at e
  exact gen_ord.inj hi hj e
end gf
end Go.Proofs.Ythcjmmicjbfpgaa.Alg

/-
Lists as polynomials: the product as it is summed up row by row, and the value.
-/
namespace Go.Proofs.Ythcjmmicjbfpgaa.Alg
section lists
variable {K : Type} [Fld K]
open Fld

/-- a coefficient of a list -/
def atl (l : List K) (i : Nat) : K := l.getD i 0
theorem atl_out {l : List K} {i : Nat} (h : l.length ≤ i) : atl l i = 0 := by
  unfold atl; rw [List.getD_eq_getElem?_getD, List.getElem?_eq_none h]; rfl
theorem atl_set_self {l : List K} {i : Nat} {a : K} (h : i < l.length) : atl (l.set i a) i = a := by
  unfold atl; rw [List.getD_eq_getElem?_getD, List.getElem?_set_self h]; rfl
theorem atl_set_ne {l : List K} {i j : Nat} {a : K} (h : i ≠ j) : atl (l.set i a) j = atl l j := by
  unfold atl; rw [List.getD_eq_getElem?_getD, List.getD_eq_getElem?_getD, List.getElem?_set_ne h]
theorem atl_cons_zero (a : K) (l : List K) : atl (a :: l) 0 = a := rfl
theorem atl_cons_succ (a : K) (l : List K) (i : Nat) : atl (a :: l) (i + 1) = atl l i := rfl
theorem atl_append_left {l m : List K} {i : Nat} (h : i < l.length) : atl (l ++ m) i = atl l i := by
  unfold atl; rw [List.getD_eq_getElem?_getD, List.getD_eq_getElem?_getD, List.getElem?_append_left h]
theorem atl_append_last {l : List K} {a : K} : atl (l ++ [a]) l.length = a := by
  unfold atl; simp [List.getD_eq_getElem?_getD]
theorem atl_ext {l m : List K} (hl : l.length = m.length) (h : ∀ i, i < l.length → atl l i = atl m i) : l = m := by
  apply List.ext_getElem hl
  intro i h1 h2
  have := h i h1
  unfold atl at this
  rw [List.getD_eq_getElem?_getD, List.getD_eq_getElem?_getD, List.getElem?_eq_getElem h1, List.getElem?_eq_getElem h2] at this
  exact this
theorem atl_replicate {n i : Nat} : atl (List.replicate n (0 : K)) i = 0 := by
  unfold atl; rw [List.getD_eq_getElem?_getD, List.getElem?_replicate]; split <;> rfl
theorem atl_drop {l : List K} {k i : Nat} : atl (l.drop k) i = atl l (k + i) := by
  unfold atl; rw [List.getD_eq_getElem?_getD, List.getD_eq_getElem?_getD, List.getElem?_drop]
theorem atl_take {l : List K} {k i : Nat} (h : i < k) : atl (l.take k) i = atl l i := by
  unfold atl; rw [List.getD_eq_getElem?_getD, List.getD_eq_getElem?_getD, List.getElem?_take_of_lt h]

/-- the product, i rows of which and m terms of the next one have been added -/
def prt (p q : List K) (i m k : Nat) : K := S i (fun t => if t ≤ k then atl p t * atl q (k - t) else 0) + (if i ≤ k ∧ k < i + m then atl p i * atl q (k - i) else 0)
theorem prt_start (p q : List K) (k : Nat) : prt p q 0 0 k = 0 := by
  unfold prt; rw [if_neg (by omega), add_zero]; rfl
theorem prt_hit (p q : List K) (i m : Nat) : prt p q i (m + 1) (i + m) = prt p q i m (i + m) + atl p i * atl q m := by
  unfold prt
  rw [if_pos (by omega), if_neg (by omega), add_zero, Nat.add_sub_cancel_left]
theorem prt_miss (p q : List K) {i m k : Nat} (h : k ≠ i + m) : prt p q i (m + 1) k = prt p q i m k := by
  unfold prt
  congr 1
  by_cases h1 : i ≤ k ∧ k < i + m
  · rw [if_pos h1, if_pos (by omega)]
  · rw [if_neg h1, if_neg (by omega)]
theorem prt_row (p q : List K) (i k : Nat) : prt p q i q.length k = prt p q (i + 1) 0 k := by
  unfold prt
  rw [if_neg (show ¬ (i + 1 ≤ k ∧ k < i + 1 + 0) by omega), add_zero]
  simp only [S]
  congr 1
  by_cases h : i ≤ k
  · rw [if_pos h]
    by_cases h2 : k < i + q.length
    · rw [if_pos ⟨h, h2⟩]
    · rw [if_neg (by omega), atl_out (l := q) (by omega), mul_zero]
  · rw [if_neg h, if_neg (by omega)]
theorem prt_all (p q : List K) (k : Nat) : prt p q p.length 0 k = conv (atl p) (atl q) k := by
  unfold prt conv
  rw [if_neg (by omega), add_zero]
  have h1 : S p.length (fun t => if t ≤ k then atl p t * atl q (k - t) else 0) = S (max p.length (k + 1)) (fun t => if t ≤ k then atl p t * atl q (k - t) else 0) :=
    (S_more (Nat.le_max_left _ _) (fun i h1 _ => by rw [atl_out h1, zero_mul]; split <;> rfl)).symm
  have h2 : S (k + 1) (fun t => atl p t * atl q (k - t)) = S (max p.length (k + 1)) (fun t => if t ≤ k then atl p t * atl q (k - t) else 0) := by
    rw [S_more (Nat.le_max_right p.length (k + 1)) (fun i h1 _ => by rw [if_neg (by omega)])]
    exact S_congr (fun i hi => by rw [if_pos (by omega)])
  rw [h1, h2]
theorem conv_supp {p q : List K} {k : Nat} (h : p.length + q.length ≤ k + 1) : conv (atl p) (atl q) k = 0 := by
  unfold conv
  apply S_zero
  intro i _
  by_cases c : p.length ≤ i
  · rw [atl_out c, zero_mul]
  · rw [atl_out (l := q) (by omega), mul_zero]

/-- the value by Horner's rule, from the last coefficient on -/
def hor (l : List K) (x : K) : K := l.foldr (fun c v => v * x + c) 0
theorem hor_ev (l : List K) (x : K) : hor l x = ev l.length (atl l) x := by
  induction l with
  | nil => rfl
  | cons c l ih =>
    unfold hor at ih ⊢
    rw [List.foldr_cons, ih]
    unfold ev
    rw [List.length_cons, S_head, add_comm]
    congr 1
    · simp only [pw]; rw [atl_cons_zero, mul_one]
    · rw [← S_mul_right]
      exact S_congr (fun i _ => by rw [atl_cons_succ]; simp only [pw]; rw [mul_assoc])
theorem hor_drop {l : List K} {n : Nat} (h : n < l.length) (x : K) : hor (l.drop n) x = hor (l.drop (n + 1)) x * x + atl l n := by
  have : l.drop n = l[n] :: l.drop (n + 1) := List.drop_eq_getElem_cons h
  conv => lhs; rw [this]
  unfold hor
  rw [List.foldr_cons]
  congr 1
  unfold atl
  rw [List.getD_eq_getElem?_getD, List.getElem?_eq_getElem h]; rfl
end lists
end Go.Proofs.Ythcjmmicjbfpgaa.Alg

/-
Lists of coefficients: the product as a list, the generator polynomial of a code.
-/
namespace Go.Proofs.Ythcjmmicjbfpgaa.Alg
section
variable {K : Type} [GF K]
open Fld GF

/-- the product of two lists of coefficients -/
def mulL (p q : List K) : List K := (List.range (p.length + q.length - 1)).map (conv (atl p) (atl q))
theorem mulL_length (p q : List K) : (mulL p q).length = p.length + q.length - 1 := by simp [mulL]
theorem atl_map_range {n k : Nat} (f : Nat → K) (h : k < n) : atl ((List.range n).map f) k = f k := by
  unfold atl
  rw [List.getD_eq_getElem?_getD, List.getElem?_map, List.getElem?_range h]
  rfl
theorem atl_mulL (p q : List K) (h : 0 < p.length) : atl (mulL p q) = conv (atl p) (atl q) := by
  funext k
  by_cases hk : k < p.length + q.length - 1
  · exact atl_map_range _ hk
  · rw [atl_out (by rw [mulL_length]; omega), conv_supp (by omega)]
theorem mulL_of {p q zs : List K} (hl : zs.length = p.length + q.length - 1) (h : atl zs = conv (atl p) (atl q)) : zs = mulL p q :=
  atl_ext (by rw [hl, mulL_length]) (fun i hi => by rw [h]; unfold mulL; rw [atl_map_range _ (by omega)])

/-- the generator polynomial: the product of x - X over n roots from a power on -/
noncomputable def genL (K : Type) [GF K] (f : Nat) : Nat → List K
  | 0 => [1]
  | n + 1 => mulL (genL K f n) [0 - gz ((f : Int) + (n : Int)), 1]
theorem genL_length (f n : Nat) : (genL K f n).length = n + 1 := by
  induction n with
  | zero => rfl
  | succ n ih => unfold genL; rw [mulL_length, ih]; simp

/-- one step of the division by the generator polynomial: the remainder, the highest coefficient first -/
def remS (g : List K) (n : Nat) (z : List K) (d : K) : List K := (List.range n).map (fun i => atl z (i + 1) - (d + atl z 0) * atl g (n - 1 - i))
theorem remS_length (g : List K) (n : Nat) (z : List K) (d : K) : (remS g n z d).length = n := by simp [remS]
/-- the remainder -/
def remL (g : List K) (n : Nat) (l : List K) : List K := l.foldl (remS g n) (List.replicate n 0)
theorem remL_length (g : List K) (n : Nat) (l : List K) : (remL g n l).length = n := by
  unfold remL
  suffices ∀ z : List K, z.length = n → (l.foldl (remS g n) z).length = n from this _ (by simp)
  induction l with
  | nil => exact fun z h => h
  | cons d l ih => exact fun z _ => ih _ (remS_length g n z d)
theorem remL_take {g : List K} {n : Nat} {l : List K} {k : Nat} (h : k < l.length) : remL g n (l.take (k + 1)) = remS g n (remL g n (l.take k)) (atl l k) := by
  unfold remL
  rw [List.take_succ_eq_append_getElem h, List.foldl_append]
  have : atl l k = l[k] := by unfold atl; rw [List.getD_eq_getElem?_getD, List.getElem?_eq_getElem h]; rfl
  rw [this]
  rfl
/-- i symbols of a step's remainder have been reckoned -/
def RemI (g : List K) (n : Nat) (z : List K) (d : K) (i : Nat) (ys : List K) : Prop := ys.length = n ∧ ∀ k, k < n → atl ys k = if k < i then atl z (k + 1) - (d + atl z 0) * atl g (n - 1 - k) else atl z (k + 1)
theorem RemI.start {g z : List K} {n : Nat} {d : K} (hz : z.length = n) (hn : 0 < n) : RemI g n z d 0 (z.drop 1 ++ [0]) := by
  refine ⟨by simp; omega, fun k hk => ?_⟩
  rw [if_neg (by omega)]
  by_cases h : k + 1 < n
  · rw [atl_append_left (by simp; omega), atl_drop, Nat.add_comm]
  · have e : k = (z.drop 1).length := by simp; omega
    rw [e, atl_append_last, atl_out (by simp; omega)]
theorem RemI.step {g z ys : List K} {n i : Nat} {d : K} (h : RemI g n z d i ys) (hi : i < n) : RemI g n z d (i + 1) (ys.set i (atl ys i - (d + atl z 0) * atl g (n - 1 - i))) := by
  refine ⟨by rw [List.length_set]; exact h.1, fun k hk => ?_⟩
  by_cases e : k = i
  · subst e
    rw [atl_set_self (by rw [h.1]; exact hk), if_pos (by omega), h.2 k hk, if_neg (by omega)]
  · rw [atl_set_ne (fun h => e h.symm), h.2 k hk]
    by_cases c : k < i
    · rw [if_pos c, if_pos (by omega)]
    · rw [if_neg c, if_neg (by omega)]
theorem RemI.last {g z ys : List K} {n : Nat} {d : K} (h : RemI g n z d n ys) : ys = remS g n z d :=
  atl_ext (by rw [h.1, remS_length]) (fun k hk => by
    have hk' : k < n := by rw [← h.1]; exact hk
    rw [h.2 k hk', if_pos hk']
    unfold remS
    rw [atl_map_range _ hk'])
/-- the codeword of data -/
def encL (g : List K) (n : Nat) (l : List K) : List K := l ++ (remL g n l).map (fun r => 0 - r)
theorem encL_length (g : List K) (n : Nat) (l : List K) : (encL g n l).length = l.length + n := by unfold encL; simp [remL_length]

/-- the syndromes of a word -/
noncomputable def synL (f n : Nat) (l : List K) : List K := (List.range n).map (fun k : Nat => ev l.length (atl l.reverse) (gz ((f : Int) + ((k : Nat) : Int))))
theorem synL_length (f n : Nat) (l : List K) : (synL f n l).length = n := by simp [synL]
theorem synL_succ (f n : Nat) (l : List K) : synL f (n + 1) l = synL f n l ++ [ev l.length (atl l.reverse) (gz ((f : Int) + (n : Int)))] := by simp [synL, List.range_succ]

/-- stores one after the other -/
def setL {α : Type} : List α → Nat → List α → List α
  | xs, _, [] => xs
  | xs, o, c :: cs => setL (xs.set o c) (o + 1) cs
theorem setL_length {α : Type} (cs : List α) : ∀ (xs : List α) (o : Nat), (setL xs o cs).length = xs.length := by
  induction cs with
  | nil => exact fun _ _ => rfl
  | cons c cs ih => exact fun xs o => by unfold setL; rw [ih, List.length_set]
theorem setL_get {α : Type} (cs : List α) : ∀ (xs : List α) (o i : Nat), i < xs.length → (setL xs o cs)[i]? = if o ≤ i ∧ i < o + cs.length then cs[i - o]? else xs[i]? := by
  induction cs with
  | nil => intro xs o i h; rw [if_neg (by simp only [List.length_nil]; omega)]; rfl
  | cons c cs ih =>
    intro xs o i h
    unfold setL
    rw [ih _ _ _ (by rw [List.length_set]; exact h)]
    by_cases e : i = o
    · subst e
      rw [if_neg (by omega), if_pos (by simp), List.getElem?_set_self h, Nat.sub_self, List.getElem?_cons_zero]
    · by_cases c1 : o + 1 ≤ i ∧ i < o + 1 + cs.length
      · rw [if_pos c1, if_pos (by simp; omega), show i - o = (i - (o + 1)) + 1 by omega]; rfl
      · rw [if_neg c1, if_neg (by simp; omega), List.getElem?_set_ne (fun h => e h.symm)]
theorem setL_all {α : Type} (xs cs : List α) (h : cs.length = xs.length) : setL xs 0 cs = cs := by
  apply List.ext_getElem?
  intro i
  by_cases hi : i < xs.length
  · rw [setL_get _ _ _ _ hi, if_pos (by omega)]; rfl
  · rw [List.getElem?_eq_none (by rw [setL_length]; omega), List.getElem?_eq_none (by omega)]
end
end Go.Proofs.Ythcjmmicjbfpgaa.Alg

/-
The algorithm of Berlekamp and Massey on lists of coefficients.
-/
namespace Go.Proofs.Ythcjmmicjbfpgaa.Alg
section
variable {K : Type} [GF K]
open Fld GF

/-- the state -/
structure BM (K : Type) where
  c : List K
  b : List K
  l : Nat
  m : Nat
  last : K
/-- c - k * x^m * b -/
def nextL (c b : List K) (k : K) (m : Nat) : List K := (List.range (max c.length (m + b.length))).map (fun i => atl c i - (if i < m then 0 else k * atl b (i - m)))
theorem nextL_length (c b : List K) (k : K) (m : Nat) : (nextL c b k m).length = max c.length (m + b.length) := by simp [nextL]
theorem atl_nextL (c b : List K) (k : K) (m : Nat) : atl (nextL c b k m) = nxt (atl c) (atl b) m k := by
  funext i
  unfold nxt
  by_cases h : i < max c.length (m + b.length)
  · unfold nextL; rw [atl_map_range _ h]
  · rw [atl_out (by rw [nextL_length]; omega), atl_out (l := c) (by omega)]
    by_cases h2 : i < m
    · rw [if_pos h2, sub_eq, neg_zero, add_zero]
    · rw [if_neg h2, atl_out (l := b) (by omega), mul_zero, sub_eq, neg_zero, add_zero]
/-- one syndrome more -/
noncomputable def stepB (s : List K) (n : Nat) (z : BM K) : BM K :=
  if dis (atl z.c) z.l (atl s) n = 0 then ⟨z.c, z.b, z.l, z.m + 1, z.last⟩
  else if 2 * z.l ≤ n then ⟨nextL z.c z.b (dis (atl z.c) z.l (atl s) n * Fld.inv z.last) z.m, z.c, n + 1 - z.l, 1, dis (atl z.c) z.l (atl s) n⟩
  else ⟨nextL z.c z.b (dis (atl z.c) z.l (atl s) n * Fld.inv z.last) z.m, z.b, z.l, z.m + 1, z.last⟩
noncomputable def runB (s : List K) : Nat → BM K
  | 0 => ⟨[1], [1], 0, 1, 1⟩
  | n + 1 => stepB s n (runB s n)
/-- what holds of the state when n syndromes are over -/
structure BMI (s : List K) (n : Nat) (z : BM K) : Prop where
  inv : Inv (atl s) n (atl z.c) (atl z.b) z.l z.m z.last
  lc : z.c.length ≤ n + 1
  lb : z.m + z.b.length ≤ n + 2
  c1 : 1 ≤ z.c.length
  b1 : 1 ≤ z.b.length
theorem atl_one : atl [(1 : K)] = loc [] := by
  funext i
  simp only [loc]
  cases i with
  | zero => rw [if_pos rfl]; rfl
  | succ i => rw [if_neg (by omega), atl_out (by simp)]
theorem runB_inv (s : List K) : ∀ n, BMI s n (runB s n)
  | 0 => ⟨by show Inv _ _ (atl [(1 : K)]) (atl [(1 : K)]) _ _ _; rw [atl_one]; exact inv_start _, Nat.le_refl _, Nat.le_refl _, Nat.le_refl _, Nat.le_refl _⟩
  | n + 1 => by
    have ih := runB_inv s n
    show BMI s (n + 1) (stepB s n (runB s n))
    obtain ⟨z, hz⟩ : ∃ z, runB s n = z := ⟨_, rfl⟩
    rw [hz] at ih ⊢
    have h1 := ih.lc
    have h2 := ih.lb
    have h3 := ih.c1
    have h4 := ih.b1
    unfold stepB
    by_cases hd : dis (atl z.c) z.l (atl s) n = 0
    · rw [if_pos hd]
      exact ⟨ih.inv.keep hd, by show z.c.length ≤ _; omega, by show z.m + 1 + z.b.length ≤ _; omega, h3, h4⟩
    · rw [if_neg hd]
      have hk : dis (atl z.c) z.l (atl s) n * Fld.inv z.last * z.last = dis (atl z.c) z.l (atl s) n := by
        rw [mul_assoc, inv_mul ih.inv.bne, mul_one]
      by_cases hl : 2 * z.l ≤ n
      · rw [if_pos hl]
        refine ⟨?_, ?_, ?_, ?_, h3⟩
        · show Inv _ _ (atl (nextL _ _ _ _)) _ _ _ _
          rw [atl_nextL]
          exact ih.inv.change hk hd hl
        · show (nextL _ _ _ _).length ≤ _; rw [nextL_length]; omega
        · show 1 + z.c.length ≤ _; omega
        · show 1 ≤ (nextL _ _ _ _).length; rw [nextL_length]; omega
      · rw [if_neg hl]
        refine ⟨?_, ?_, ?_, ?_, h4⟩
        · show Inv _ _ (atl (nextL _ _ _ _)) _ _ _ _
          rw [atl_nextL]
          exact ih.inv.longer hk (by omega)
        · show (nextL _ _ _ _).length ≤ _; rw [nextL_length]; omega
        · show z.m + 1 + z.b.length ≤ _; omega
        · show 1 ≤ (nextL _ _ _ _).length; rw [nextL_length]; omega

/-- i terms of the step's row have been reckoned -/
def NxI (c b : List K) (k : K) (m i : Nat) (ys : List K) : Prop := ys.length = max c.length (m + b.length) ∧ ∀ t, t < ys.length → atl ys t = atl c t - (if m ≤ t ∧ t < m + i then k * atl b (t - m) else 0)
theorem sub_zero' (a : K) : a - 0 = a := by rw [sub_eq, neg_zero, add_zero]
theorem NxI.start (c b : List K) (k : K) (m : Nat) : NxI c b k m 0 ((List.range (max c.length (m + b.length))).map (atl c)) := by
  refine ⟨by simp, fun t ht => ?_⟩
  rw [if_neg (by omega), sub_zero', atl_map_range _ (by simpa using ht)]
theorem NxI.step {c b ys : List K} {k : K} {m i : Nat} (h : NxI c b k m i ys) : NxI c b k m (i + 1) (ys.set (m + i) (atl ys (m + i) - k * atl b i)) := by
  have hl := h.1
  refine ⟨by rw [List.length_set]; exact hl, fun t ht => ?_⟩
  rw [List.length_set] at ht
  by_cases e : t = m + i
  · subst e
    rw [atl_set_self ht, h.2 _ ht, if_neg (by omega), sub_zero', if_pos (by omega), Nat.add_sub_cancel_left]
  · rw [atl_set_ne (fun e' => e e'.symm), h.2 t ht]
    congr 1
    by_cases c1 : m ≤ t ∧ t < m + i
    · rw [if_pos c1, if_pos (by omega)]
    · rw [if_neg c1, if_neg (by omega)]
theorem NxI.last {c b ys : List K} {k : K} {m : Nat} (h : NxI c b k m b.length ys) : ys = nextL c b k m := by
  refine atl_ext (by rw [h.1, nextL_length]) (fun t ht => ?_)
  rw [h.2 t ht, atl_nextL]
  unfold nxt
  congr 1
  by_cases c1 : t < m
  · rw [if_neg (by omega), if_pos c1]
  · rw [if_neg c1]
    by_cases c2 : t < m + b.length
    · rw [if_pos (by omega)]
    · rw [if_neg (by omega), atl_out (l := b) (by omega), mul_zero]
end
end Go.Proofs.Ythcjmmicjbfpgaa.Alg

/-
The field of seven elements, reckoned.
-/
namespace Go.Proofs.Ythcjmmicjbfpgaa.Alg
open Fld GF
structure F7 where
  v : Fin 7
namespace F7
theorem ext {a b : F7} (h : a.v = b.v) : a = b := by cases a; cases b; cases h; rfl
instance fld : Fld F7 where
  zero := ⟨0⟩
  one := ⟨1⟩
  add a b := ⟨a.v + b.v⟩
  mul a b := ⟨a.v * b.v⟩
  neg a := ⟨0 - a.v⟩
  sub a b := ⟨a.v - b.v⟩
  inv a := ⟨a.v * a.v * a.v * a.v * a.v⟩
  add_assoc a b c := ext ((by decide : ∀ a b c : Fin 7, a + b + c = a + (b + c)) a.v b.v c.v)
  add_comm a b := ext ((by decide : ∀ a b : Fin 7, a + b = b + a) a.v b.v)
  add_zero a := ext ((by decide : ∀ a : Fin 7, a + 0 = a) a.v)
  add_neg a := ext ((by decide : ∀ a : Fin 7, a + (0 - a) = 0) a.v)
  sub_eq a b := ext ((by decide : ∀ a b : Fin 7, a - b = a + (0 - b)) a.v b.v)
  mul_assoc a b c := ext ((by decide : ∀ a b c : Fin 7, a * b * c = a * (b * c)) a.v b.v c.v)
  mul_comm a b := ext ((by decide : ∀ a b : Fin 7, a * b = b * a) a.v b.v)
  mul_one a := ext ((by decide : ∀ a : Fin 7, a * 1 = a) a.v)
  mul_add a b c := ext ((by decide : ∀ a b c : Fin 7, a * (b + c) = a * b + a * c) a.v b.v c.v)
  one_ne := fun e => by have := congrArg F7.v e; revert this; decide
  mul_inv a h := ext ((by decide : ∀ a : Fin 7, a ≠ 0 → a * (a * a * a * a * a) = 1) a.v (fun e => h (ext e)))
theorem pri7 : Pri 7 := fun d h1 h2 => by
  have h3 : d < 3 := by
    apply Classical.byContradiction
    intro h
    have := Nat.mul_le_mul (show 3 ≤ d by omega) (show 3 ≤ d by omega)
    omega
  have : d = 2 := by omega
  subst this
  decide
instance gf : GF F7 where
  toFld := fld
  ch := 7
  sz := 7
  po := 0
  valid := Or.inr ⟨rfl, rfl, by decide, by decide, pri7⟩
  val a := a.v.val
  val_lt a := a.v.isLt
  of i := ⟨⟨i % 7, Nat.mod_lt _ (by decide)⟩⟩
  val_of i hi := Nat.mod_eq_of_lt hi
  of_val a := ext (Fin.ext (Nat.mod_eq_of_lt a.v.isLt))
  val_zero := rfl
  val_one := rfl
  val_add a b := by rw [if_neg (by decide)]; exact (by decide : ∀ a b : Fin 7, (a + b).val = (a.val + b.val) % 7) a.v b.v
  val_sub a b := by rw [if_neg (by decide)]; exact (by decide : ∀ a b : Fin 7, (a - b).val = (a.val + 7 - b.val) % 7) a.v b.v
  val_mul a b := by rw [if_neg (by decide)]; exact (by decide : ∀ a b : Fin 7, (a * b).val = (a.val * b.val) % 7) a.v b.v
  val_nc k := by
    induction k with
    | zero => rfl
    | succ k ih =>
      have h := (by decide : ∀ a b : Fin 7, (a + b).val = (a.val + b.val) % 7) (nc k : F7).v 1
      have ih' : (nc k : F7).v.val = k % 7 := ih
      show ((nc k : F7).v + 1).val = (k + 1) % 7
      rw [h, ih']
      show (k % 7 + 1) % 7 = (k + 1) % 7
      omega
/-- the powers of 3 -/
def tab : Nat → F7
  | 0 => ⟨1⟩
  | 1 => ⟨3⟩
  | 2 => ⟨2⟩
  | 3 => ⟨6⟩
  | 4 => ⟨4⟩
  | _ => ⟨5⟩
theorem pw_tab : ∀ k, k < 6 → pw (⟨3⟩ : F7) k = tab k
  | 0, _ => rfl
  | 1, _ => rfl
  | 2, _ => rfl
  | 3, _ => rfl
  | 4, _ => rfl
  | 5, _ => rfl
  | k + 6, h => absurd h (by omega)
theorem ord3 : IsOrd (⟨3⟩ : F7) 6 where
  pos := by decide
  one := rfl
  least := fun k h1 h2 h => by
    rw [pw_tab k h2] at h
    have h3 : (tab k).v = 1 := congrArg F7.v h
    match k, h1, h2, h3 with
    | 1, _, _, h3 => exact absurd h3 (by decide)
    | 2, _, _, h3 => exact absurd h3 (by decide)
    | 3, _, _, h3 => exact absurd h3 (by decide)
    | 4, _, _, h3 => exact absurd h3 (by decide)
    | 5, _, _, h3 => exact absurd h3 (by decide)
theorem gen_is : (gen : F7) = ⟨3⟩ := by
  have h1 := gen_least (K := F7) ⟨3⟩ ord3
  have h2 := gen_ord (K := F7)
  obtain ⟨g, hg⟩ : ∃ g : F7, gen = g := ⟨_, rfl⟩
  rw [hg] at h1 h2 ⊢
  obtain ⟨v⟩ := g
  have h3 : v.val ≤ 3 := h1
  have key : ∀ v : Fin 7, v.val ≤ 3 → v ≠ 3 → v = 0 ∨ v = 1 ∨ v = 2 := by decide
  by_cases e : v = 3
  · rw [e]
  · rcases key v h3 e with rfl | rfl | rfl
    · exact absurd rfl h2.ne
    · exact absurd rfl (h2.least 1 (by decide) (by decide))
    · exact absurd rfl (h2.least 3 (by decide) (by decide))
theorem gz_is : (gz : Int → F7) = fun n => tab (n % 6).toNat := by
  funext n
  show pw gen (n % 6).toNat = _
  rw [gen_is]
  exact pw_tab _ (by omega)
end F7
end Go.Proofs.Ythcjmmicjbfpgaa.Alg
