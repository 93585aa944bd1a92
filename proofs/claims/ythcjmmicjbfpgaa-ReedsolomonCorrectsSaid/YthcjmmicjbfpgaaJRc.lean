/-
The walk of the law Linear.
The walk of the law Linear at a valid code, two data of one length and an element.
-/
import Derived.Test.YthcjmmicjbfpgaaJAa
import Derived.Test.YthcjmmicjbfpgaaJRb
/-
Encoding is linear.
-/
namespace Go.Proofs.Ythcjmmicjbfpgaa.Alg
section
variable {K : Type} [GF K]
open Fld GF

/-- a list and a multiple of another one, added -/
def lin (u : K) (xs ys : List K) : List K := (List.range xs.length).map (fun j => atl xs j + u * atl ys j)
theorem lin_length (u : K) (xs ys : List K) : (lin u xs ys).length = xs.length := by simp [lin]
theorem atl_lin {u : K} {xs ys : List K} (h : ys.length ≤ xs.length) (i : Nat) : atl (lin u xs ys) i = atl xs i + u * atl ys i := by
  by_cases hi : i < xs.length
  · exact atl_map_range _ hi
  · rw [atl_out (by rw [lin_length]; omega), atl_out (l := xs) (by omega), atl_out (l := ys) (by omega), mul_zero, add_zero]
theorem lin_ring (p q d e z w g u : K) : (p + u * q) - ((d + u * e) + (z + u * w)) * g = (p - (d + z) * g) + u * (q - (e + w) * g) := by
  have e1 : ((d + u * e) + (z + u * w)) * g = (d + z) * g + u * ((e + w) * g) := by
    rw [show (d + u * e) + (z + u * w) = (d + z) + u * (e + w) from by rw [mul_add]; ac_rfl, add_mul, mul_assoc]
  rw [e1, sub_eq, sub_eq, sub_eq, neg_add, mul_add, mul_neg]
  ac_rfl
theorem remS_lin (g : List K) (n : Nat) (u d e : K) (z w : List K) (hz : z.length = n) (hw : w.length = n) : remS g n (lin u z w) (d + u * e) = lin u (remS g n z d) (remS g n w e) := by
  refine atl_ext (by rw [remS_length, lin_length, remS_length]) (fun i hi => ?_)
  rw [remS_length] at hi
  rw [atl_lin (by rw [remS_length, remS_length]; exact Nat.le_refl _)]
  unfold remS
  rw [atl_map_range _ hi, atl_map_range _ hi, atl_map_range _ hi, atl_lin (by omega), atl_lin (by omega)]
  exact lin_ring _ _ _ _ _ _ _ _
theorem remL_lin (g : List K) (n : Nat) (u : K) (xs ys : List K) (h : ys.length = xs.length) : ∀ k, k ≤ xs.length → remL g n ((lin u xs ys).take k) = lin u (remL g n (xs.take k)) (remL g n (ys.take k))
  | 0, _ => by
    rw [List.take_zero, List.take_zero, List.take_zero]
    refine atl_ext (by rw [lin_length]) (fun i _ => ?_)
    rw [atl_lin (Nat.le_refl _)]
    have : atl (remL g n ([] : List K)) i = 0 := atl_replicate
    rw [this, mul_zero, add_zero]
  | k + 1, hk => by
    rw [remL_take (by rw [lin_length]; omega), remL_take (by omega), remL_take (by omega), remL_lin g n u xs ys h k (by omega), atl_lin (by omega)]
    exact remS_lin g n u _ _ _ _ (remL_length _ _ _) (remL_length _ _ _)
theorem neg_lin (p q u : K) : 0 - (p + u * q) = (0 - p) + u * (0 - q) := by
  rw [sub_eq, sub_eq, sub_eq, zero_add, zero_add, zero_add, neg_add, mul_neg]
/-- the codeword of the sum is the sum of the codewords -/
theorem encL_lin (g : List K) (n : Nat) (u : K) (xs ys : List K) (h : ys.length = xs.length) : encL g n (lin u xs ys) = lin u (encL g n xs) (encL g n ys) := by
  have hr : remL g n (lin u xs ys) = lin u (remL g n xs) (remL g n ys) := by
    have := remL_lin g n u xs ys h xs.length (Nat.le_refl _)
    rw [List.take_of_length_le (by rw [lin_length]; exact Nat.le_refl _), List.take_length, List.take_of_length_le (by omega)] at this
    exact this
  refine atl_ext (by rw [encL_length, lin_length, lin_length, encL_length]) (fun i hi => ?_)
  rw [encL_length, lin_length] at hi
  rw [atl_lin (by rw [encL_length, encL_length]; omega)]
  unfold encL
  rw [hr]
  have key : ∀ zs : List K, i - xs.length < zs.length → atl (zs.map (fun r => 0 - r)) (i - xs.length) = 0 - atl zs (i - xs.length) := by
    intro zs hz
    unfold atl
    rw [List.getD_eq_getElem?_getD, List.getD_eq_getElem?_getD, List.getElem?_map, List.getElem?_eq_getElem hz]
    rfl
  have right : ∀ (l m : List K), l.length = xs.length → xs.length ≤ i → atl (l ++ m) i = atl m (i - xs.length) := by
    intro l m hl hx
    unfold atl
    rw [List.getD_eq_getElem?_getD, List.getD_eq_getElem?_getD, List.getElem?_append_right (by omega), hl]
  by_cases hx : i < xs.length
  · rw [atl_append_left (by rw [lin_length]; exact hx), atl_append_left hx, atl_append_left (by omega), atl_lin (by omega)]
  · rw [right _ _ (lin_length _ _ _) (by omega), right _ _ rfl (by omega), right _ _ h (by omega), key _ (by rw [lin_length, remL_length]; omega), key _ (by rw [remL_length]; omega), key _ (by rw [remL_length]; omega),
      atl_lin (by rw [remL_length, remL_length]; exact Nat.le_refl _)]
    exact neg_lin _ _ _
theorem lin_take (u : K) (xs ys : List K) (h : ys.length = xs.length) (k : Nat) (hk : k ≤ xs.length) : (lin u xs ys).take k = lin u (xs.take k) (ys.take k) := by
  refine atl_ext (by rw [List.length_take, lin_length, lin_length, List.length_take]) (fun i hi => ?_)
  rw [List.length_take, lin_length] at hi
  rw [atl_take (by omega), atl_lin (by omega), atl_lin (by rw [List.length_take, List.length_take]; omega), atl_take (by omega), atl_take (by omega)]
end
end Go.Proofs.Ythcjmmicjbfpgaa.Alg

namespace Go.Proofs.Ythcjmmicjbfpgaa.Rs
set_option linter.unusedVariables false
set_option linter.unusedSimpArgs false
open Go.RowKit Go.Proofs.Ythcjmmicjbfpgaa.Alg
open GF
set_option linter.unusedSimpArgs false

section
variable {K : Type} [GF K]
/-- Encode at a valid code: an error, or the codeword -/
theorem enc_K (par fst : Nat) (h1 : 1 ≤ par) (h2 : par ≤ sz K - 2) (h3 : fst ≤ sz K - 2) (A : Option Addr) (cp : Nat) (word : List Int) (hl : word.length ≤ 100000) :
    (∃ E : Int, E ≠ 0 ∧ ∀ w, RdI w A word → Ans 16 #[.agg #[.int .i64 (ch K), .int .i64 (sz K), .int .i64 (po K), .int .i64 par, .int .i64 fst], .slice A word.length cp] w [] E) ∨
    (∃ ws : List K, ints ws = word ∧ 1 ≤ ws.length ∧ ws.length ≤ sz K - 1 - par ∧ ∀ w, RdI w A word → Calls Try.prog 16 #[.agg #[.int .i64 (ch K), .int .i64 (sz K), .int .i64 (po K), .int .i64 par, .int .i64 fst], .slice A word.length cp] w fun e w' =>
      ∃ v, e = .returned (.tuple #[v, .int .i64 0]) ∧ As (OwnK w' w.heap.size v (encL (genL K fst par) par ws)) ∧ Below w.heap.size w w') := by
  have hs2 := sz_two (K := K)
  have hs3 := sz_max (K := K)
  cases ha : anyOut (sz K : Int) word with
  | true =>
    left
    refine ⟨1, by decide, fun w hr => ans_nil (encode_bad _ _ _ par fst A cp word w hr hl ?_)⟩
    rw [vldB_eq, ha]
    simp
  | false =>
    obtain ⟨ws, rfl⟩ := lift_ints (K := K) ha
    rw [ints_length] at hl ⊢
    by_cases hf : ((ints ws).length : Int) < 1 ∨ (sz K : Int) - 1 - par < ((ints ws).length : Int)
    · left
      refine ⟨7, by decide, fun w hr => ?_⟩
      have := encode_length _ _ _ par fst (by omega) (by omega) (by omega) (by omega) A cp (ints ws) w hr (by rw [ints_length]; exact hl) (vld_K (K := K) h1 h2 h3 ws) hf
      rw [ints_length] at this
      exact ans_nil this
    · right
      rw [ints_length] at hf
      exact ⟨ws, rfl, by omega, by omega, fun w hr => encodeK (K := K) par fst h1 h2 h3 A cp ws (by omega) (by omega) w (rdI_K hr)⟩

/-- what Linear keeps -/
structure LinI (w : World) (Z : Nat) (c s p par fst : Int) (A1 : Option Addr) (n1 c1 : Nat) (A2 : Option Addr) (n2 c2 : Nat) (A3 : Option Addr) (xs ys : List Int) : Prop where
  k : AskI w Z c s p par fst A1 n1 c1 A2 n2 c2
  f : Box3 w (Z + 1) (.int .i64 c) (.int .i64 s) (.int .i64 p)
  x : RdI w A1 xs
  y : RdI w A3 ys
theorem LinI.below {w w1 : World} {Z : Nat} {c s p par fst : Int} {A1 A2 A3 : Option Addr} {n1 c1 n2 c2 : Nat} {xs ys : List Int} (h : LinI w Z c s p par fst A1 n1 c1 A2 n2 c2 A3 xs ys) (hb : Below w.heap.size w w1) : LinI w1 Z c s p par fst A1 n1 c1 A2 n2 c2 A3 xs ys :=
  ⟨h.k.below hb, h.f.below hb, h.x.below hb, h.y.below hb⟩
theorem LinI.new {w : World} {c s p par fst : Int} {A1 A2 A3 : Option Addr} {n1 c1 n2 c2 : Nat} {xs ys : List Int} (hx : RdI w A1 xs) (hy : RdI w A3 ys) :
    LinI ((w.alloc (.cells #[.int .i64 c, .int .i64 s, .int .i64 p, .int .i64 par, .int .i64 fst, .slice A1 n1 c1, .slice A2 n2 c2] 36)).alloc (.cells #[.int .i64 c, .int .i64 s, .int .i64 p] 23)) w.heap.size c s p par fst A1 n1 c1 A2 n2 c2 A3 xs ys := by
  refine ⟨AskI.new.below (bl_alloc (bl_refl _)), ?_, hx.below (bl_alloc (bl_alloc (bl_refl _))), hy.below (bl_alloc (bl_alloc (bl_refl _)))⟩
  have h := Box3.new (w := w.alloc (.cells #[.int .i64 c, .int .i64 s, .int .i64 p, .int .i64 par, .int .i64 fst, .slice A1 n1 c1, .slice A2 n2 c2] 36)) (x := .int .i64 c) (y := .int .i64 s) (z := .int .i64 p) (t := 23)
  rw [show (w.alloc (.cells #[.int .i64 c, .int .i64 s, .int .i64 p, .int .i64 par, .int .i64 fst, .slice A1 n1 c1, .slice A2 n2 c2] 36)).heap.size = w.heap.size + 1 by simp] at h
  exact h
end

set_option maxRecDepth 100000 in
set_option maxHeartbeats 6400000 in
theorem linear_out (c s p par fst u : Int) (hs : s < 9223372036854775808) (A1 A2 A3 : Option Addr) (c1 n2 c2 c3 : Nat) (xs ys : List Int) (w : World) (hx : RdI w A1 xs) (hy : RdI w A3 ys)
    (h : smB par xs.length n2 = false ∨ ciB c s p par fst = false ∨ ys.length ≠ xs.length ∨ isB s u = false) :
    Calls Try.prog 8 #[.agg #[.int .i64 c, .int .i64 s, .int .i64 p, .int .i64 par, .int .i64 fst, .slice A1 xs.length c1, .slice A2 n2 c2], .slice A3 ys.length c3, .int .i64 u] w fun e w' => e = .returned (.bool true) ∧ Below w.heap.size w w' := by
  have HI := As.mk (LinI.new (w := w) (c := c) (s := s) (p := p) (par := par) (fst := fst) (A1 := A1) (n1 := xs.length) (c1 := c1) (A2 := A2) (n2 := n2) (c2 := c2) hx hy)
  have HS := As.mk (small_any c s p par fst A1 A2 xs.length c1 n2 c2)
  have HV := As.mk (valid7_any c s p par fst hs)
  have HU := As.mk (is4_any c s p u)
  obtain ⟨b1, e1⟩ : ∃ b, smB par xs.length n2 = b := ⟨_, rfl⟩
  obtain ⟨b2, e2⟩ : ∃ b, ciB c s p par fst = b := ⟨_, rfl⟩
  obtain ⟨b3, e3⟩ : ∃ b, isB s u = b := ⟨_, rfl⟩
  rw [e1] at HS h
  rw [e2] at HV h
  rw [e3] at HU h
  obtain ⟨n, hn⟩ : ∃ n, xs.length = n := ⟨_, rfl⟩
  obtain ⟨m, hm⟩ : ∃ m, ys.length = m := ⟨_, rfl⟩
  rw [hn] at HS HI h ⊢
  rw [hm] at h ⊢
  clear e1 e2 e3 hn hm hs hx hy
  have c0 := HI.out.k.b.c0
  have c1 := HI.out.k.b.c1
  have c2 := HI.out.k.b.c2
  have c3 := HI.out.k.b.c3
  have c4 := HI.out.k.b.c4
  have c5 := HI.out.k.c5
  have c6 := HI.out.k.c6
  cases b1 with
  | false =>
    clear h
    go_enter Try.func8, Try.ntmps8
    go_wp2_with fail
    refine (HS.out _).mono ?_
    rintro e w1 ⟨rfl, hb⟩
    go_wp2_with fail
    refine (alive_any _).mono ?_
    rintro e w3 ⟨rfl, hb3⟩
    go_wp2
    go_ret
    exact ⟨rfl, bl_then hb3 (bl_then hb (bl_alloc (bl_alloc (bl_refl _))))⟩
  | true =>
    cases b2 with
    | false =>
      clear h
      go_enter Try.func8, Try.ntmps8
      go_wp2_with fail
      refine (HS.out _).mono ?_
      rintro e w1 ⟨rfl, hb⟩
      have hi := HI.out.below hb
      clear c0 c1 c2 c3 c4 c5 c6
      have c0 := hi.k.b.c0
      have c1 := hi.k.b.c1
      have c2 := hi.k.b.c2
      have c3 := hi.k.b.c3
      have c4 := hi.k.b.c4
      clear hi
      go_wp2_with fail
      refine (HV.out _).mono ?_
      rintro e w2 ⟨rfl, hb2⟩
      go_wp2_with fail
      refine (alive_any _).mono ?_
      rintro e w3 ⟨rfl, hb3⟩
      go_wp2
      go_ret
      exact ⟨rfl, bl_then hb3 (bl_then hb2 (bl_then hb (bl_alloc (bl_alloc (bl_refl _)))))⟩
    | true =>
      by_cases hmn : m = n
      · have hb3 : b3 = false := by
          rcases h with h | h | h | h
          · cases h
          · cases h
          · exact absurd hmn h
          · exact h
        subst hb3
        subst hmn
        clear h
        have g1 : ((m : Int) == (m : Int)) = true := by simp
        have g2 : ((m : Int) != (m : Int)) = false := by simp
        go_enter Try.func8, Try.ntmps8
        go_wp2_with fail
        refine (HS.out _).mono ?_
        rintro e w1 ⟨rfl, hb⟩
        have hi := HI.out.below hb
        clear c0 c1 c2 c3 c4 c5 c6
        have c0 := hi.k.b.c0
        have c1 := hi.k.b.c1
        have c2 := hi.k.b.c2
        have c3 := hi.k.b.c3
        have c4 := hi.k.b.c4
        go_wp2_with fail
        refine (HV.out _).mono ?_
        rintro e w2 ⟨rfl, hb2⟩
        have hi2 := hi.below hb2
        clear c0 c1 c2 c3 c4
        have c5 := hi2.k.c5
        have f0 := hi2.f.c0
        have f1 := hi2.f.c1
        have f2 := hi2.f.c2
        clear hi hi2
        go_wp2_with fail
        refine (HU.out _).mono ?_
        rintro e w3 ⟨rfl, hb3⟩
        go_wp2_with fail
        refine (alive_any _).mono ?_
        rintro e w4 ⟨rfl, hb4⟩
        go_wp2
        go_ret
        exact ⟨rfl, bl_then hb4 (bl_then hb3 (bl_then hb2 (bl_then hb (bl_alloc (bl_alloc (bl_refl _))))))⟩
      · clear h
        have g1 : ((m : Int) == (n : Int)) = false := beq_eq_false_iff_ne.mpr (by omega)
        have g2 : ((m : Int) != (n : Int)) = true := by rw [bne, g1]; rfl
        go_enter Try.func8, Try.ntmps8
        go_wp2_with fail
        refine (HS.out _).mono ?_
        rintro e w1 ⟨rfl, hb⟩
        have hi := HI.out.below hb
        clear c0 c1 c2 c3 c4 c5 c6
        have c0 := hi.k.b.c0
        have c1 := hi.k.b.c1
        have c2 := hi.k.b.c2
        have c3 := hi.k.b.c3
        have c4 := hi.k.b.c4
        go_wp2_with fail
        refine (HV.out _).mono ?_
        rintro e w2 ⟨rfl, hb2⟩
        have hi2 := hi.below hb2
        clear c0 c1 c2 c3 c4
        have c5 := hi2.k.c5
        clear hi hi2
        go_wp2_with fail
        refine (alive_any _).mono ?_
        rintro e w4 ⟨rfl, hb4⟩
        go_wp2
        go_ret
        exact ⟨rfl, bl_then hb4 (bl_then hb2 (bl_then hb (bl_alloc (bl_alloc (bl_refl _)))))⟩
end Go.Proofs.Ythcjmmicjbfpgaa.Rs

namespace Go.Proofs.Ythcjmmicjbfpgaa.Rs
set_option linter.unusedVariables false
set_option linter.unusedSimpArgs false
open Go.RowKit Go.Proofs.Ythcjmmicjbfpgaa.Alg
open GF
set_option linter.unusedSimpArgs false

section
variable {K : Type} [GF K]
theorem encL_take (g : List K) (n : Nat) (l : List K) {N : Nat} (h : l.length = N) : (encL g n l).take N = l := by
  unfold encL
  rw [← h, List.take_left]

set_option maxRecDepth 100000 in
set_option maxHeartbeats 12800000 in
theorem linear_in (par fst : Nat) (h1 : 1 ≤ par) (h2 : par ≤ sz K - 2) (h3 : fst ≤ sz K - 2) (u : K) (A1 A2 A3 : Option Addr) (c1 n2 c2 c3 N : Nat) (xs ys : List Int) (w : World) (hx : RdI w A1 xs) (hy : RdI w A3 ys) (hxn : xs.length = N) (hyn : ys.length = N)
    (hsm : smB par N n2 = true) :
    Calls Try.prog 8 #[.agg #[.int .i64 (ch K), .int .i64 (sz K), .int .i64 (po K), .int .i64 par, .int .i64 fst, .slice A1 N c1, .slice A2 n2 c2], .slice A3 N c3, .int .i64 (val u)] w fun e w' => e = .returned (.bool true) ∧ Below w.heap.size w w' := by
  have hs2 := sz_two (K := K)
  have hs3 := sz_max (K := K)
  have hN4 : N ≤ 400 := by
    unfold smB at hsm
    simp only [Bool.and_eq_true, decide_eq_true_eq] at hsm
    exact hsm.1.2
  have HI := As.mk (LinI.new (w := w) (c := ch K) (s := sz K) (p := po K) (par := par) (fst := fst) (A1 := A1) (n1 := N) (c1 := c1) (A2 := A2) (n2 := n2) (c2 := c2) hx hy)
  have hsa := small_any (ch K) (sz K) (po K) par fst A1 A2 N c1 n2 c2
  rw [hsm] at hsa
  have HS := As.mk hsa
  have HV := As.mk (valid7K (K := K) h1 h2 h3)
  have hu := is4_any (ch K) (sz K) (po K) (val u)
  have hub : isB (sz K : Int) (val u : Int) = true := by
    have := val_lt u
    unfold isB
    rw [decide_eq_true (by omega), decide_eq_true (by omega)]
    rfl
  rw [hub] at hu
  have HU := As.mk hu
  have e1 := enc_K (K := K) par fst h1 h2 h3 A1 c1 xs (by omega)
  have e2 := enc_K (K := K) par fst h1 h2 h3 A3 c3 ys (by omega)
  rw [hxn] at e1
  rw [hyn] at e2
  have E1 := As.mk e1
  have E2 := As.mk e2
  have HXN := As.mk hxn
  have HYN := As.mk hyn
  have g1 : ((N : Int) == (N : Int)) = true := by simp
  have g2 : ((N : Int) != (N : Int)) = false := by simp
  clear hsm hsa hu hub e1 e2 hx hy hxn hyn
  have c0 := HI.out.k.b.c0
  have c1' := HI.out.k.b.c1
  have c2' := HI.out.k.b.c2
  have c3' := HI.out.k.b.c3
  have c4 := HI.out.k.b.c4
  have c5 := HI.out.k.c5
  have c6 := HI.out.k.c6
  go_enter Try.func8, Try.ntmps8
  go_wp2_with fail
  refine (HS.out _).mono ?_
  rintro e w1 ⟨rfl, hb⟩
  have HB1 : As (Below w.heap.size w w1) := ⟨bl_then hb (bl_alloc (bl_alloc (bl_refl _)))⟩
  have HI1 := As.mk (HI.out.below hb)
  clear c0 c1' c2' c3' c4 c5 c6 hb HI HS
  have c0 := HI1.out.k.b.c0
  have c1' := HI1.out.k.b.c1
  have c2' := HI1.out.k.b.c2
  have c3' := HI1.out.k.b.c3
  have c4 := HI1.out.k.b.c4
  go_wp2_with fail
  refine (HV.out _).mono ?_
  rintro e w2 ⟨rfl, hb⟩
  have HB2 : As (Below w.heap.size w w2) := ⟨bl_then hb HB1.out⟩
  have HI2 := As.mk (HI1.out.below hb)
  clear c0 c1' c2' c3' c4 hb HI1 HV HB1
  have c5 := HI2.out.k.c5
  have f0 := HI2.out.f.c0
  have f1 := HI2.out.f.c1
  have f2 := HI2.out.f.c2
  go_wp2_with fail
  refine (HU.out _).mono ?_
  rintro e w3 ⟨rfl, hb⟩
  have HB3 : As (Below w.heap.size w w3) := ⟨bl_then hb HB2.out⟩
  have HI3 := As.mk (HI2.out.below hb)
  clear c5 f0 f1 f2 hb HI2 HU HB2 g1 g2
  have c0 := HI3.out.k.b.c0
  have c1' := HI3.out.k.b.c1
  have c2' := HI3.out.k.b.c2
  have c3' := HI3.out.k.b.c3
  have c4 := HI3.out.k.b.c4
  have c5 := HI3.out.k.c5
  rcases E1.out with ⟨e1, hne, ha1⟩ | ⟨ws, hws, hw1, hw2, ha1⟩
  · have A1' := As.mk ha1
    have g3 : (e1 == 0) = false := beq_eq_false_iff_ne.mpr hne
    have g4 : (e1 != 0) = true := by rw [bne, g3]; rfl
    clear ha1 hne E1
    go_wp2_with fail
    refine (A1'.out _ HI3.out.x).mono ?_
    rintro e w4 ⟨B1, k1, rfl, _, hb⟩
    have HB4 : As (Below w.heap.size w w4) := ⟨bl_then hb HB3.out⟩
    have HI4 := As.mk (HI3.out.below hb)
    clear c0 c1' c2' c3' c4 c5 hb HI3 HB3
    have c0 := HI4.out.k.b.c0
    have c1' := HI4.out.k.b.c1
    have c2' := HI4.out.k.b.c2
    have c3' := HI4.out.k.b.c3
    have c4 := HI4.out.k.b.c4
    have H2 : As (∀ w, RdI w A3 ys → Calls Try.prog 16 #[.agg #[.int .i64 (ch K), .int .i64 (sz K), .int .i64 (po K), .int .i64 par, .int .i64 fst], .slice A3 N c3] w fun e w' => ∃ v E2, e = .returned (.tuple #[v, .int .i64 E2]) ∧ Below w.heap.size w w') := ⟨fun w hr => by
      rcases E2.out with ⟨e2, _, ha⟩ | ⟨_, _, _, _, ha⟩
      · exact (ha w hr).mono (fun e w' ⟨A, c, he, _, hb⟩ => ⟨_, _, he, hb⟩)
      · exact (ha w hr).mono (fun e w' ⟨v, he, _, hb⟩ => ⟨_, _, he, hb⟩)⟩
    clear E2
    go_wp2_with fail
    refine (H2.out _ HI4.out.y).mono ?_
    rintro e w5 ⟨v2, e2, rfl, hb⟩
    have HB5 : As (Below w.heap.size w w5) := ⟨bl_then hb HB4.out⟩
    clear hb HB4 HI4 H2 c0 c1' c2' c3' c4
    go_wp2_with fail
    refine (alive_any _).mono ?_
    rintro e w6 ⟨rfl, hb⟩
    go_wp2
    go_ret
    exact ⟨rfl, bl_then hb HB5.out⟩
  · have A1' := As.mk ha1
    have HWS := As.mk hws
    clear ha1 hws E1
    go_wp2_with fail
    refine (A1'.out _ HI3.out.x).mono ?_
    rintro e w4 ⟨v1, rfl, ho1, hb⟩
    have HB4 : As (Below w.heap.size w w4) := ⟨bl_then hb HB3.out⟩
    have HI4 := As.mk (HI3.out.below hb)
    clear c0 c1' c2' c3' c4 c5 hb HI3 HB3
    have c0 := HI4.out.k.b.c0
    have c1' := HI4.out.k.b.c1
    have c2' := HI4.out.k.b.c2
    have c3' := HI4.out.k.b.c3
    have c4 := HI4.out.k.b.c4
    rcases E2.out with ⟨e2, hne, ha2⟩ | ⟨vs, hvs, hv1, hv2, ha2⟩
    · have A2' := As.mk ha2
      have g3 : (e2 == 0) = false := beq_eq_false_iff_ne.mpr hne
      have g4 : (e2 != 0) = true := by rw [bne, g3]; rfl
      clear ha2 hne E2
      go_wp2_with fail
      refine (A2'.out _ HI4.out.y).mono ?_
      rintro e w5 ⟨B2, k2, rfl, _, hb⟩
      have HB5 : As (Below w.heap.size w w5) := ⟨bl_then hb HB4.out⟩
      clear hb HB4 HI4 c0 c1' c2' c3' c4
      go_wp2_with fail
      refine (alive_any _).mono ?_
      rintro e w6 ⟨rfl, hb⟩
      go_wp2
      go_ret
      exact ⟨rfl, bl_then hb HB5.out⟩
    · have A2' := As.mk ha2
      have HVS := As.mk hvs
      have hwl : ws.length = N := by rw [← HXN.out, ← HWS.out, ints_length]
      have hvl : vs.length = N := by rw [← HYN.out, ← HVS.out, ints_length]
      have HWL := As.mk hwl
      have HVL := As.mk hvl
      rw [hwl] at hw1 hw2
      obtain ⟨aL, haL⟩ : ∃ aL, encL (genL K fst par) par ws = aL := ⟨_, rfl⟩
      obtain ⟨bL, hbL⟩ : ∃ bL, encL (genL K fst par) par vs = bL := ⟨_, rfl⟩
      obtain ⟨T, hT⟩ : ∃ T, N + par = T := ⟨_, rfl⟩
      have HAL : As (aL.length = T) := ⟨by rw [← haL, encL_length, hwl]; exact hT⟩
      have HBL : As (bL.length = T) := ⟨by rw [← hbL, encL_length, hvl]; exact hT⟩
      have HAE := As.mk haL
      have HBE := As.mk hbL
      have HTT := As.mk hT
      rw [haL] at ho1
      have hT1 : T ≤ 5000 := by omega
      have hT0 : 1 ≤ T := by omega
      have hTi : (N : Int) + (par : Int) = (T : Int) := by omega
      have g3 : IntKind.i64.wrap ((N : Int) + (par : Int)) = (T : Int) := by rw [hTi]; exact in64 (by omega) (by omega)
      have g4 : ((T : Int) == (T : Int)) = true := by simp
      have g5 : ((T : Int) != (T : Int)) = false := by simp
      clear ha2 hvs E2 hwl hvl haL hbL hT hTi hv1 hv2
      go_wp2_with fail
      refine (A2'.out _ HI4.out.y).mono ?_
      rintro e w5 ⟨v2, rfl, ho2, hb⟩
      rw [HBE.out] at ho2
      obtain ⟨q, hq⟩ : ∃ q, T = q + 1 := ⟨T - 1, by omega⟩
      obtain ⟨ga, ca, rfl, _⟩ := ho1.out.shape (HAL.out.trans hq)
      obtain ⟨gb, cb, rfl, _⟩ := ho2.out.shape (HBL.out.trans hq)
      have HRA := As.mk (ho1.out.rd.below hb)
      have HRB := As.mk ho2.out.rd
      have HB5 : As (Below w.heap.size w w5) := ⟨bl_then hb HB4.out⟩
      have HI5 := As.mk (HI4.out.below hb)
      rw [← hq]
      clear hb HB4 HI4 ho1 ho2 hq c0 c1' c2' c3' c4
      have c3' := HI5.out.k.b.c3
      have c5 := HI5.out.k.c5
      obtain ⟨B0, hB0⟩ : ∃ B0, w5.heap.size = B0 := ⟨_, rfl⟩
      have HB0 := As.mk hB0
      clear hB0
      go_wp2
      clear g3 g4 g5 c3' c5
      go_loopw [12, 84] (fun v x wr => ∃ i : Nat, x = .int .i64 i ∧ i ≤ T ∧ As (OwnK wr B0 v ((lin u aL bL).take i)) ∧ As (Below w5.heap.size w5 wr)) (fun _ x _ => T - (intOf x).toNat)
      case atStart => exact ⟨0, rfl, by omega, ⟨World.ownsRow_nil _ _ _ _⟩, ⟨bl_refl _⟩⟩
      case round =>
        obtain ⟨i, rfl, hi, hV, hB⟩ := hrel
        by_cases hlt : i < T
        · have hd : decide (i < T) = true := decide_eq_true hlt
          have k1 := rd0 HRA.out (i := i) (by rw [HAL.out]; exact hlt)
          have k2 := rd0 HRB.out (i := i) (by rw [HBL.out]; exact hlt)
          have f0 := HI5.out.f.c0
          have f1 := HI5.out.f.c1
          have f2 := HI5.out.f.c2
          have HLN : As (((lin u aL bL).take i).length < 1000000) := ⟨by rw [List.length_take, lin_length, HAL.out]; omega⟩
          have hnx : (lin u aL bL).take (i + 1) = (lin u aL bL).take i ++ [atl aL i + u * atl bL i] := by
            rw [List.take_succ_eq_append_getElem (by rw [lin_length, HAL.out]; exact hlt)]
            congr 2
            rw [← atl_lin (by rw [HAL.out, HBL.out]; exact Nat.le_refl _)]
            unfold atl
            rw [List.getD_eq_getElem?_getD, List.getElem?_eq_getElem (by rw [lin_length, HAL.out]; exact hlt)]; rfl
          have HNX := As.mk hnx
          clear hnx
          go_wp2
          refine wp_region_chain (fun w' => Below w5.heap.size w5 w') [12, 13, 14, 15, 16] (by kernel_rfl) (by kernel_rfl) (by kernel_rfl) (by kernel_rfl) rfl (by kernel_rfl) (bl_drew hB.out) ?_
          iterate 12 (apply OblH.val rfl; · (intro w' hS; have q0 := cell_below hS f0; have q1 := cell_below hS f1; have q2 := cell_below hS f2; have q3 := cell_below hS k1; have q4 := cell_below hS k2; go_simp; rfl))
          iterate 5 (refine OblH.skip rfl ?_)
          refine OblH.done (Chain.step rfl ?_)
          go_wp2_with fail
          refine (times4K (K := K) u (atl bL i) _).mono ?_
          rintro e w6 ⟨rfl, hb⟩
          have HB6 : As (Below w5.heap.size w5 w6) := ⟨bl_then hb (bl_drew hB.out)⟩
          have hV6 := As.mk ((hV.out.below (bl_drew (bl_refl _))).below hb)
          clear hb hB hV k1 k2 f0 f1 f2
          go_wp2
          refine onlyN.next rfl HB6.out (Chain.step rfl ?_)
          go_wp2_with fail
          refine (plus4K (K := K) (atl aL i) (u * atl bL i) _).mono ?_
          rintro e w7 ⟨rfl, hb⟩
          have HB7 : As (Below w5.heap.size w5 w7) := ⟨bl_then hb HB6.out⟩
          have hV7 := As.mk (hV6.out.below hb)
          clear hb HB6 hV6
          go_wp2
          refine onlyN.next rfl HB7.out (Chain.step rfl ?_)
          go_wp2
          refine onlyN.next rfl (bl_alloc HB7.out) (Chain.step rfl ?_)
          go_wp2_with (at_builtin; refine appK (K := K) _ rfl _ _ rfl B0 _ _ rfl (hV7.out.below (bl_alloc (bl_refl _))) w7.heap.size 1 (atl aL i + u * atl bL i) rfl (by simp [go_sem]) HLN.out (by have := HB0.out; have := HB7.out.size; simp; omega) ?_; intro v' w8 hown hb2)
          have HOW := As.mk hown
          have HB8 : As (Below w5.heap.size w5 w8) := ⟨(bl_alloc HB7.out).trans (by rw [HB0.out]; exact hb2)⟩
          clear hown hb2 hV7 HB7
          refine onlyN.next rfl HB8.out (Chain.last rfl ?_)
          go_wp2
          refine onlyN.last rfl ?_
          go_wp2
          go_roundw
          case rel => exact ⟨i + 1, by go_num, by omega, ⟨by rw [HNX.out]; exact HOW.out⟩, HB8⟩
          case measure => simp [intOf]; omega
        · have hd : decide (i < T) = false := decide_eq_false hlt
          obtain rfl : i = T := by omega
          have hall : (lin u aL bL).take i = lin u aL bL := List.take_of_length_le (by rw [lin_length, HAL.out]; exact Nat.le_refl _)
          rw [hall] at hV
          obtain ⟨q, hq⟩ : ∃ q, i = q + 1 := ⟨i - 1, by omega⟩
          obtain ⟨gs, cs, hsh, _⟩ := hV.out.shape ((lin_length u aL bL).trans (HAL.out.trans hq))
          rw [← hq] at hsh
          subst hsh
          have hcap := hV.out.cap
          rw [lin_length, HAL.out] at hcap
          obtain ⟨wz, hwz⟩ : ∃ wz, wr = wz := ⟨_, rfl⟩
          rw [hwz] at hV hB ⊢
          have HVS2 := As.mk hV.out
          have HRS := As.mk hV.out.rd
          have HIz := As.mk (HI5.out.below hB.out)
          have HBz : As (Below w.heap.size w wz) := ⟨bl_then hB.out HB5.out⟩
          have htk : (lin u aL bL).take N = lin u ws vs := by
            rw [lin_take u aL bL (by rw [HAL.out, HBL.out]) N (by rw [HAL.out]; have := HTT.out; omega), ← HAE.out, ← HBE.out, encL_take _ _ _ HWL.out, encL_take _ _ _ HVL.out]
          have hle : N ≤ cs := by have := HTT.out; omega
          have HE := As.mk (fun w' hr' => encodeK (K := K) par fst h1 h2 h3 (some ⟨gs, 0, none⟩) cs (lin u ws vs) (by rw [lin_length, HWL.out]; exact hw1) (by rw [lin_length, HWL.out]; exact hw2) w' hr')
          have hlen : (lin u ws vs).length = N := by rw [lin_length, HWL.out]
          rw [hlen, encL_lin _ _ u ws vs (by rw [HWL.out, HVL.out]), HAE.out, HBE.out] at HE
          have HRT : As (RdK wz (some ⟨gs, 0, none⟩) (lin u ws vs)) := ⟨by rw [← htk]; exact HRS.out.take N⟩
          have HLL : As ((ints (lin u aL bL)).length = i) := ⟨by rw [ints_length, lin_length, HAL.out]⟩
          clear hwz hV hB HI5 HB5 hq hall htk hlen hd HRA HRB
          have c0 := HIz.out.k.b.c0
          have c1' := HIz.out.k.b.c1
          have c2' := HIz.out.k.b.c2
          have c3' := HIz.out.k.b.c3
          have c4 := HIz.out.k.b.c4
          have c5 := HIz.out.k.c5
          obtain ⟨Cz, hCz⟩ : ∃ Cz, wz.heap.size = Cz := ⟨_, rfl⟩
          have HCz := As.mk hCz
          clear hCz
          go_upto_region 16 with fail
          go_cut [14, 15] from 104 to 114 (fun v h wr => As (Below wz.heap.size wz wr) ∧ h = .int .i64 0 ∧ As (OwnK wr Cz v (lin u aL bL)))
          case first =>
            go_region_with (refine (HE.out _ (HRT.out.below (bl_drew (bl_refl _)))).mono ?_; rintro e w6 ⟨v6, rfl, ho6, hb6⟩)
            all_goals
              go_wp2_with fail
              go_meet
              exact ⟨⟨bl_then hb6 (bl_drew (bl_refl _))⟩, rfl, ⟨ho6.out.mono (by have := HCz.out; simp; omega)⟩⟩
          case rest =>
            obtain ⟨hBc, rfl, hO⟩ := hcut
            obtain ⟨A6, k6, e6, _, hr6, _⟩ := (ownI_K.mpr hO.out).read
            subst e6
            rw [HLL.out]
            have HR6 := As.mk hr6
            have HRS6 : As (RdI wc (some ⟨gs, 0, none⟩) (ints (lin u aL bL))) := ⟨(HRS.out.below hBc.out).toI⟩
            have HBc : As (Below w.heap.size w wc) := ⟨bl_then hBc.out HBz.out⟩
            clear hBc hO hr6 HE HRT HIz HRS HVS2 c0 c1' c2' c3' c4 c5
            go_wp2_with fail
            refine (ints_two _ i HLL.out (by omega) _ _ _ _ _ HR6.out HRS6.out).mono ?_
            rintro e w7 ⟨rfl, hb⟩
            have HB7 : As (Below w.heap.size w w7) := ⟨bl_then hb HBc.out⟩
            clear hb HBc HR6 HRS6
            go_wp2_with fail
            refine (alive_any _).mono ?_
            rintro e w8 ⟨rfl, hb⟩
            go_wp2
            go_ret
            exact ⟨rfl, bl_then hb HB7.out⟩
end
end Go.Proofs.Ythcjmmicjbfpgaa.Rs
