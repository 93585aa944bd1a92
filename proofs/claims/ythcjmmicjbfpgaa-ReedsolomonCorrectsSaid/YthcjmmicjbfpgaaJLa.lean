/-
The program's and the reference's entries answer the same.
The walks of the laws Makes and Locates.
-/
import Derived.Test.YthcjmmicjbfpgaaJRj
import Derived.Test.YthcjmmicjbfpgaaJAl
import Derived.Test.YthcjmmicjbfpgaaJRg
import Derived.Test.YthcjmmicjbfpgaaJSy
import Derived.Test.YthcjmmicjbfpgaaJRf
namespace Go.Proofs.Ythcjmmicjbfpgaa.Rs
set_option linter.unusedVariables false
set_option linter.unusedSimpArgs false
open Go.RowKit Go.Proofs.Ythcjmmicjbfpgaa.Alg
open GF
set_option linter.unusedSimpArgs false

theorem gen_agree (c s p par fst : Int) (hs : s < 9223372036854775808) : ∃ ys E, ys.length ≤ 1000000 ∧
    (∀ w, Ans 12 #[.agg #[.int .i64 c, .int .i64 s, .int .i64 p, .int .i64 par, .int .i64 fst]] w ys E) ∧
    (∀ w, Ans 13 #[.agg #[.int .i64 c, .int .i64 s, .int .i64 p, .int .i64 par, .int .i64 fst]] w ys E) := by
  cases hv : vldB c s p par fst [] with
  | false => exact ⟨[], 1, by simp, fun w => ans_nil (generator_bad c s p par fst w hv), fun w => ans_nil (generator7_bad c s p par fst hs w hv)⟩
  | true =>
    rw [vldB_eq, Bool.and_eq_true] at hv
    have hc : CI c s p par fst := by
      have := hv.1
      unfold ciB at this
      simpa using this
    obtain ⟨hv, h1, h2, h3, h4⟩ := hc
    obtain ⟨K, i, rfl, rfl, rfl⟩ := field_at hv
    obtain ⟨par, rfl⟩ : ∃ n : Nat, par = n := ⟨par.toNat, by omega⟩
    obtain ⟨fst, rfl⟩ : ∃ n : Nat, fst = n := ⟨fst.toNat, by omega⟩
    have hs2 := sz_two (K := K)
    have hs3 := sz_max (K := K)
    refine ⟨ints (genL K fst par), 0, by rw [ints_length, genL_length]; omega, fun w => ?_, fun w => ans_own (generator7C (K := K) par fst (by omega) (by omega) (by omega) w)⟩
    refine (generatorC (K := K) par fst (by omega) (by omega) (by omega) w).mono ?_
    rintro e w' ⟨L, rfl, ho, hb⟩
    exact ⟨some ⟨L, 0, none⟩, par + 1, by rw [ints_length, genL_length], ⟨ho.out.toI⟩, hb⟩

theorem enc_agree (c s p par fst : Int) (hs : s < 9223372036854775808) (A : Option Addr) (cp : Nat) (word : List Int) (hl : word.length ≤ 100000) : ∃ ys E, ys.length ≤ 1000000 ∧
    (∀ w, RdI w A word → Ans 16 #[.agg #[.int .i64 c, .int .i64 s, .int .i64 p, .int .i64 par, .int .i64 fst], .slice A word.length cp] w ys E) ∧
    (∀ w, RdI w A word → Ans 17 #[.agg #[.int .i64 c, .int .i64 s, .int .i64 p, .int .i64 par, .int .i64 fst], .slice A word.length cp] w ys E) := by
  cases hv0 : vldB c s p par fst word with
  | false => exact ⟨[], 1, by simp, fun w hr => ans_nil (encode_bad c s p par fst A cp word w hr hl hv0), fun w hr => ans_nil (encode7_bad c s p par fst hs A cp word w hr hl hv0)⟩
  | true =>
    have hv := hv0
    rw [vldB_eq, Bool.and_eq_true] at hv
    have hc : CI c s p par fst := by
      have := hv.1
      unfold ciB at this
      simpa using this
    have ha : anyOut s word = false := by simpa using hv.2
    obtain ⟨hv, h1, h2, h3, h4⟩ := hc
    obtain ⟨K, i, rfl, rfl, rfl⟩ := field_at hv
    have hs2 := sz_two (K := K)
    have hs3 := sz_max (K := K)
    by_cases hf : (word.length : Int) < 1 ∨ (sz K : Int) - 1 - par < (word.length : Int)
    · exact ⟨[], 7, by simp, fun w hr => ans_nil (encode_length _ _ _ par fst (by omega) (by omega) h1 (by omega) A cp word w hr hl hv0 hf), fun w hr => ans_nil (encode7_length _ _ _ par fst (by omega) (by omega) h1 (by omega) A cp word w hr hl hv0 hf)⟩
    · obtain ⟨par, rfl⟩ : ∃ n : Nat, par = n := ⟨par.toNat, by omega⟩
      obtain ⟨fst, rfl⟩ : ∃ n : Nat, fst = n := ⟨fst.toNat, by omega⟩
      obtain ⟨ws, rfl⟩ := lift_ints (K := K) ha
      rw [ints_length] at hf hl ⊢
      refine ⟨ints (encL (genL K fst par) par ws), 0, by rw [ints_length, encL_length]; omega, fun w hr => ans_own (encodeK (K := K) par fst (by omega) (by omega) (by omega) A cp ws (by omega) (by omega) w ?_), fun w hr => ans_own (encode7K (K := K) par fst (by omega) (by omega) (by omega) A cp ws (by omega) (by omega) w ?_)⟩
      all_goals exact rdI_K hr

theorem syn_agree (c s p par fst : Int) (hs : s < 9223372036854775808) (A : Option Addr) (cp : Nat) (word : List Int) (hl : word.length ≤ 100000) : ∃ ys E, ys.length ≤ 1000000 ∧
    (∀ w, RdI w A word → Ans 18 #[.agg #[.int .i64 c, .int .i64 s, .int .i64 p, .int .i64 par, .int .i64 fst], .slice A word.length cp] w ys E) ∧
    (∀ w, RdI w A word → Ans 19 #[.agg #[.int .i64 c, .int .i64 s, .int .i64 p, .int .i64 par, .int .i64 fst], .slice A word.length cp] w ys E) := by
  cases hv0 : vldB c s p par fst word with
  | false => exact ⟨[], 1, by simp, fun w hr => ans_nil (syndromes_bad c s p par fst A cp word w hr hl hv0), fun w hr => ans_nil (syndromes7_bad c s p par fst hs A cp word w hr hl hv0)⟩
  | true =>
    have hv := hv0
    rw [vldB_eq, Bool.and_eq_true] at hv
    have hc : CI c s p par fst := by
      have := hv.1
      unfold ciB at this
      simpa using this
    have ha : anyOut s word = false := by simpa using hv.2
    obtain ⟨hv, h1, h2, h3, h4⟩ := hc
    obtain ⟨K, i, rfl, rfl, rfl⟩ := field_at hv
    have hs2 := sz_two (K := K)
    have hs3 := sz_max (K := K)
    cases hf : (decide (par < (word.length : Int)) && decide ((word.length : Int) < (sz K : Int))) with
    | false => exact ⟨[], 7, by simp, fun w hr => ans_nil (syndromes_length _ _ _ par fst A cp word w hr hl hv0 hf), fun w hr => ans_nil (syndromes7_length _ _ _ par fst (by omega) (by omega) A cp word w hr hl hv0 hf)⟩
    | true =>
      rw [Bool.and_eq_true, decide_eq_true_eq, decide_eq_true_eq] at hf
      obtain ⟨par, rfl⟩ : ∃ n : Nat, par = n := ⟨par.toNat, by omega⟩
      obtain ⟨fst, rfl⟩ : ∃ n : Nat, fst = n := ⟨fst.toNat, by omega⟩
      obtain ⟨ws, rfl⟩ := lift_ints (K := K) ha
      rw [ints_length] at hf hl ⊢
      refine ⟨ints (synL fst par ws), 0, by rw [ints_length, synL_length]; omega, fun w hr => ans_own (syndromesC (K := K) par fst (by omega) (by omega) (by omega) A cp ws (by omega) (by omega) w ?_), fun w hr => ans_own (syndromes7C (K := K) par fst (by omega) (by omega) (by omega) A cp ws (by omega) (by omega) w ?_)⟩
      all_goals exact rdI_K hr

theorem loc_agree (c s p : Int) (hs : s < 9223372036854775808) (A : Option Addr) (cp : Nat) (word : List Int) (hl : word.length ≤ 4095) : ∃ ys E, ys.length ≤ 1000000 ∧
    (∀ w, RdI w A word → Ans 20 #[.agg #[.int .i64 c, .int .i64 s, .int .i64 p], .slice A word.length cp] w ys E) ∧
    (∀ w, RdI w A word → Ans 21 #[.agg #[.int .i64 c, .int .i64 s, .int .i64 p], .slice A word.length cp] w ys E) := by
  cases hv0 : locB c s p word with
  | false => exact ⟨[], 1, by simp, fun w hr => ans_nil (locator_bad c s p A cp word w hr (by omega) hv0), fun w hr => ans_nil (locator7_bad c s p hs A cp word w hr (by omega) hv0)⟩
  | true =>
    unfold locB at hv0
    rw [Bool.and_eq_true] at hv0
    have hv : VI c s p := viB_true.mp hv0.1
    have ha : anyOut s word = false := by simpa using hv0.2
    obtain ⟨K, i, rfl, rfl, rfl⟩ := field_at hv
    obtain ⟨ws, rfl⟩ := lift_ints (K := K) ha
    rw [ints_length] at hl ⊢
    have hrk : ∀ w, RdI w A (ints ws) → RdK w A ws := fun w hr => rdI_K hr
    refine ⟨ints (sigL ws), 0, ?_, fun w hr => (locatorC (K := K) A cp ws hl w (hrk w hr)).mono ?_, fun w hr => (locator7C (K := K) A cp ws hl w (hrk w hr)).mono ?_⟩
    · rw [ints_length, sigL_length]
      have := (runB_inv ws ws.length).lc
      have := trm_le (runB ws ws.length).c (runB ws ws.length).c.length
      omega
    all_goals
      rintro e w' ⟨A', cc, rfl, h, hb⟩
      exact ⟨A', cc, by rw [ints_length], ⟨h.out.toI⟩, hb⟩
end Go.Proofs.Ythcjmmicjbfpgaa.Rs

namespace Go.Proofs.Ythcjmmicjbfpgaa.Rs
set_option linter.unusedVariables false
set_option linter.unusedSimpArgs false
open Go.RowKit Go.Proofs.Ythcjmmicjbfpgaa.Alg
open GF
set_option linter.unusedSimpArgs false

open Classical in
theorem newV_shape (c s p par fst : Int) : ∃ a1 a2 a3 a4 a5 : Int, newV c s p par fst = .agg #[.int .i64 a1, .int .i64 a2, .int .i64 a3, .int .i64 a4, .int .i64 a5] := by
  unfold newV
  by_cases h : CI c s p par fst
  · rw [if_pos h]; exact ⟨_, _, _, _, _, rfl⟩
  · rw [if_neg h]; exact ⟨_, _, _, _, _, rfl⟩

set_option maxRecDepth 100000 in
set_option maxHeartbeats 3200000 in
theorem makes_any (c s p par fst : Int) (hs : s < 9223372036854775808) (w : World) :
    Calls Try.prog 3 #[.agg #[.int .i64 c, .int .i64 s, .int .i64 p], .int .i64 par, .int .i64 fst] w fun e w' => e = .returned (.bool true) ∧ Below w.heap.size w w' := by
  obtain ⟨a1, a2, a3, a4, a5, hV⟩ := newV_shape c s p par fst
  obtain ⟨E, hE⟩ : ∃ E, newE c s p par fst = E := ⟨_, rfl⟩
  have H1 := As.mk (new_any c s p par fst)
  have H2 := As.mk (new7_any c s p par fst hs)
  rw [hV, hE] at H1 H2
  obtain ⟨ys, E2, hl, HG1, HG2⟩ := gen_agree c s p par fst hs
  have HL := As.mk hl
  have HG1 := As.mk HG1
  have HG2 := As.mk HG2
  obtain ⟨n, hn⟩ : ∃ n, ys.length = n := ⟨_, rfl⟩
  have HN := As.mk hn
  clear hV hE hl hn hs
  have HF := As.mk (Box3.new (w := w) (x := .int .i64 c) (y := .int .i64 s) (z := .int .i64 p) (t := 23))
  go_enter Try.func3, Try.ntmps3
  go_wp2_with fail
  refine (H1.out _).mono ?_
  rintro e w1 ⟨rfl, hb⟩
  have HB1 : As (Below w.heap.size w w1) := ⟨bl_then hb (bl_alloc (bl_refl _))⟩
  have HF1 := As.mk (HF.out.below hb)
  clear hb HF H1
  have HX := As.mk (Box5.new (w := w1) (x := a1) (y := a2) (z := a3) (u := a4) (v := a5) (t := 25))
  have HF2 := As.mk (HF1.out.below (bl_alloc (o := .cells #[.int .i64 a1, .int .i64 a2, .int .i64 a3, .int .i64 a4, .int .i64 a5] 25) (bl_refl _)))
  have c0 := HF2.out.c0
  have c1 := HF2.out.c1
  have c2 := HF2.out.c2
  go_wp2_with fail
  refine (H2.out _).mono ?_
  rintro e w2 ⟨rfl, hb⟩
  have HB2 : As (Below w.heap.size w w2) := ⟨bl_then hb (bl_alloc HB1.out)⟩
  have HX2 := As.mk ((HX.out.below hb).below (bl_alloc (o := .cells #[.int .i64 a1, .int .i64 a2, .int .i64 a3, .int .i64 a4, .int .i64 a5] 25) (bl_refl _)))
  have HF3 := As.mk ((HF2.out.below hb).below (bl_alloc (o := .cells #[.int .i64 a1, .int .i64 a2, .int .i64 a3, .int .i64 a4, .int .i64 a5] 25) (bl_refl _)))
  clear hb HF1 HF2 HX H2 HB1 c0 c1 c2
  have c0 := HX2.out.c0
  have c1 := HX2.out.c1
  have c2 := HX2.out.c2
  have c3 := HX2.out.c3
  have c4 := HX2.out.c4
  have d0 := HF3.out.c0
  have d1 := HF3.out.c1
  have d2 := HF3.out.c2
  by_cases h60 : 60 < par
  · have g1 : decide (60 < par) = true := decide_eq_true h60
    go_wp2_with fail
    refine (alive_any _).mono ?_
    rintro e w3 ⟨rfl, hb⟩
    go_wp2
    go_ret
    exact ⟨rfl, bl_then hb (bl_alloc HB2.out)⟩
  · have g1 : decide (60 < par) = false := decide_eq_false h60
    go_wp2_with fail
    refine (HG1.out _).mono ?_
    rintro e w3 ⟨A1, k1, rfl, hr1, hb⟩
    have HB3 : As (Below w.heap.size w w3) := ⟨bl_then hb (bl_alloc (bl_alloc HB2.out))⟩
    have HR1 := As.mk hr1.out
    have HX3 := As.mk ((Box5.new (w := w2.alloc (.cells #[.int .i64 a1, .int .i64 a2, .int .i64 a3, .int .i64 a4, .int .i64 a5] 25)) (x := c) (y := s) (z := p) (u := par) (v := fst) (t := 25)).below hb)
    rw [show (w2.alloc (.cells #[.int .i64 a1, .int .i64 a2, .int .i64 a3, .int .i64 a4, .int .i64 a5] 25)).heap.size = w2.heap.size + 1 by simp] at HX3
    rw [HN.out]
    clear hb hr1 HG1 HB2 HX2 HF3 c0 c1 c2 c3 c4 d0 d1 d2
    have c0 := HX3.out.c0
    have c1 := HX3.out.c1
    have c2 := HX3.out.c2
    have c3 := HX3.out.c3
    have c4 := HX3.out.c4
    go_wp2_with fail
    refine (HG2.out _).mono ?_
    rintro e w4 ⟨A2, k2, rfl, hr2, hb⟩
    have HB4 : As (Below w.heap.size w w4) := ⟨bl_then hb HB3.out⟩
    have HR14 := As.mk (HR1.out.below hb)
    have HR2 := As.mk hr2.out
    rw [HN.out]
    clear hb hr2 HG2 HB3 HX3 HR1 c0 c1 c2 c3 c4
    have hn2 : n ≤ 1000000 := by rw [← HN.out]; exact HL.out
    go_wp2_with fail
    refine (ints_two ys n HN.out hn2 _ _ _ _ _ HR14.out HR2.out).mono ?_
    rintro e w5 ⟨rfl, hb⟩
    have HB5 : As (Below w.heap.size w w5) := ⟨bl_then hb HB4.out⟩
    clear hb HB4 HR14 HR2
    go_wp2_with fail
    refine (alive_any _).mono ?_
    rintro e w6 ⟨rfl, hb⟩
    go_wp2
    go_ret
    exact ⟨rfl, bl_then hb HB5.out⟩

set_option maxRecDepth 100000 in
set_option maxHeartbeats 3200000 in
theorem locates_any (c s p : Int) (hs : s < 9223372036854775808) (A : Option Addr) (cp : Nat) (xs : List Int) (w : World) (hr : RdI w A xs) :
    Calls Try.prog 5 #[.agg #[.int .i64 c, .int .i64 s, .int .i64 p], .slice A xs.length cp] w fun e w' => e = .returned (.bool true) ∧ Below w.heap.size w w' := by
  have HR := As.mk hr
  have HF := As.mk (Box3.new (w := w) (x := .int .i64 c) (y := .int .i64 s) (z := .int .i64 p) (t := 23))
  clear hr
  by_cases h80 : 80 < xs.length
  · have g1 : decide ((80 : Int) < (xs.length : Int)) = true := decide_eq_true (by omega)
    go_enter Try.func5, Try.ntmps5
    go_wp2_with fail
    refine (alive_any _).mono ?_
    rintro e w3 ⟨rfl, hb⟩
    go_wp2
    go_ret
    exact ⟨rfl, bl_then hb (bl_alloc (bl_refl _))⟩
  · have g1 : decide ((80 : Int) < (xs.length : Int)) = false := decide_eq_false (by omega)
    obtain ⟨ys, E2, hl, HG1, HG2⟩ := loc_agree c s p hs A cp xs (by omega)
    have HL := As.mk hl
    have HG1 := As.mk HG1
    have HG2 := As.mk HG2
    obtain ⟨n, hn⟩ : ∃ n, ys.length = n := ⟨_, rfl⟩
    have HN := As.mk hn
    obtain ⟨m, hm⟩ : ∃ m, xs.length = m := ⟨_, rfl⟩
    rw [hm] at g1 HG1 HG2 ⊢
    clear hl hn hs hm h80
    go_enter Try.func5, Try.ntmps5
    go_wp2_with fail
    refine (HG1.out _ (HR.out.below (bl_alloc (bl_refl _)))).mono ?_
    rintro e w1 ⟨A1, k1, rfl, hr1, hb⟩
    have HB1 : As (Below w.heap.size w w1) := ⟨bl_then hb (bl_alloc (bl_refl _))⟩
    have HF1 := As.mk (HF.out.below hb)
    have HR1 := As.mk hr1.out
    rw [HN.out]
    clear hb hr1 HG1 HF
    have c0 := HF1.out.c0
    have c1 := HF1.out.c1
    have c2 := HF1.out.c2
    go_wp2_with fail
    refine (HG2.out _ (HR.out.below HB1.out)).mono ?_
    rintro e w2 ⟨A2, k2, rfl, hr2, hb⟩
    have HB2 : As (Below w.heap.size w w2) := ⟨bl_then hb HB1.out⟩
    have HR14 := As.mk (HR1.out.below hb)
    have HR2 := As.mk hr2.out
    rw [HN.out]
    clear hb hr2 HG2 HB1 HF1 HR1 c0 c1 c2
    have hn2 : n ≤ 1000000 := by rw [← HN.out]; exact HL.out
    go_wp2_with fail
    refine (ints_two ys n HN.out hn2 _ _ _ _ _ HR14.out HR2.out).mono ?_
    rintro e w5 ⟨rfl, hb⟩
    have HB5 : As (Below w.heap.size w w5) := ⟨bl_then hb HB2.out⟩
    clear hb HB2 HR14 HR2
    go_wp2_with fail
    refine (alive_any _).mono ?_
    rintro e w6 ⟨rfl, hb⟩
    go_wp2
    go_ret
    exact ⟨rfl, bl_then hb HB5.out⟩
end Go.Proofs.Ythcjmmicjbfpgaa.Rs
