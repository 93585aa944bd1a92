/-
The walks of the reference's Valid and elements.
The reference's Valid and elements at a valid code.
The walks of the reference's roots, value and syndromes.
The walk of the reference's product.
The walk of the reference's syndromes.
The walk of the comparison of two slices.
-/
import Derived.Test.YthcjmmicjbfpgaaJSy
import Derived.Test.YthcjmmicjbfpgaaJWc
namespace Go.Proofs.Ythcjmmicjbfpgaa.Rs
open Go.RowKit Go.Proofs.Ythcjmmicjbfpgaa.Alg
open GF
set_option linter.unusedSimpArgs false

open Classical in
/-- a code of whole numbers is valid -/
noncomputable def ciB (c s p par fst : Int) : Bool := decide (CI c s p par fst)
theorem vldB_eq (c s p par fst : Int) (xs : List Int) : vldB c s p par fst xs = (ciB c s p par fst && !anyOut s xs) := by
  unfold vldB ciB newE
  congr 1
  by_cases hv : VI c s p
  · rw [if_neg (fun h => h hv)]
    by_cases hc : CI c s p par fst
    · rw [if_pos hc]; simp [hc]
    · rw [if_neg hc]; simp [hc]
  · rw [if_pos hv]
    have hc : ¬ CI c s p par fst := fun h => hv h.1
    simp [hc]

set_option maxRecDepth 100000 in
set_option maxHeartbeats 4000000 in
open Classical in
theorem valid7_any (c s p par fst : Int) (hs : s < 9223372036854775808) (w : World) :
    Calls Try.prog 22 #[.agg #[.int .i64 c, .int .i64 s, .int .i64 p, .int .i64 par, .int .i64 fst]] w fun e w' => e = .returned (.bool (ciB c s p par fst)) ∧ Below w.heap.size w w' := by
  have HV := As.mk (valid4_any c s p hs)
  clear hs
  by_cases hv : VI c s p
  · obtain ⟨hs1, hs2⟩ := vi_size hv
    rw [viB_true.mpr hv] at HV
    have e1 : IntKind.i64.wrap (s - 2) = s - 2 := in64 (by omega) (by omega)
    have fin : ∀ (b1 b2 b3 b4 b : Bool), (b1 = false ∧ b = false ∨ b1 = true ∧ b2 = false ∧ b = false ∨ b1 = true ∧ b2 = true ∧ b3 = false ∧ b = false ∨ b1 = true ∧ b2 = true ∧ b3 = true ∧ b4 = b) → decide (1 ≤ par) = b1 → decide (par ≤ s - 2) = b2 → decide (0 ≤ fst) = b3 → decide (fst ≤ s - 2) = b4 →
        Calls Try.prog 22 #[.agg #[.int .i64 c, .int .i64 s, .int .i64 p, .int .i64 par, .int .i64 fst]] w fun e w' => e = .returned (.bool b) ∧ Below w.heap.size w w' := by
      intro b1 b2 b3 b4 b hor g1 g2 g3 g4
      clear hv
      have HX := As.mk (Box5.new (w := w) (x := c) (y := s) (z := p) (u := par) (v := fst) (t := 25))
      rcases hor with ⟨rfl, rfl⟩ | ⟨rfl, rfl, rfl⟩ | ⟨rfl, rfl, rfl, rfl⟩ | ⟨rfl, rfl, rfl, rfl⟩
      all_goals
        go_enter Try.func22, Try.ntmps22
        go_wp2_with fail
        refine (HV.out _).mono ?_
        rintro e w1 ⟨rfl, hb⟩
        have hx := HX.out.below hb
        have c1 := hx.c1
        have c3 := hx.c3
        have c4 := hx.c4
        clear hx
        go_wp2
        go_ret
        exact ⟨rfl, bl_then hb (bl_alloc (bl_refl _))⟩
    refine fin _ _ _ _ _ ?_ rfl rfl rfl rfl
    unfold ciB
    by_cases c1 : 1 ≤ par
    · right
      by_cases c2 : par ≤ s - 2
      · right
        by_cases c3 : 0 ≤ fst
        · right
          refine ⟨decide_eq_true c1, decide_eq_true c2, decide_eq_true c3, ?_⟩
          by_cases c4 : fst ≤ s - 2
          · rw [decide_eq_true c4]; exact (decide_eq_true (show CI c s p par fst from ⟨hv, c1, c2, c3, c4⟩)).symm
          · rw [decide_eq_false c4]; exact (decide_eq_false (fun h : CI c s p par fst => c4 h.2.2.2.2)).symm
        · left; exact ⟨decide_eq_true c1, decide_eq_true c2, decide_eq_false c3, decide_eq_false (fun h : CI c s p par fst => c3 h.2.2.2.1)⟩
      · left; exact ⟨decide_eq_true c1, decide_eq_false c2, decide_eq_false (fun h : CI c s p par fst => c2 h.2.2.1)⟩
    · left; exact ⟨decide_eq_false c1, decide_eq_false (fun h : CI c s p par fst => c1 h.2.1)⟩
  · rw [viB_false.mpr hv] at HV
    have hb : ciB c s p par fst = false := by unfold ciB; exact decide_eq_false (fun h => hv h.1)
    rw [hb]
    clear hv hb
    go_enter Try.func22, Try.ntmps22
    go_wp2_with fail
    refine (HV.out _).mono ?_
    rintro e w1 ⟨rfl, hb⟩
    go_wp2
    go_ret
    exact ⟨rfl, bl_then hb (bl_alloc (bl_refl _))⟩

/-- an element is told by its number -/
def isB (s a : Int) : Bool := decide (0 ≤ a) && decide (a < s)
set_option maxRecDepth 100000 in
set_option maxHeartbeats 800000 in
theorem is4_any (c s p a : Int) (w : World) :
    Calls Try.prog 25 #[.agg #[.int .i64 c, .int .i64 s, .int .i64 p], .int .i64 a] w fun e w' => e = .returned (.bool (isB s a)) ∧ Below w.heap.size w w' := by
  unfold isB
  by_cases h0 : 0 ≤ a
  · have g1 : decide (0 ≤ a) = true := decide_eq_true h0
    rw [g1, Bool.true_and]
    go_enter Try.func25, Try.ntmps25
    go_wp2
    go_ret
    exact ⟨rfl, bl_alloc (bl_refl _)⟩
  · have g1 : decide (0 ≤ a) = false := decide_eq_false h0
    rw [g1, Bool.false_and]
    go_enter Try.func25, Try.ntmps25
    go_wp2
    go_ret
    exact ⟨rfl, bl_alloc (bl_refl _)⟩

set_option maxRecDepth 100000 in
set_option maxHeartbeats 1600000 in
theorem elements7_any (c s p : Int) (A : Option Addr) (cp : Nat) (xs : List Int) (w : World) (hr : RdI w A xs) (hl : xs.length ≤ 100000000000000) :
    Calls Try.prog 38 #[.agg #[.int .i64 c, .int .i64 s, .int .i64 p], .slice A xs.length cp] w fun e w' => e = .returned (.bool (!anyOut s xs)) ∧ Below w.heap.size w w' := by
  have HR := As.mk hr
  clear hr
  obtain ⟨N, hN⟩ : ∃ N, xs.length = N := ⟨_, rfl⟩
  have HN := As.mk hN
  rw [hN] at hl ⊢
  clear hN
  have HX := As.mk (Box3.new (w := w) (x := .int .i64 c) (y := .int .i64 s) (z := .int .i64 p) (t := 23))
  go_enter Try.func38, Try.ntmps38
  go_wp2
  have HB : As (Below w.heap.size w (w.alloc (.cells #[.int .i64 c, .int .i64 s, .int .i64 p] 23))) := ⟨bl_alloc (bl_refl _)⟩
  obtain ⟨wq, hwq⟩ : ∃ wq, w.alloc (.cells #[.int .i64 c, .int .i64 s, .int .i64 p] 23) = wq := ⟨_, rfl⟩
  rw [hwq] at HX HB ⊢
  clear hwq
  obtain ⟨L, hL⟩ : ∃ L, w.heap.size = L := ⟨_, rfl⟩
  rw [hL] at HX ⊢
  have HL := As.mk hL
  clear hL
  go_loopw [5] (fun k wr => ∃ i : Nat, k = .int .i64 i ∧ i ≤ N ∧ As (∀ j, j < i → outB s (xs.getD j 0) = false) ∧ As (Below wq.heap.size wq wr)) (fun k _ => N - (intOf k).toNat)
  case atStart => exact ⟨0, rfl, by omega, ⟨fun j h => absurd h (by omega)⟩, ⟨bl_refl _⟩⟩
  case round =>
    obtain ⟨i, rfl, hi, hI, hB⟩ := hrel
    by_cases hlt : i < N
    · have hd : decide (i < N) = true := decide_eq_true hlt
      obtain ⟨b, o, rfl, hcell⟩ := ((HR.out.below HB.out).below hB.out) i (by rw [HN.out]; exact hlt)
      obtain ⟨x, hx⟩ : ∃ x, xs.getD i 0 = x := ⟨_, rfl⟩
      rw [hx] at hcell
      have HXX := As.mk hx
      have k0 := (HX.out.below hB.out).c0
      have k1 := (HX.out.below hB.out).c1
      have k2 := (HX.out.below hB.out).c2
      have hcall := is4_any c s p x
      obtain ⟨r, hr⟩ : ∃ r, outB s x = r := ⟨_, rfl⟩
      have he : isB s x = !r := by
        rw [← hr]; unfold isB outB
        by_cases h1 : x < 0
        · rw [decide_eq_true h1, decide_eq_false (show ¬ 0 ≤ x by omega)]; rfl
        · rw [decide_eq_false h1, decide_eq_true (show 0 ≤ x by omega)]
          by_cases h2 : x < s
          · rw [decide_eq_true h2, decide_eq_false (show ¬ s ≤ x by omega)]; rfl
          · rw [decide_eq_false h2, decide_eq_true (show s ≤ x by omega)]; rfl
      rw [he] at hcall
      have HC := As.mk hcall
      have HRR := As.mk hr
      clear hx hcall hr he
      go_wp2
      refine wp_region_chain (fun w' => Below wr.heap.size wr w') [5, 6] (by kernel_rfl) (by kernel_rfl) (by kernel_rfl) (by kernel_rfl) rfl (by kernel_rfl) (bl_drew (bl_refl _)) ?_
      iterate 5 (apply OblH.val rfl; · (intro w' hS; have q0 := cell_below hS k0; have q1 := cell_below hS k1; have q2 := cell_below hS k2; have q3 := cell_below hS hcell; go_simp; rfl))
      iterate 2 (refine OblH.skip rfl ?_)
      refine OblH.done (Chain.step rfl ?_)
      go_wp2_with fail
      refine (HC.out _).mono ?_
      rintro e w1 ⟨rfl, hb⟩
      go_wp2
      refine onlyN.next rfl (bl_then hb (bl_drew (bl_refl _))) (Chain.last rfl ?_)
      go_wp2
      refine onlyN.last rfl ?_
      have HB1 : As (Below wq.heap.size wq w1) := ⟨bl_then hb (bl_drew hB.out)⟩
      clear hb k0 k1 k2 hcell
      cases r with
      | true =>
        have hany : As (anyOut s xs = true) := ⟨by
          have hlt' : i < xs.length := by rw [HN.out]; exact hlt
          rw [anyOut, List.any_eq_true]
          refine ⟨xs[i], List.getElem_mem hlt', ?_⟩
          have h1 := HXX.out
          rw [List.getD_eq_getElem?_getD, List.getElem?_eq_getElem hlt'] at h1
          have h2 : xs[i] = x := h1
          rw [h2]; exact HRR.out⟩
        go_wp2
        go_ret
        exact ⟨by rw [hany.out]; rfl, bl_then HB1.out HB.out⟩
      | false =>
        go_wp2
        go_roundw
        case rel => exact ⟨i + 1, by go_num, by omega, ⟨fun j h => by
          by_cases e : j = i
          · rw [e, HXX.out]; exact HRR.out
          · exact hI.out j (by omega)⟩, HB1⟩
        case measure => simp [intOf]; omega
    · have hd : decide (i < N) = false := decide_eq_false hlt
      have hany : As (anyOut s xs = false) := ⟨by
        rw [anyOut, List.any_eq_false]
        intro x hx
        obtain ⟨j, hj, rfl⟩ := List.getElem_of_mem hx
        have h1 := hI.out j (by have := HN.out; omega)
        rw [List.getD_eq_getElem?_getD, List.getElem?_eq_getElem hj] at h1
        have h2 : outB s xs[j] = false := h1
        rw [h2]; decide⟩
      go_wp2
      go_ret
      exact ⟨by rw [hany.out]; rfl, bl_then hB.out HB.out⟩
end Go.Proofs.Ythcjmmicjbfpgaa.Rs

namespace Go.Proofs.Ythcjmmicjbfpgaa.Rs
open Go.RowKit Go.Proofs.Ythcjmmicjbfpgaa.Alg
open GF
set_option linter.unusedSimpArgs false

section
variable {K : Type} [GF K]
open Classical in
theorem valid7K {par fst : Nat} (h1 : 1 ≤ par) (h2 : par ≤ sz K - 2) (h3 : fst ≤ sz K - 2) (w : World) :
    Calls Try.prog 22 #[.agg #[.int .i64 (ch K), .int .i64 (sz K), .int .i64 (po K), .int .i64 par, .int .i64 fst]] w fun e w' => e = .returned (.bool true) ∧ Below w.heap.size w w' := by
  have := valid7_any (ch K : Int) (sz K : Int) (po K : Int) par fst (by have := sz_max (K := K); omega) w
  have hc : ciB (ch K : Int) (sz K : Int) (po K : Int) par fst = true := by unfold ciB; exact decide_eq_true (ci_K h1 h2 h3)
  rw [hc] at this
  exact this
theorem elements7K (A : Option Addr) (n cp : Nat) (xs : List K) (w : World) (hr : RdK w A xs) (hn : xs.length = n) (hl : n ≤ 1000000) :
    Calls Try.prog 38 #[.agg #[.int .i64 (ch K), .int .i64 (sz K), .int .i64 (po K)], .slice A n cp] w fun e w' => e = .returned (.bool true) ∧ Below w.heap.size w w' := by
  have := elements7_any (ch K : Int) (sz K : Int) (po K : Int) A cp (ints xs) w hr.toI (by rw [ints_length]; omega)
  rw [ints_length, hn, anyOut_K] at this
  exact this

end
end Go.Proofs.Ythcjmmicjbfpgaa.Rs

namespace Go.Proofs.Ythcjmmicjbfpgaa.Rs
open Go.RowKit Go.Proofs.Ythcjmmicjbfpgaa.Alg
open GF
set_option linter.unusedSimpArgs false

section
variable {K : Type} [GF K]
/-- the roots of a code -/
noncomputable def rootsL (K : Type) [GF K] (fst n : Nat) : List K := (List.range n).map (fun k : Nat => gz ((fst : Int) + (k : Int)))
theorem rootsL_length (fst n : Nat) : (rootsL K fst n).length = n := by simp [rootsL]
theorem rootsL_succ (fst n : Nat) : rootsL K fst (n + 1) = rootsL K fst n ++ [gz ((fst : Int) + (n : Int))] := nth_snoc
theorem atl_rootsL {fst n i : Nat} (h : i < n) : atl (rootsL K fst n) i = gz ((fst : Int) + (i : Int)) := atl_map_range _ h

/-- the value of a word by the reference's loop -/
def wrd (xs : List K) (x : K) (i : Nat) : K := hor (xs.take i).reverse x
theorem wrd_zero (xs : List K) (x : K) : wrd xs x 0 = 0 := rfl
theorem wrd_succ {xs : List K} {i : Nat} (h : i < xs.length) (x : K) : wrd xs x (i + 1) = wrd xs x i * x + atl xs i := by
  unfold wrd
  rw [List.take_succ_eq_append_getElem h, List.reverse_append]
  have : atl xs i = xs[i] := by unfold atl; rw [List.getD_eq_getElem?_getD, List.getElem?_eq_getElem h]; rfl
  rw [this]
  rfl
theorem wrd_all (xs : List K) (x : K) : wrd xs x xs.length = ev xs.length (atl xs.reverse) x := by
  unfold wrd
  rw [List.take_length, hor_ev, List.length_reverse]

set_option maxRecDepth 100000 in
set_option maxHeartbeats 1600000 in
theorem roots7K (par fst : Nat) (hpar : par ≤ 5000) (hfst : fst ≤ 5000) (w : World) :
    Calls Try.prog 65 #[.agg #[.int .i64 (ch K), .int .i64 (sz K), .int .i64 (po K), .int .i64 par, .int .i64 fst]] w fun e w' =>
      ∃ v, e = .returned v ∧ As (OwnK w' w.heap.size v (rootsL K fst par)) ∧ Below w.heap.size w w' := by
  go_enter Try.func65, Try.ntmps65
  have HX := As.mk (Box5.new (w := w) (x := ch K) (y := sz K) (z := po K) (u := par) (v := fst) (t := 25))
  have HB : As (Below w.heap.size w (w.alloc (.cells #[.int .i64 (ch K), .int .i64 (sz K), .int .i64 (po K), .int .i64 par, .int .i64 fst] 25))) := ⟨bl_alloc (bl_refl _)⟩
  go_wp2_with fail
  refine (primitive4K (K := K) _).mono ?_
  rintro e wa ⟨rfl, hba⟩
  have HXa := As.mk (HX.out.below hba)
  have HBa : As (Below w.heap.size w wa) := ⟨bl_then hba HB.out⟩
  have c0 := HXa.out.c0
  have c1 := HXa.out.c1
  have c2 := HXa.out.c2
  have c4 := HXa.out.c4
  clear hba HX HB
  go_wp2_with fail
  refine (power4K (K := K) gen fst (by omega) _).mono ?_
  rintro e wq ⟨rfl, hbb⟩
  have HXq := As.mk (HXa.out.below hbb)
  have HBq : As (Below w.heap.size w wq) := ⟨bl_then hbb HBa.out⟩
  have ep : (pw (gen : K) fst) = gz ((fst : Int) + ((0 : Nat) : Int)) := by rw [← gz_nat]; congr 1
  rw [ep]
  clear hbb HXa HBa c0 c1 c2 c4 ep
  obtain ⟨L1, hL1⟩ : ∃ L1, wq.heap.size = L1 := ⟨_, rfl⟩
  have HL1 := As.mk hL1
  clear hL1
  go_wp2
  go_loopw [4, 5, 6] (fun v r k wr => ∃ i : Nat, r = .int .i64 (val (gz ((fst : Int) + (i : Int)) : K)) ∧ k = .int .i64 i ∧ i ≤ par ∧ As (OwnK wr L1 v (rootsL K fst i)) ∧ As (Below wq.heap.size wq wr)) (fun _ _ k _ => par - (intOf k).toNat)
  case atStart => exact ⟨0, rfl, rfl, by omega, ⟨World.ownsRow_nil _ _ _ _⟩, ⟨bl_refl _⟩⟩
  case round =>
    obtain ⟨i, rfl, rfl, hi, hV, hB⟩ := hrel
    have c3 := (HXq.out.below hB.out).c3
    by_cases hlt : i < par
    · have hd : decide (i < par) = true := decide_eq_true hlt
      have HLN : As ((rootsL K fst i).length < 1000000) := ⟨by rw [rootsL_length]; omega⟩
      obtain ⟨x, hx⟩ : ∃ x : K, gz ((fst : Int) + (i : Int)) = x := ⟨_, rfl⟩
      rw [hx]
      have HXX := As.mk hx
      clear hx
      go_wp2_with (at_builtin; refine appK (K := K) _ rfl _ _ rfl L1 _ _ rfl (hV.out.below (bl_alloc (bl_refl _))) wr.heap.size 1 x rfl (by simp [go_sem]) HLN.out (by have := hB.out.size; have := HL1.out; simp; omega) ?_; intro v' w2 hown hb2; have HB2 : As (Below wq.heap.size wq w2) := ⟨(bl_alloc hB.out).trans (by rw [HL1.out]; exact hb2)⟩; have HOW := As.mk hown; have c0 := (HXq.out.below HB2.out).c0; have c1 := (HXq.out.below HB2.out).c1; have c2 := (HXq.out.below HB2.out).c2; clear hown hb2)
      refine (times4K (K := K) x gen _).mono ?_
      rintro e w3 ⟨rfl, hb3⟩
      have HB3 : As (Below wq.heap.size wq w3) := ⟨bl_then hb3 HB2.out⟩
      have HOW3 := As.mk (HOW.out.below hb3)
      have hg : As (x * gen = (gz ((fst : Int) + ((i + 1 : Nat) : Int)) : K)) := ⟨by
        rw [← HXX.out, show ((fst : Int) + ((i + 1 : Nat) : Int)) = ((fst : Int) + (i : Int)) + ((1 : Nat) : Int) by omega, gz_add _ ((1 : Nat) : Int), gz_nat, pw_1]⟩
      rw [hg.out]
      clear hb3 c0 c1 c2 HOW HB2 c3 hV hB
      go_wp2
      go_roundw
      case rel => exact ⟨i + 1, rfl, by go_num, by omega, ⟨by rw [rootsL_succ, HXX.out]; exact HOW3.out⟩, HB3⟩
      case measure => simp [intOf]; omega
    · have hd : decide (i < par) = false := decide_eq_false hlt
      obtain rfl : i = par := by omega
      go_wp2
      go_ret
      exact ⟨_, rfl, ⟨hV.out.mono (by rw [← HL1.out]; exact HBq.out.size)⟩, bl_then hB.out HBq.out⟩

set_option maxRecDepth 100000 in
set_option maxHeartbeats 1600000 in
theorem value7K (A : Option Addr) (cp n : Nat) (xs : List K) (x : K) (w : World) (hr : RdK w A xs) (hn : xs.length = n) (hl : n ≤ 1000000) :
    Calls Try.prog 69 #[.agg #[.int .i64 (ch K), .int .i64 (sz K), .int .i64 (po K)], .slice A n cp, .int .i64 (val x)] w fun e w' => e = .returned (.int .i64 (val (ev n (atl xs.reverse) x))) ∧ Below w.heap.size w w' := by
  have HR := As.mk hr
  have HN := As.mk hn
  have HEV : As (wrd xs x n = ev n (atl xs.reverse) x) := ⟨by rw [← hn]; exact wrd_all xs x⟩
  rw [← HEV.out]
  clear hr hn
  have HX := As.mk (Box3.new (w := w) (x := .int .i64 (ch K)) (y := .int .i64 (sz K)) (z := .int .i64 (po K)) (t := 23))
  go_enter Try.func69, Try.ntmps69
  go_wp2
  have HB : As (Below w.heap.size w (w.alloc (.cells #[.int .i64 (ch K), .int .i64 (sz K), .int .i64 (po K)] 23))) := ⟨bl_alloc (bl_refl _)⟩
  obtain ⟨wq, hwq⟩ : ∃ wq, w.alloc (.cells #[.int .i64 (ch K), .int .i64 (sz K), .int .i64 (po K)] 23) = wq := ⟨_, rfl⟩
  rw [hwq] at HX HB ⊢
  clear hwq
  obtain ⟨L, hL⟩ : ∃ L, w.heap.size = L := ⟨_, rfl⟩
  rw [hL] at HX ⊢
  have HL := As.mk hL
  clear hL
  go_loopw [7, 8] (fun v k wr => ∃ i : Nat, v = .int .i64 (val (wrd xs x i)) ∧ k = .int .i64 i ∧ i ≤ n ∧ As (Below wq.heap.size wq wr)) (fun _ k _ => n - (intOf k).toNat)
  case atStart => exact ⟨0, by rw [wrd_zero, val_zero]; rfl, rfl, by omega, ⟨bl_refl _⟩⟩
  case round =>
    obtain ⟨i, rfl, rfl, hi, hB⟩ := hrel
    by_cases hlt : i < n
    · have hd : decide (i < n) = true := decide_eq_true hlt
      obtain ⟨b, o, rfl, hcell⟩ := ((HR.out.below HB.out).below hB.out) i (by rw [HN.out]; exact hlt)
      have k0 := (HX.out.below hB.out).c0
      have k1 := (HX.out.below hB.out).c1
      have k2 := (HX.out.below hB.out).c2
      obtain ⟨v, hv⟩ : ∃ v, wrd xs x i = v := ⟨_, rfl⟩
      have HV := As.mk hv
      rw [hv]
      clear hv
      go_wp2
      refine wp_region_chain (fun w' => Below wr.heap.size wr w') [4, 9, 10] (by kernel_rfl) (by kernel_rfl) (by kernel_rfl) (by kernel_rfl) rfl (by kernel_rfl) (bl_drew (bl_refl _)) ?_
      iterate 4 (apply OblH.val rfl; · (intro w' hS; have q0 := cell_below hS k0; have q1 := cell_below hS k1; have q2 := cell_below hS k2; go_simp; rfl))
      refine OblH.skip rfl ?_
      iterate 4 (apply OblH.val rfl; · (intro w' hS; have q3 := cell_below hS hcell; go_simp; rfl))
      iterate 2 (refine OblH.skip rfl ?_)
      refine OblH.done (Chain.step rfl ?_)
      go_wp2_with fail
      refine (times4K (K := K) v x _).mono ?_
      rintro e w1 ⟨rfl, hb⟩
      go_wp2
      refine onlyN.next rfl (bl_then hb (bl_drew (bl_refl _))) (Chain.step rfl ?_)
      go_wp2_with fail
      refine (plus4K (K := K) (v * x) (atl xs i) _).mono ?_
      rintro e w2 ⟨rfl, hb2⟩
      go_wp2
      refine onlyN.next rfl (bl_then hb2 (bl_then hb (bl_drew (bl_refl _)))) (Chain.last rfl ?_)
      go_wp2
      refine onlyN.last rfl ?_
      have HB2 : As (Below wq.heap.size wq w2) := ⟨bl_then hb2 (bl_then hb (bl_drew hB.out))⟩
      clear hb hb2 k0 k1 k2 hcell
      go_wp2
      go_roundw
      case rel => exact ⟨i + 1, by rw [wrd_succ (by rw [HN.out]; exact hlt), HV.out], by go_num, by omega, HB2⟩
      case measure => simp [intOf]; omega
    · have hd : decide (i < n) = false := decide_eq_false hlt
      obtain rfl : i = n := by omega
      go_wp2
      go_ret
      exact ⟨rfl, bl_then hB.out HB.out⟩
end
end Go.Proofs.Ythcjmmicjbfpgaa.Rs

namespace Go.Proofs.Ythcjmmicjbfpgaa.Rs
open Go.RowKit Go.Proofs.Ythcjmmicjbfpgaa.Alg
open GF
set_option linter.unusedSimpArgs false

section
variable {K : Type} [GF K]
/-- so much of a row of the product has been added -/
def PrI (p q : List K) (M i m : Nat) (ys : List K) : Prop := ys.length = M ∧ ∀ k, k < M → atl ys k = prt p q i m k
theorem PrI.start (p q : List K) (M : Nat) : PrI p q M 0 0 (List.replicate M (0 : K)) := ⟨by simp, fun k _ => by rw [atl_replicate, prt_start]⟩
theorem PrI.step {p q ys : List K} {M i m j : Nat} (h : PrI p q M i m ys) (hj : i + m = j) (hjM : j < M) : PrI p q M i (m + 1) (ys.set j (atl ys j + atl p i * atl q m)) :=
  ⟨by rw [List.length_set]; exact h.1, prod_step h.2 hj hjM h.1⟩
theorem prt_past (p q : List K) {i k : Nat} : ∀ m d, k < i + m → prt p q i (m + d) k = prt p q i m k
  | m, 0, _ => rfl
  | m, d + 1, h => by rw [← Nat.add_assoc, prt_miss p q (by omega), prt_past p q m d h]
theorem PrI.row {p q ys : List K} {M i m : Nat} (h : PrI p q M i m ys) (hm : m ≤ q.length) (he : m = q.length ∨ M ≤ i + m) : PrI p q M (i + 1) 0 ys := by
  refine ⟨h.1, fun k hk => ?_⟩
  rw [h.2 k hk, ← prt_row]
  rcases he with e | e
  · rw [e]
  · obtain ⟨d, hd⟩ : ∃ d, q.length = m + d := ⟨q.length - m, by omega⟩
    rw [hd, prt_past p q m d (by omega)]
theorem PrI.last {p q ys : List K} {M n : Nat} (h : PrI p q M p.length 0 ys) (hM : M = min n (p.length + q.length - 1)) : ys = (mulL p q).take n := by
  refine atl_ext (by rw [h.1, List.length_take, mulL_length]; exact hM) (fun k hk => ?_)
  rw [h.1] at hk
  rw [h.2 k hk, prt_all, atl_take (by omega)]
  unfold mulL
  rw [atl_map_range _ (by omega)]

set_option maxRecDepth 100000 in
set_option maxHeartbeats 1600000 in
theorem product7K (p q : List K) (A1 A2 : Option Addr) (n1 n2 c1 c2 n M : Nat) (w : World) (hp : RdK w A1 p) (hq : RdK w A2 q) (e1 : p.length = n1) (e2 : q.length = n2) (hp0 : 0 < n1) (hq0 : 0 < n2) (hp1 : n1 ≤ 100000) (hq1 : n2 ≤ 100000) (hn1 : n ≤ 300000) (hM : M = min n (n1 + n2 - 1)) :
    Calls Try.prog 66 #[.agg #[.int .i64 (ch K), .int .i64 (sz K), .int .i64 (po K)], .slice A1 n1 c1, .slice A2 n2 c2, .int .i64 n] w fun e w' =>
      ∃ L : Nat, e = .returned (.slice (some ⟨L, 0, none⟩) M M) ∧ As (OwnK w' w.heap.size (.slice (some ⟨L, 0, none⟩) M M) ((mulL p q).take n)) ∧ Below w.heap.size w w' := by
  have HP := As.mk hp
  have HQ := As.mk hq
  have HE1 := As.mk e1
  have HE2 := As.mk e2
  have HMM := As.mk hM
  have hM1 : M ≤ 200000 := by omega
  have hM0 : M + 1 ≤ n1 + n2 := by omega
  have g1 : IntKind.i64.wrap ((n1 : Int) + (n2 : Int)) = (n1 : Int) + (n2 : Int) := in64 (by omega) (by omega)
  have g2 : IntKind.i64.wrap ((n1 : Int) + (n2 : Int) - 1) = (n1 : Int) + (n2 : Int) - 1 := in64 (by omega) (by omega)
  have g3 : max (0 : Int) ((n1 : Int) + (n2 : Int) - 1) = (n1 : Int) + (n2 : Int) - 1 := by omega
  have g4 : min (n : Int) ((n1 : Int) + (n2 : Int) - 1) = (M : Int) := by omega
  have hmk := mk_ints (n := M) (by omega)
  clear hp hq e1 e2 hM
  have HX := As.mk (Box3.new (w := w) (x := .int .i64 (ch K)) (y := .int .i64 (sz K)) (z := .int .i64 (po K)) (t := 23))
  go_enter Try.func66, Try.ntmps66
  go_wp2
  clear g1 g2 g3 g4 hmk
  have HB : As (Below w.heap.size w (w.alloc (.cells #[.int .i64 (ch K), .int .i64 (sz K), .int .i64 (po K)] 23))) := ⟨bl_alloc (bl_refl _)⟩
  obtain ⟨wq, hwq⟩ : ∃ wq, w.alloc (.cells #[.int .i64 (ch K), .int .i64 (sz K), .int .i64 (po K)] 23) = wq := ⟨_, rfl⟩
  have hsz : wq.heap.size = w.heap.size + 1 := by rw [← hwq]; simp
  rw [hwq] at HX HB ⊢
  clear hwq
  obtain ⟨Z, hZ⟩ : ∃ Z, w.heap.size = Z := ⟨_, rfl⟩
  rw [hZ] at HX
  obtain ⟨L, hL0⟩ : ∃ L, w.heap.size + 1 = L := ⟨_, rfl⟩
  have hL : wq.heap.size = L := hsz.trans hL0
  have HLW : As (w.heap.size ≤ L) := ⟨by omega⟩
  have HZL : As (Z < L) := ⟨by omega⟩
  have HI : As (OwnK (wq.alloc (.cells (zeros M) 3)) L (.slice (some ⟨L, 0, none⟩) M M) (List.replicate M (0 : K))) := ⟨by
    have := zeros_own (W := wq) (B := L) (n := M) (by omega) (by omega)
    rw [zeros_K (K := K), hL] at this
    unfold OwnK
    rw [List.length_replicate]
    exact this⟩
  have HB2 : As (Below wq.heap.size wq (wq.alloc (.cells (zeros M) 3))) := ⟨bl_alloc (bl_refl _)⟩
  rw [hL0]
  have HL := As.mk (Nat.le_of_eq hL)
  rw [hZ]
  clear hL hsz hZ hL0
  go_loopw [10] (fun k wr => ∃ i : Nat, k = .int .i64 i ∧ i ≤ n1 ∧ As (∃ ys : List K, PrI p q M i 0 ys ∧ OwnK wr L (.slice (some ⟨L, 0, none⟩) M M) ys) ∧ As (Below wq.heap.size wq wr)) (fun k _ => n1 - (intOf k).toNat)
  case atStart => exact ⟨0, rfl, by omega, ⟨_, PrI.start p q M, HI.out⟩, HB2⟩
  case round =>
    clear HI HB2
    obtain ⟨i, rfl, hi, hI, hB⟩ := hrel
    by_cases hlt : i < n1
    · have hd : decide (i < n1) = true := decide_eq_true hlt
      go_wp2
      obtain ⟨wo, rfl⟩ : ∃ wo : World, wo = wr := ⟨_, rfl⟩
      go_loopw [11] (fun k wr => ∃ m : Nat, k = .int .i64 m ∧ m ≤ n2 ∧ As (∃ ys : List K, PrI p q M i m ys ∧ OwnK wr L (.slice (some ⟨L, 0, none⟩) M M) ys) ∧ As (Below wq.heap.size wq wr)) (fun k _ => n2 - (intOf k).toNat)
      case atStart => exact ⟨0, rfl, by omega, hI, hB⟩
      case round =>
        clear hI hB
        obtain ⟨m, rfl, hm, hI, hB⟩ := hrel
        obtain ⟨j, hj⟩ : ∃ j, i + m = j := ⟨_, rfl⟩
        have f2 : (i : Int) + (m : Int) = (j : Int) := by omega
        have f3 : IntKind.i64.wrap (j : Int) = (j : Int) := in64 (by omega) (by omega)
        have HJ := As.mk hj
        clear hj
        by_cases hlt2 : m < n2
        · have hd2 : decide (m < n2) = true := decide_eq_true hlt2
          by_cases hjM : j < M
          · have hd3 : decide (j < M) = true := decide_eq_true hjM
            have k0 := (HX.out.below hB.out).c0
            have k1 := (HX.out.below hB.out).c1
            have k2 := (HX.out.below hB.out).c2
            obtain ⟨b, o, rfl, hc⟩ := ((HP.out.below HB.out).below hB.out) i (by rw [HE1.out]; exact hlt)
            obtain ⟨b2, o2, rfl, hc2⟩ := ((HQ.out.below HB.out).below hB.out) m (by rw [HE2.out]; exact hlt2)
            obtain ⟨ys, hys, hown⟩ := hI.out
            obtain ⟨hc3, hf3⟩ := hown.cell hys.1 hjM
            have HYS := As.mk hys
            have HOWN := As.mk hown
            clear hys hown hI
            go_wp2
            refine wp_region_chain (fun w' => Below wr.heap.size wr w') [20, 21, 22, 23] (by kernel_rfl) (by kernel_rfl) (by kernel_rfl) (by kernel_rfl) rfl (by kernel_rfl) (bl_drew (bl_refl _)) ?_
            iterate 20 (apply OblH.val rfl; · (intro w' hS; have q0 := cell_below hS k0; have q1 := cell_below hS k1; have q2 := cell_below hS k2; have q3 := cell_below hS hc; have q4 := cell_below hS hc2; have q5 := cell_below hS hc3; go_simp; rfl))
            iterate 4 (refine OblH.skip rfl ?_)
            refine OblH.done (Chain.step rfl ?_)
            go_wp2_with fail
            refine (times4K (K := K) (atl p i) (atl q m) _).mono ?_
            rintro e w1 ⟨rfl, hb⟩
            go_wp2
            refine onlyN.next rfl (bl_then hb (bl_drew (bl_refl _))) (Chain.step rfl ?_)
            go_wp2_with fail
            refine (plus4K (K := K) (atl ys j) (atl p i * atl q m) _).mono ?_
            rintro e w2 ⟨rfl, hb2⟩
            have HB2 : As (Below wr.heap.size wr w2) := ⟨bl_then hb2 (bl_then hb (bl_drew (bl_refl _)))⟩
            obtain ⟨q5, q6⟩ := keep_cf HB2.out ⟨hc3, hf3⟩
            clear hb hb2 k0 k1 k2 hc hc2 hc3 hf3
            go_wp2
            refine onlyN.next rfl HB2.out (Chain.step rfl ?_)
            go_wp2
            refine onlyN.next rfl HB2.out (Chain.last rfl ?_)
            go_wp2
            refine onlyN.last rfl ?_
            go_wp2
            go_roundw
            case rel => exact ⟨m + 1, by go_num, by omega, ⟨_, HYS.out.step HJ.out hjM, (HOWN.out.below HB2.out).put HYS.out.1 j _⟩, ⟨bl_set (by have := HL.out; exact this) (bl_then HB2.out hB.out)⟩⟩
            case measure => simp [intOf]; omega
          · have hd3 : decide (j < M) = false := decide_eq_false hjM
            go_wp2
            go_roundw
            case rel => exact ⟨i + 1, by go_num, by omega, ⟨by
              obtain ⟨ys, h1, h2⟩ := hI.out
              exact ⟨ys, h1.row (by rw [HE2.out]; exact hm) (Or.inr (by rw [HJ.out]; omega)), h2⟩⟩, hB⟩
            case measure => simp [intOf]; omega
        · have hd2 : decide (m < n2) = false := decide_eq_false hlt2
          go_wp2
          go_roundw
          case rel => exact ⟨i + 1, by go_num, by omega, ⟨by
            obtain ⟨ys, h1, h2⟩ := hI.out
            exact ⟨ys, h1.row (by rw [HE2.out]; exact hm) (Or.inl (by rw [HE2.out]; omega)), h2⟩⟩, hB⟩
          case measure => simp [intOf]; omega
    · have hd : decide (i < n1) = false := decide_eq_false hlt
      have hip : As (i = p.length) := ⟨by have := HE1.out; omega⟩
      obtain ⟨ys, h1, h2⟩ := hI.out
      have HYS : As (ys = (mulL p q).take n) := ⟨by
        rw [hip.out] at h1
        exact h1.last (by rw [HE1.out, HE2.out]; exact HMM.out)⟩
      have H2 := As.mk h2
      clear h1 h2 hI
      go_wp2
      go_ret
      exact ⟨L, rfl, ⟨by rw [← HYS.out]; exact H2.out.mono HLW.out⟩, bl_then hB.out HB.out⟩
end
end Go.Proofs.Ythcjmmicjbfpgaa.Rs

namespace Go.Proofs.Ythcjmmicjbfpgaa.Rs
open Go.RowKit Go.Proofs.Ythcjmmicjbfpgaa.Alg
open GF
set_option linter.unusedSimpArgs false

section
variable {K : Type} [GF K]
theorem minus40K (b : K) (w : World) : Calls Try.prog 39 #[.agg #[.int .i64 (ch K), .int .i64 (sz K), .int .i64 (po K)], .int .i64 0, .int .i64 (val b)] w fun e w' => e = .returned (.int .i64 (val (0 - b))) ∧ Below w.heap.size w w' := by
  have := minus4K (0 : K) b w
  rw [val_zero] at this
  exact this

set_option maxRecDepth 100000 in
set_option maxHeartbeats 1600000 in
theorem syndromes7K (par fst : Nat) (hp0 : 1 ≤ par) (hpar : par ≤ 5000) (hfst : fst ≤ 5000) (A : Option Addr) (cp n : Nat) (xs : List K) (hn : xs.length = n) (hl : n ≤ 1000000) (w : World) (hr : RdK w A xs) :
    Calls Try.prog 42 #[.agg #[.int .i64 (ch K), .int .i64 (sz K), .int .i64 (po K), .int .i64 par, .int .i64 fst], .slice A n cp] w fun e w' =>
      ∃ v, e = .returned v ∧ As (OwnK w' w.heap.size v (synL fst par xs)) ∧ Below w.heap.size w w' := by
  obtain ⟨q, rfl⟩ : ∃ q, par = q + 1 := ⟨par - 1, by omega⟩
  have HRD := As.mk hr
  have HN := As.mk hn
  clear hr hn
  go_enter Try.func42, Try.ntmps42
  have HX := As.mk (Box5.new (w := w) (x := ch K) (y := sz K) (z := po K) (u := (q + 1 : Nat)) (v := fst) (t := 25))
  have HB : As (Below w.heap.size w (w.alloc (.cells #[.int .i64 (ch K), .int .i64 (sz K), .int .i64 (po K), .int .i64 (q + 1 : Nat), .int .i64 fst] 25))) := ⟨bl_alloc (bl_refl _)⟩
  go_wp2_with fail
  refine (roots7K (K := K) (q + 1) fst (by omega) (by omega) _).mono ?_
  rintro e wq ⟨vr, rfl, hroots, hbb⟩
  obtain ⟨gr, cr, rfl, hgr⟩ := hroots.out.shape (n := q) (rootsL_length _ _)
  have HR := As.mk hroots.out
  have HBq : As (Below w.heap.size w wq) := ⟨bl_then hbb HB.out⟩
  have HXq := As.mk (HX.out.below hbb)
  clear hroots hbb HX HB
  obtain ⟨L1, hL1⟩ : ∃ L1, wq.heap.size = L1 := ⟨_, rfl⟩
  have HL1 := As.mk hL1
  clear hL1
  go_wp2
  go_loopw [6, 7] (fun v k wr => ∃ i : Nat, k = .int .i64 i ∧ i ≤ q + 1 ∧ As (OwnK wr L1 v (synL fst i xs)) ∧ As (Below wq.heap.size wq wr)) (fun _ k _ => q + 1 - (intOf k).toNat)
  case atStart => exact ⟨0, rfl, by omega, ⟨World.ownsRow_nil _ _ _ _⟩, ⟨bl_refl _⟩⟩
  case round =>
    obtain ⟨i, rfl, hi, hV, hB⟩ := hrel
    by_cases hlt : i < q + 1
    · have hd : decide (i < q + 1) = true := decide_eq_true hlt
      have k0 := HXq.out.c0
      have k1 := HXq.out.c1
      have k2 := HXq.out.c2
      have hcr := (HR.out.cell (rootsL_length _ _) hlt).1
      rw [atl_rootsL hlt] at hcr
      obtain ⟨x, hx⟩ : ∃ x : K, gz ((fst : Int) + (i : Int)) = x := ⟨_, rfl⟩
      rw [hx] at hcr
      have HXX := As.mk hx
      have HLN : As ((synL fst i xs).length < 1000000) := ⟨by rw [synL_length]; omega⟩
      clear hx
      go_wp2
      refine wp_region_chain (fun w' => Below wq.heap.size wq w') [8, 9, 10, 11] (by kernel_rfl) (by kernel_rfl) (by kernel_rfl) (by kernel_rfl) rfl (by kernel_rfl) (bl_drew hB.out) ?_
      iterate 8 (apply OblH.val rfl; · (intro w' hS; have q0 := cell_below hS k0; have q1 := cell_below hS k1; have q2 := cell_below hS k2; have q3 := cell_below hS hcr; go_simp; rfl))
      iterate 4 (refine OblH.skip rfl ?_)
      refine OblH.done (Chain.step rfl ?_)
      go_wp2_with fail
      refine (value7K (K := K) A cp n xs x _ ((((HRD.out.below HBq.out).below hB.out)).below (bl_drew (bl_refl _))) HN.out hl).mono ?_
      rintro e w1 ⟨rfl, hb⟩
      have HB1 : As (Below wq.heap.size wq w1) := ⟨bl_then hb (bl_drew hB.out)⟩
      have hV1 := As.mk ((hV.out.below (bl_drew (bl_refl _))).below hb)
      clear hb hV hB
      go_wp2
      refine onlyN.next rfl HB1.out (Chain.step rfl ?_)
      go_wp2
      refine onlyN.next rfl (bl_alloc HB1.out) (Chain.step rfl ?_)
      go_wp2_with (at_builtin; refine appK (K := K) _ rfl _ _ rfl L1 _ _ rfl (hV1.out.below (bl_alloc (bl_refl _))) w1.heap.size 1 (ev n (atl xs.reverse) x) rfl (by simp [go_sem]) HLN.out (by have := HL1.out; have := HB1.out.size; simp; omega) ?_; intro v' w2 hown hb2)
      have HOW := As.mk hown
      have HB2 : As (Below wq.heap.size wq w2) := ⟨(bl_alloc HB1.out).trans (by rw [HL1.out]; exact hb2)⟩
      clear hown hb2 hV1 HB1 k0 k1 k2 hcr
      refine onlyN.next rfl HB2.out (Chain.last rfl ?_)
      go_wp2
      refine onlyN.last rfl ?_
      go_wp2
      go_roundw
      case rel => exact ⟨i + 1, by go_num, by omega, ⟨by rw [synL_succ, HN.out, HXX.out]; exact HOW.out⟩, HB2⟩
      case measure => simp [intOf]; omega
    · have hd : decide (i < q + 1) = false := decide_eq_false hlt
      obtain rfl : i = q + 1 := by omega
      go_wp2
      go_ret
      exact ⟨_, rfl, ⟨hV.out.mono (by rw [← HL1.out]; exact HBq.out.size)⟩, bl_then hB.out HBq.out⟩
end
end Go.Proofs.Ythcjmmicjbfpgaa.Rs

namespace Go.Proofs.Ythcjmmicjbfpgaa.Rs
open Go.RowKit Go.Proofs.Ythcjmmicjbfpgaa.Alg
open GF
set_option linter.unusedSimpArgs false

set_option maxRecDepth 100000 in
set_option maxHeartbeats 1600000 in
theorem ints_any (A1 A2 : Option Addr) (c1 c2 : Nat) (xs ys : List Int) (w : World) (h1 : RdI w A1 xs) (h2 : RdI w A2 ys) (hl : xs.length ≤ 100000000000000) :
    Calls Try.prog 14 #[.slice A1 xs.length c1, .slice A2 ys.length c2] w fun e w' => e = .returned (.bool (decide (xs = ys))) ∧ Below w.heap.size w w' := by
  have H1 := As.mk h1
  have H2 := As.mk h2
  clear h1 h2
  obtain ⟨N, hN⟩ : ∃ N, xs.length = N := ⟨_, rfl⟩
  obtain ⟨M, hM⟩ : ∃ M, ys.length = M := ⟨_, rfl⟩
  have HN := As.mk hN
  have HM := As.mk hM
  rw [hN] at hl ⊢
  rw [hM]
  clear hN hM
  by_cases hNM : N = M
  · subst hNM
    have g1 : ((N : Int) == (N : Int)) = true := by simp
    go_enter Try.func14, Try.ntmps14
    go_wp2
    go_loopw [5] (fun k wr => ∃ i : Nat, k = .int .i64 i ∧ i ≤ N ∧ As (∀ j, j < i → xs.getD j 0 = ys.getD j 0) ∧ As (Below w.heap.size w wr)) (fun k _ => N - (intOf k).toNat)
    case atStart => exact ⟨0, rfl, by omega, ⟨fun j h => absurd h (by omega)⟩, ⟨bl_refl _⟩⟩
    case round =>
      obtain ⟨i, rfl, hi, hI, hB⟩ := hrel
      by_cases hlt : i < N
      · have hd : decide (i < N) = true := decide_eq_true hlt
        obtain ⟨b, o, rfl, k1⟩ := (H1.out.below hB.out) i (by rw [HN.out]; exact hlt)
        obtain ⟨b2, o2, rfl, k2⟩ := (H2.out.below hB.out) i (by rw [HM.out]; exact hlt)
        obtain ⟨x, hx⟩ : ∃ x, xs.getD i 0 = x := ⟨_, rfl⟩
        obtain ⟨y, hy⟩ : ∃ y, ys.getD i 0 = y := ⟨_, rfl⟩
        rw [hx] at k1
        rw [hy] at k2
        have HXX := As.mk hx
        have HYY := As.mk hy
        clear hx hy
        obtain ⟨r, hr⟩ : ∃ r, (x == y) = r := ⟨_, rfl⟩
        have HR := As.mk hr
        go_wp2
        refine wp_region_chain (fun w' => Below wr.heap.size wr w') [8] (by kernel_rfl) (by kernel_rfl) (by kernel_rfl) (by kernel_rfl) rfl (by kernel_rfl) (bl_drew (bl_refl _)) ?_
        iterate 8 (apply OblH.val rfl; · (intro w' hS; have q1 := cell_below hS k1; have q2 := cell_below hS k2; go_simp; rfl))
        refine OblH.skip rfl ?_
        refine OblH.done (Chain.last rfl ?_)
        go_wp2
        refine onlyN.last rfl ?_
        cases r with
        | false =>
          have hne : As (xs ≠ ys) := ⟨fun e => by
            have h1 := HR.out
            rw [← HXX.out, ← HYY.out, e] at h1
            simp at h1⟩
          clear hr
          have hr2 : (x == y) = false := HR.out
          go_wp2
          go_ret
          exact ⟨by rw [decide_eq_false hne.out]; rfl, bl_drew hB.out⟩
        | true =>
          have hxy : As (x = y) := ⟨by simpa using hr⟩
          have hr2 : (x == y) = true := HR.out
          clear hr
          go_wp2
          go_roundw
          case rel => exact ⟨i + 1, by go_num, by omega, ⟨fun j h => by
            by_cases e : j = i
            · rw [e, HXX.out, HYY.out]; exact hxy.out
            · exact hI.out j (by omega)⟩, ⟨bl_drew hB.out⟩⟩
          case measure => simp [intOf]; omega
      · have hd : decide (i < N) = false := decide_eq_false hlt
        have he : As (xs = ys) := ⟨by
          apply List.ext_getElem?
          intro j
          by_cases hj : j < N
          · have := hI.out j (by omega)
            rw [List.getD_eq_getElem?_getD, List.getD_eq_getElem?_getD, List.getElem?_eq_getElem (by rw [HN.out]; exact hj), List.getElem?_eq_getElem (by rw [HM.out]; exact hj)] at this
            rw [List.getElem?_eq_getElem (by rw [HN.out]; exact hj), List.getElem?_eq_getElem (by rw [HM.out]; exact hj)]
            exact congrArg some this
          · rw [List.getElem?_eq_none (by have := HN.out; omega), List.getElem?_eq_none (by have := HM.out; omega)]⟩
        go_wp2
        go_ret
        exact ⟨by rw [decide_eq_true he.out]; rfl, hB.out⟩
  · have g1 : ((N : Int) == (M : Int)) = false := beq_eq_false_iff_ne.mpr (by omega)
    have hne : As (xs ≠ ys) := ⟨fun e => hNM (by rw [← HN.out, ← HM.out, e])⟩
    go_enter Try.func14, Try.ntmps14
    go_wp2
    go_ret
    exact ⟨by rw [decide_eq_false hne.out]; rfl, bl_refl _⟩

end Go.Proofs.Ythcjmmicjbfpgaa.Rs
