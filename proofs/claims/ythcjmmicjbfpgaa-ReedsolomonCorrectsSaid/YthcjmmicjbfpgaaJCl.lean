/-
The walks of slices.ContainsFunc over the closures of package reedsolomon.
The walks of valid, fits, at and trim of package reedsolomon.
-/
import Derived.Test.YthcjmmicjbfpgaaJCo
namespace Go.Proofs.Ythcjmmicjbfpgaa.Rs
open Go.RowKit Go.Proofs.Ythcjmmicjbfpgaa.Alg
open GF
set_option linter.unusedSimpArgs false

/-- is a number outside of 0 to s - 1? -/
def outB (s a : Int) : Bool := decide (a < 0) || decide (s ≤ a)

/-- is one of the numbers outside? -/
def anyOut (s : Int) (xs : List Int) : Bool := xs.any (outB s)


set_option maxRecDepth 100000 in
set_option maxHeartbeats 800000 in
theorem cvalid_any (a s : Int) (g : Nat) (w : World) (hc : w.cell? ⟨g, 1, none⟩ = some (.int .i64 s)) :
    Calls Try.prog 62 #[.int .i64 a, .pointer (some ⟨g, 0, none⟩)] w fun e w' => e = .returned (.bool (outB s a)) ∧ w = w' := by
  by_cases h1 : a < 0
  · have g1 : decide (a < 0) = true := decide_eq_true h1
    have hb : As (outB s a = true) := ⟨by unfold outB; rw [g1]; rfl⟩
    clear h1
    go_enter Try.func62, Try.ntmps62
    go_wp2
    go_ret
    exact ⟨ret_bool hb.out.symm, rfl⟩
  · have g1 : decide (a < 0) = false := decide_eq_false h1
    have hb : As (outB s a = decide (s ≤ a)) := ⟨by unfold outB; rw [g1]; rfl⟩
    go_enter Try.func62, Try.ntmps62
    go_wp2
    go_ret
    exact ⟨ret_bool hb.out.symm, rfl⟩

set_option maxRecDepth 100000 in
set_option maxHeartbeats 800000 in
theorem cvalid_index (A : Option Addr) (c : Nat) (xs : List Int) (s : Int) (g : Nat) (w : World) (hr : RdI w A xs) (hl : xs.length ≤ 100000000000000) (hc : w.cell? ⟨g, 1, none⟩ = some (.int .i64 s)) :
    Calls Try.prog 70 #[.slice A xs.length c, .func (.func 62) #[] #[.pointer (some ⟨g, 0, none⟩)]] w fun e w' => ∃ r : Int, e = .returned (.int .i64 r) ∧ As ((0 ≤ r) ↔ anyOut s xs = true) ∧ w = w' := by
  have HR := As.mk hr
  clear hr
  go_enter Try.func70, Try.ntmps70
  go_wp2
  go_loop [8] (fun k => ∃ m : Nat, k = .int .i64 m ∧ m ≤ xs.length ∧ As (∀ i, i < m → outB s (xs.getD i 0) = false)) (fun k => xs.length - (intOf k).toNat)
  case atStart => exact ⟨0, rfl, by omega, ⟨fun i h => by omega⟩⟩
  case round =>
    obtain ⟨m, rfl, hm, hI⟩ := hrel
    by_cases hlt : m < xs.length
    · have hd : decide (m < xs.length) = true := decide_eq_true hlt
      obtain ⟨b, o, rfl, hcell⟩ := HR.out m hlt
      obtain ⟨x, hx⟩ : ∃ x, xs.getD m 0 = x := ⟨_, rfl⟩
      rw [hx] at hcell
      have HX := As.mk hx
      have hcall := cvalid_any x s g w hc
      obtain ⟨r, hr⟩ : ∃ r, outB s x = r := ⟨_, rfl⟩
      rw [hr] at hcall
      have HC := As.mk hcall
      have HRR := As.mk hr
      clear hx hcall hr
      cases r with
      | true =>
        have hany : As (anyOut s xs = true) := ⟨by
          rw [anyOut, List.any_eq_true]
          refine ⟨xs[m], List.getElem_mem hlt, ?_⟩
          have h1 := HX.out
          rw [List.getD_eq_getElem?_getD, List.getElem?_eq_getElem hlt] at h1
          have h2 : xs[m] = x := h1
          rw [h2]; exact HRR.out⟩
        go_wp2_with (go_at_call 62; refine HC.out.mono ?_; rintro e w' ⟨rfl, rfl⟩)
        go_ret
        exact ⟨m, rfl, ⟨iff_of_true (by omega) hany.out⟩, rfl⟩
      | false =>
        go_wp2_with (go_at_call 62; refine HC.out.mono ?_; rintro e w' ⟨rfl, rfl⟩)
        go_round
        case rel => exact ⟨m + 1, by go_num, by omega, ⟨fun i h => by
          by_cases e : i = m
          · rw [e, HX.out]; exact HRR.out
          · exact hI.out i (by omega)⟩⟩
        case measure => simp [intOf]; omega
    · have hd : decide (m < xs.length) = false := decide_eq_false hlt
      have hany : As (anyOut s xs = false) := ⟨by
        rw [anyOut, List.any_eq_false]
        intro x hx
        obtain ⟨i, hi, rfl⟩ := List.getElem_of_mem hx
        have h1 := hI.out i (by omega)
        rw [List.getD_eq_getElem?_getD, List.getElem?_eq_getElem hi] at h1
        have h2 : outB s xs[i] = false := h1
        rw [h2]; decide⟩
      go_wp2
      go_ret
      exact ⟨-1, rfl, ⟨iff_of_false (by omega) (by rw [hany.out]; decide)⟩, rfl⟩

set_option maxRecDepth 100000 in
set_option maxHeartbeats 800000 in
theorem cvalid_contains (A : Option Addr) (c : Nat) (xs : List Int) (s : Int) (g : Nat) (w : World) (hr : RdI w A xs) (hl : xs.length ≤ 100000000000000) (hc : w.cell? ⟨g, 1, none⟩ = some (.int .i64 s)) :
    Calls Try.prog 43 #[.slice A xs.length c, .func (.func 62) #[] #[.pointer (some ⟨g, 0, none⟩)]] w fun e w' => e = .returned (.bool (anyOut s xs)) ∧ w = w' := by
  have HI := As.mk (cvalid_index A c xs s g w hr hl hc)
  clear hr hc
  go_enter Try.func43, Try.ntmps43
  go_wp2_with fail
  refine HI.out.mono ?_
  rintro e w' ⟨r, rfl, hr, rfl⟩
  go_wp2
  go_ret
  refine ⟨ret_bool ?_, rfl⟩
  have := hr.out
  by_cases h0 : 0 ≤ r
  · rw [this.mp h0]; exact decide_eq_true h0
  · have h2 : anyOut s xs = false := Bool.eq_false_iff.mpr (fun h => h0 (this.mpr h))
    rw [h2]; exact decide_eq_false h0

set_option maxRecDepth 100000 in
set_option maxHeartbeats 800000 in
theorem clocator_any (a s : Int) (g : Nat) (w : World) (hc : w.cell? ⟨g, 1, none⟩ = some (.int .i64 s)) :
    Calls Try.prog 44 #[.int .i64 a, .pointer (some ⟨g, 0, none⟩)] w fun e w' => e = .returned (.bool (outB s a)) ∧ w = w' := by
  by_cases h1 : a < 0
  · have g1 : decide (a < 0) = true := decide_eq_true h1
    have hb : As (outB s a = true) := ⟨by unfold outB; rw [g1]; rfl⟩
    clear h1
    go_enter Try.func44, Try.ntmps44
    go_wp2
    go_ret
    exact ⟨ret_bool hb.out.symm, rfl⟩
  · have g1 : decide (a < 0) = false := decide_eq_false h1
    have hb : As (outB s a = decide (s ≤ a)) := ⟨by unfold outB; rw [g1]; rfl⟩
    go_enter Try.func44, Try.ntmps44
    go_wp2
    go_ret
    exact ⟨ret_bool hb.out.symm, rfl⟩

set_option maxRecDepth 100000 in
set_option maxHeartbeats 800000 in
theorem clocator_index (A : Option Addr) (c : Nat) (xs : List Int) (s : Int) (g : Nat) (w : World) (hr : RdI w A xs) (hl : xs.length ≤ 100000000000000) (hc : w.cell? ⟨g, 1, none⟩ = some (.int .i64 s)) :
    Calls Try.prog 70 #[.slice A xs.length c, .func (.func 44) #[] #[.pointer (some ⟨g, 0, none⟩)]] w fun e w' => ∃ r : Int, e = .returned (.int .i64 r) ∧ As ((0 ≤ r) ↔ anyOut s xs = true) ∧ w = w' := by
  have HR := As.mk hr
  clear hr
  go_enter Try.func70, Try.ntmps70
  go_wp2
  go_loop [8] (fun k => ∃ m : Nat, k = .int .i64 m ∧ m ≤ xs.length ∧ As (∀ i, i < m → outB s (xs.getD i 0) = false)) (fun k => xs.length - (intOf k).toNat)
  case atStart => exact ⟨0, rfl, by omega, ⟨fun i h => by omega⟩⟩
  case round =>
    obtain ⟨m, rfl, hm, hI⟩ := hrel
    by_cases hlt : m < xs.length
    · have hd : decide (m < xs.length) = true := decide_eq_true hlt
      obtain ⟨b, o, rfl, hcell⟩ := HR.out m hlt
      obtain ⟨x, hx⟩ : ∃ x, xs.getD m 0 = x := ⟨_, rfl⟩
      rw [hx] at hcell
      have HX := As.mk hx
      have hcall := clocator_any x s g w hc
      obtain ⟨r, hr⟩ : ∃ r, outB s x = r := ⟨_, rfl⟩
      rw [hr] at hcall
      have HC := As.mk hcall
      have HRR := As.mk hr
      clear hx hcall hr
      cases r with
      | true =>
        have hany : As (anyOut s xs = true) := ⟨by
          rw [anyOut, List.any_eq_true]
          refine ⟨xs[m], List.getElem_mem hlt, ?_⟩
          have h1 := HX.out
          rw [List.getD_eq_getElem?_getD, List.getElem?_eq_getElem hlt] at h1
          have h2 : xs[m] = x := h1
          rw [h2]; exact HRR.out⟩
        go_wp2_with (go_at_call 44; refine HC.out.mono ?_; rintro e w' ⟨rfl, rfl⟩)
        go_ret
        exact ⟨m, rfl, ⟨iff_of_true (by omega) hany.out⟩, rfl⟩
      | false =>
        go_wp2_with (go_at_call 44; refine HC.out.mono ?_; rintro e w' ⟨rfl, rfl⟩)
        go_round
        case rel => exact ⟨m + 1, by go_num, by omega, ⟨fun i h => by
          by_cases e : i = m
          · rw [e, HX.out]; exact HRR.out
          · exact hI.out i (by omega)⟩⟩
        case measure => simp [intOf]; omega
    · have hd : decide (m < xs.length) = false := decide_eq_false hlt
      have hany : As (anyOut s xs = false) := ⟨by
        rw [anyOut, List.any_eq_false]
        intro x hx
        obtain ⟨i, hi, rfl⟩ := List.getElem_of_mem hx
        have h1 := hI.out i (by omega)
        rw [List.getD_eq_getElem?_getD, List.getElem?_eq_getElem hi] at h1
        have h2 : outB s xs[i] = false := h1
        rw [h2]; decide⟩
      go_wp2
      go_ret
      exact ⟨-1, rfl, ⟨iff_of_false (by omega) (by rw [hany.out]; decide)⟩, rfl⟩

set_option maxRecDepth 100000 in
set_option maxHeartbeats 800000 in
theorem clocator_contains (A : Option Addr) (c : Nat) (xs : List Int) (s : Int) (g : Nat) (w : World) (hr : RdI w A xs) (hl : xs.length ≤ 100000000000000) (hc : w.cell? ⟨g, 1, none⟩ = some (.int .i64 s)) :
    Calls Try.prog 43 #[.slice A xs.length c, .func (.func 44) #[] #[.pointer (some ⟨g, 0, none⟩)]] w fun e w' => e = .returned (.bool (anyOut s xs)) ∧ w = w' := by
  have HI := As.mk (clocator_index A c xs s g w hr hl hc)
  clear hr hc
  go_enter Try.func43, Try.ntmps43
  go_wp2_with fail
  refine HI.out.mono ?_
  rintro e w' ⟨r, rfl, hr, rfl⟩
  go_wp2
  go_ret
  refine ⟨ret_bool ?_, rfl⟩
  have := hr.out
  by_cases h0 : 0 ≤ r
  · rw [this.mp h0]; exact decide_eq_true h0
  · have h2 : anyOut s xs = false := Bool.eq_false_iff.mpr (fun h => h0 (this.mpr h))
    rw [h2]; exact decide_eq_false h0

set_option maxRecDepth 100000 in
set_option maxHeartbeats 800000 in
theorem cdecode_any (a s : Int) (g : Nat) (w : World) (hc : w.cell? ⟨g, 0, none⟩ = some (.int .i64 s)) :
    Calls Try.prog 47 #[.int .i64 a, .pointer (some ⟨g, 0, none⟩)] w fun e w' => e = .returned (.bool (outB s a)) ∧ w = w' := by
  by_cases h1 : a < 0
  · have g1 : decide (a < 0) = true := decide_eq_true h1
    have hb : As (outB s a = true) := ⟨by unfold outB; rw [g1]; rfl⟩
    clear h1
    go_enter Try.func47, Try.ntmps47
    go_wp2
    go_ret
    exact ⟨ret_bool hb.out.symm, rfl⟩
  · have g1 : decide (a < 0) = false := decide_eq_false h1
    have hb : As (outB s a = decide (s ≤ a)) := ⟨by unfold outB; rw [g1]; rfl⟩
    go_enter Try.func47, Try.ntmps47
    go_wp2
    go_ret
    exact ⟨ret_bool hb.out.symm, rfl⟩

set_option maxRecDepth 100000 in
set_option maxHeartbeats 800000 in
theorem cdecode_index (A : Option Addr) (c : Nat) (xs : List Int) (s : Int) (g : Nat) (w : World) (hr : RdI w A xs) (hl : xs.length ≤ 100000000000000) (hc : w.cell? ⟨g, 0, none⟩ = some (.int .i64 s)) :
    Calls Try.prog 70 #[.slice A xs.length c, .func (.func 47) #[] #[.pointer (some ⟨g, 0, none⟩)]] w fun e w' => ∃ r : Int, e = .returned (.int .i64 r) ∧ As ((0 ≤ r) ↔ anyOut s xs = true) ∧ w = w' := by
  have HR := As.mk hr
  clear hr
  go_enter Try.func70, Try.ntmps70
  go_wp2
  go_loop [8] (fun k => ∃ m : Nat, k = .int .i64 m ∧ m ≤ xs.length ∧ As (∀ i, i < m → outB s (xs.getD i 0) = false)) (fun k => xs.length - (intOf k).toNat)
  case atStart => exact ⟨0, rfl, by omega, ⟨fun i h => by omega⟩⟩
  case round =>
    obtain ⟨m, rfl, hm, hI⟩ := hrel
    by_cases hlt : m < xs.length
    · have hd : decide (m < xs.length) = true := decide_eq_true hlt
      obtain ⟨b, o, rfl, hcell⟩ := HR.out m hlt
      obtain ⟨x, hx⟩ : ∃ x, xs.getD m 0 = x := ⟨_, rfl⟩
      rw [hx] at hcell
      have HX := As.mk hx
      have hcall := cdecode_any x s g w hc
      obtain ⟨r, hr⟩ : ∃ r, outB s x = r := ⟨_, rfl⟩
      rw [hr] at hcall
      have HC := As.mk hcall
      have HRR := As.mk hr
      clear hx hcall hr
      cases r with
      | true =>
        have hany : As (anyOut s xs = true) := ⟨by
          rw [anyOut, List.any_eq_true]
          refine ⟨xs[m], List.getElem_mem hlt, ?_⟩
          have h1 := HX.out
          rw [List.getD_eq_getElem?_getD, List.getElem?_eq_getElem hlt] at h1
          have h2 : xs[m] = x := h1
          rw [h2]; exact HRR.out⟩
        go_wp2_with (go_at_call 47; refine HC.out.mono ?_; rintro e w' ⟨rfl, rfl⟩)
        go_ret
        exact ⟨m, rfl, ⟨iff_of_true (by omega) hany.out⟩, rfl⟩
      | false =>
        go_wp2_with (go_at_call 47; refine HC.out.mono ?_; rintro e w' ⟨rfl, rfl⟩)
        go_round
        case rel => exact ⟨m + 1, by go_num, by omega, ⟨fun i h => by
          by_cases e : i = m
          · rw [e, HX.out]; exact HRR.out
          · exact hI.out i (by omega)⟩⟩
        case measure => simp [intOf]; omega
    · have hd : decide (m < xs.length) = false := decide_eq_false hlt
      have hany : As (anyOut s xs = false) := ⟨by
        rw [anyOut, List.any_eq_false]
        intro x hx
        obtain ⟨i, hi, rfl⟩ := List.getElem_of_mem hx
        have h1 := hI.out i (by omega)
        rw [List.getD_eq_getElem?_getD, List.getElem?_eq_getElem hi] at h1
        have h2 : outB s xs[i] = false := h1
        rw [h2]; decide⟩
      go_wp2
      go_ret
      exact ⟨-1, rfl, ⟨iff_of_false (by omega) (by rw [hany.out]; decide)⟩, rfl⟩

set_option maxRecDepth 100000 in
set_option maxHeartbeats 800000 in
theorem cdecode_contains (A : Option Addr) (c : Nat) (xs : List Int) (s : Int) (g : Nat) (w : World) (hr : RdI w A xs) (hl : xs.length ≤ 100000000000000) (hc : w.cell? ⟨g, 0, none⟩ = some (.int .i64 s)) :
    Calls Try.prog 43 #[.slice A xs.length c, .func (.func 47) #[] #[.pointer (some ⟨g, 0, none⟩)]] w fun e w' => e = .returned (.bool (anyOut s xs)) ∧ w = w' := by
  have HI := As.mk (cdecode_index A c xs s g w hr hl hc)
  clear hr hc
  go_enter Try.func43, Try.ntmps43
  go_wp2_with fail
  refine HI.out.mono ?_
  rintro e w' ⟨r, rfl, hr, rfl⟩
  go_wp2
  go_ret
  refine ⟨ret_bool ?_, rfl⟩
  have := hr.out
  by_cases h0 : 0 ≤ r
  · rw [this.mp h0]; exact decide_eq_true h0
  · have h2 : anyOut s xs = false := Bool.eq_false_iff.mpr (fun h => h0 (this.mpr h))
    rw [h2]; exact decide_eq_false h0
end Go.Proofs.Ythcjmmicjbfpgaa.Rs

namespace Go.Proofs.Ythcjmmicjbfpgaa.Rs
open Go.RowKit Go.Proofs.Ythcjmmicjbfpgaa.Alg
open GF
set_option linter.unusedSimpArgs false

/-- what valid answers -/
noncomputable def vldB (c s p par fst : Int) (xs : List Int) : Bool := decide (newE c s p par fst = 0) && !anyOut s xs

set_option maxRecDepth 100000 in
set_option maxHeartbeats 1600000 in
theorem vld_any (c s p par fst : Int) (A : Option Addr) (cp : Nat) (xs : List Int) (w : World) (hr : RdI w A xs) (hl : xs.length ≤ 100000000000000) :
    Calls Try.prog 30 #[.agg #[.int .i64 c, .int .i64 s, .int .i64 p, .int .i64 par, .int .i64 fst], .slice A xs.length cp] w fun e w' => e = .returned (.bool (vldB c s p par fst xs)) ∧ Below w.heap.size w w' := by
  have HN := As.mk (new_any c s p par fst)
  have HR := As.mk hr
  obtain ⟨E, hE⟩ : ∃ E, newE c s p par fst = E := ⟨_, rfl⟩
  obtain ⟨v1, v2, v3, v4, v5, hV⟩ : ∃ v1 v2 v3 v4 v5, newV c s p par fst = .agg #[.int .i64 v1, .int .i64 v2, .int .i64 v3, .int .i64 v4, .int .i64 v5] := by
    unfold newV
    by_cases h : CI c s p par fst
    · exact ⟨_, _, _, _, _, if_pos h⟩
    · exact ⟨_, _, _, _, _, if_neg h⟩
  rw [hE, hV] at HN
  have HB : As (vldB c s p par fst xs = (decide (E = 0) && !anyOut s xs)) := ⟨by unfold vldB; rw [hE]⟩
  clear hE hV hr
  by_cases h0 : E = 0
  · subst h0
    have hd : decide ((0 : Int) = 0) = true := rfl
    go_enter Try.func30, Try.ntmps30
    go_wp2_with fail
    refine (HN.out _).mono ?_
    rintro e w1 ⟨rfl, hb⟩
    obtain ⟨hc, hf⟩ := bcell hb
    have hz : w.heap.size + 1 ≤ w1.heap.size := by have := hb.size; simp at this; omega
    have hcell : (w1.alloc (Obj.cells #[.int .i64 v1, .int .i64 v2, .int .i64 v3, .int .i64 v4, .int .i64 v5] 25)).cell? ⟨w.heap.size, 1, none⟩ = some (.int .i64 s) := by
      rw [World.cell?_alloc_lt _ _ _ (by simp; omega), hc _ _ (by simp)]
      simp [go_sem]
    have hbl : As (Below w.heap.size w (w1.alloc (Obj.cells #[.int .i64 v1, .int .i64 v2, .int .i64 v3, .int .i64 v4, .int .i64 v5] 25))) := ⟨bl_alloc (bl_then hb (bl_alloc (bl_refl _)))⟩
    have HC := As.mk (cvalid_contains A cp xs s w.heap.size _ (HR.out.below hbl.out) hl hcell)
    obtain ⟨W, hW⟩ : ∃ W, w1.alloc (Obj.cells #[.int .i64 v1, .int .i64 v2, .int .i64 v3, .int .i64 v4, .int .i64 v5] 25) = W := ⟨_, rfl⟩
    rw [hW] at HC hbl
    clear hcell
    go_wp2_with fail
    refine HC.out.mono ?_
    rintro e w2 ⟨rfl, rfl⟩
    go_wp2
    go_ret
    exact ⟨ret_bool (by rw [HB.out]; rfl), hbl.out⟩
  · have hd : decide (E = 0) = false := decide_eq_false h0
    go_enter Try.func30, Try.ntmps30
    go_wp2_with fail
    refine (HN.out _).mono ?_
    rintro e w1 ⟨rfl, hb⟩
    obtain ⟨hc, hf⟩ := bcell hb
    have hz : w.heap.size + 1 ≤ w1.heap.size := by have := hb.size; simp at this; omega
    go_wp2
    go_ret
    exact ⟨ret_bool (by rw [HB.out, hd]; rfl), bl_alloc (bl_then hb (bl_alloc (bl_refl _)))⟩

set_option maxRecDepth 100000 in
theorem fits_any (c s p par fst : Int) (A : Option Addr) (n cp : Nat) (w : World) :
    Calls Try.prog 40 #[.agg #[.int .i64 c, .int .i64 s, .int .i64 p, .int .i64 par, .int .i64 fst], .slice A n cp] w fun e w' => e = .returned (.bool (decide (par < n) && decide ((n : Int) < s))) ∧ Below w.heap.size w w' := by
  by_cases h1 : par < n
  · have g1 : decide (par < n) = true := decide_eq_true h1
    obtain ⟨b, hb⟩ : ∃ b, decide ((n : Int) < s) = b := ⟨_, rfl⟩
    rw [g1, hb]
    go_enter Try.func40, Try.ntmps40
    go_wp2
    go_ret
    exact ⟨by simp [hb], bl_alloc (bl_refl _)⟩
  · have g1 : decide (par < n) = false := decide_eq_false h1
    rw [g1]
    go_enter Try.func40, Try.ntmps40
    go_wp2
    go_ret
    exact ⟨rfl, bl_alloc (bl_refl _)⟩

section
variable {K : Type} [GF K]
theorem RdK.at {w : World} {A : Option Addr} {xs : List K} (h : RdK w A xs) {i : Nat} (hi : i < xs.length) : ∃ b o, A = some ⟨b, o, none⟩ ∧ w.cell? ⟨b, o + i, none⟩ = some (.int .i64 (val (atl xs i))) := h i hi

set_option maxRecDepth 100000 in
theorem atK (A : Option Addr) (xs : List K) (cp i : Nat) (w : World) (h : RdK w A xs) :
    Calls Try.prog 89 #[.slice A xs.length cp, .int .i64 i] w fun e w' => e = .returned (.int .i64 (val (atl xs i))) ∧ w = w' := by
  have HR := As.mk h
  clear h
  by_cases hi : i < xs.length
  · have hd : decide (i < xs.length) = true := decide_eq_true hi
    obtain ⟨b, o, rfl, hc⟩ := HR.out i hi
    obtain ⟨u, hu⟩ : ∃ u, val (atl xs i) = u := ⟨_, rfl⟩
    rw [hu] at hc ⊢
    clear hu
    go_enter Try.func89, Try.ntmps89
    go_wp2
    go_ret
    exact ⟨rfl, rfl⟩
  · have hd : decide (i < xs.length) = false := decide_eq_false hi
    have HV : As (val (atl xs i) = 0) := ⟨by rw [atl_out (by omega), val_zero]⟩
    go_enter Try.func89, Try.ntmps89
    go_wp2
    go_ret
    exact ⟨ret_int (by rw [HV.out]; rfl), rfl⟩

/-- a list of coefficients without zeros at its end -/
def trm (xs : List K) : Nat → Nat
  | 0 => 0
  | n + 1 => if atl xs n = 0 then trm xs n else n + 1
theorem trm_le (xs : List K) (n : Nat) : trm xs n ≤ n := by
  induction n with
  | zero => exact Nat.le_refl _
  | succ n ih => unfold trm; split <;> omega

set_option maxRecDepth 100000 in
set_option maxHeartbeats 800000 in
theorem trimK (A : Option Addr) (xs : List K) (cp : Nat) (w : World) (h : RdK w A xs) (hl : xs.length ≤ 100000000000000) (hcp : xs.length ≤ cp) :
    Calls Try.prog 72 #[.slice A xs.length cp] w fun e w' => e = .returned (.slice A (trm xs xs.length) cp) ∧ w = w' := by
  have HR := As.mk h
  clear h
  obtain ⟨N, hN⟩ : ∃ N, xs.length = N := ⟨_, rfl⟩
  have HN := As.mk hN
  rw [hN] at hl hcp ⊢
  clear hN
  go_enter Try.func72, Try.ntmps72
  go_wp2
  go_loop [0] (fun k => ∃ m : Nat, k = .slice A m cp ∧ m ≤ N ∧ As (trm xs m = trm xs N)) (fun k => match k with | .slice _ m _ => m | _ => 0)
  case atStart => exact ⟨N, rfl, by omega, ⟨rfl⟩⟩
  case round =>
    obtain ⟨m, rfl, hm, hI⟩ := hrel
    cases m with
    | zero =>
      go_wp2
      go_ret
      exact ⟨by rw [← hI.out]; rfl, rfl⟩
    | succ m =>
      obtain ⟨b, o, rfl, hc⟩ := HR.out m (by have := HN.out; omega)
      have e1 : ((m + 1 : Nat) : Int) - 1 = (m : Int) := by omega
      have g1 : decide (m < m + 1) = true := decide_eq_true (by omega)
      by_cases h0 : atl xs m = 0
      · have hv : val (atl xs m) = 0 := by rw [h0, val_zero]
        rw [hv] at hc
        have HS : As (trm xs m = trm xs (m + 1)) := ⟨by conv => rhs; unfold trm; rw [if_pos h0]⟩
        clear h0 hv
        go_wp2
        go_round
        case rel => exact ⟨m, rfl, by omega, ⟨HS.out.trans hI.out⟩⟩
        case measure => exact Nat.lt_succ_self m
      · have hv : val (atl xs m) ≠ 0 := fun h => h0 (val_eq_zero.mp h)
        have HS : As (m + 1 = trm xs N) := ⟨by rw [← hI.out]; conv => rhs; unfold trm; rw [if_neg h0]⟩
        obtain ⟨u, hu⟩ : ∃ u, val (atl xs m) = u := ⟨_, rfl⟩
        rw [hu] at hc hv
        have g3 : ((u : Int) == 0) = false := beq_eq_false_iff_ne.mpr (by omega)
        clear h0 hv hu
        go_wp2
        go_ret
        exact ⟨by rw [← HS.out]; rfl, rfl⟩
end
end Go.Proofs.Ythcjmmicjbfpgaa.Rs
