/-
The walk of the reference's New.
The walk of the reference's generator.
The walks of the reference's Generator, Encode and Syndromes at their edges, and of Generator and Syndromes.
-/
import Derived.Test.YthcjmmicjbfpgaaJRa
namespace Go.Proofs.Ythcjmmicjbfpgaa.Rs
open Go.RowKit Go.Proofs.Ythcjmmicjbfpgaa.Alg
open GF
set_option linter.unusedSimpArgs false

theorem blk_new (w : World) (o o' : Obj) : ((w.alloc o).alloc o').heap[w.heap.size + 1]? = some o' := by
  have e : (w.alloc o).heap.size = w.heap.size + 1 := by simp
  rw [← e]
  exact heap_alloc_new _ _
set_option maxRecDepth 100000 in
set_option maxHeartbeats 1600000 in
open Classical in
theorem new7_any (c s p par fst : Int) (hs : s < 9223372036854775808) (w : World) :
    Calls Try.prog 10 #[.agg #[.int .i64 c, .int .i64 s, .int .i64 p], .int .i64 par, .int .i64 fst] w fun e w' => e = .returned (.tuple #[newV c s p par fst, .int .i64 (newE c s p par fst)]) ∧ Below w.heap.size w w' := by
  have HV := As.mk (valid4_any c s p hs)
  have HC := As.mk (valid7_any c s p par fst hs)
  clear hs
  by_cases hv : VI c s p
  · rw [viB_true.mpr hv] at HV
    by_cases hc : CI c s p par fst
    · have hb : ciB c s p par fst = true := by unfold ciB; exact decide_eq_true hc
      rw [hb] at HC
      refine tup_eq (a := .agg #[.int .i64 c, .int .i64 s, .int .i64 p, .int .i64 par, .int .i64 fst]) (u := .int .i64 0) ?_ (by unfold newV; rw [if_pos hc]) (by unfold newE; rw [if_neg (fun h => h hv), if_pos hc])
      clear hv hc hb
      go_enter Try.func10, Try.ntmps10
      go_wp2_with fail
      refine (HV.out _).mono ?_
      rintro e w1 ⟨rfl, hb⟩
      obtain ⟨hc, hf⟩ := bcell hb
      have hz : w.heap.size + 1 < w1.heap.size := by have := hb.size; simp at this; omega
      go_wp2_with fail
      refine (HC.out _).mono ?_
      rintro e w2 ⟨rfl, hb2⟩
      have hx := (Box5.new (w := w1) (x := c) (y := s) (z := p) (u := par) (v := fst) (t := 25)).below hb2
      have c0 := hx.c0
      have c1 := hx.c1
      have c2 := hx.c2
      have c3 := hx.c3
      have c4 := hx.c4
      have hz0 : w2.heap[w.heap.size + 1]? = some (.cells #[.int .i64 0, .int .i64 0, .int .i64 0, .int .i64 0, .int .i64 0] 25 (0, 0)) :=
        blk_below (blk_alloc (blk_below (blk_new _ _ _) hb)) hb2
      have d0 := blk_cell hz0 0
      have d1 := blk_cell hz0 1
      have d2 := blk_cell hz0 2
      have d3 := blk_cell hz0 3
      have d4 := blk_cell hz0 4
      simp only [List.getElem?_toArray, List.getElem?_cons_zero, List.getElem?_cons_succ] at d0 d1 d2 d3 d4
      have f0 := blk_frozen hz0 0
      have f1 := blk_frozen hz0 1
      have f2 := blk_frozen hz0 2
      have f3 := blk_frozen hz0 3
      have f4 := blk_frozen hz0 4
      clear hx hz0
      go_wp2
      exact bodyPost_ret (v := .tuple #[.agg #[.int .i64 c, .int .i64 s, .int .i64 p, .int .i64 par, .int .i64 fst], .int .i64 0]) (by simp [results, Try.results10, go_sem, d0, d1, d2, d3, d4]) rfl ⟨rfl, by
        repeat (first | exact bl_refl _ | apply bl_drew | apply bl_alloc | apply bl_set (by simp) | apply bl_set (by show w.heap.size ≤ _; omega) | apply bl_then hb2 | apply bl_then hb)⟩
    · have hb : ciB c s p par fst = false := by unfold ciB; exact decide_eq_false hc
      rw [hb] at HC
      refine tup_eq (a := .agg #[.int .i64 0, .int .i64 0, .int .i64 0, .int .i64 0, .int .i64 0]) (u := .int .i64 3) ?_ (by unfold newV; rw [if_neg hc]) (by unfold newE; rw [if_neg (fun h => h hv), if_neg hc])
      clear hv hc hb
      go_enter Try.func10, Try.ntmps10
      go_wp2_with fail
      refine (HV.out _).mono ?_
      rintro e w1 ⟨rfl, hb⟩
      obtain ⟨hc, hf⟩ := bcell hb
      have hz : w.heap.size + 1 < w1.heap.size := by have := hb.size; simp at this; omega
      go_wp2_with fail
      refine (HC.out _).mono ?_
      rintro e w2 ⟨rfl, hb2⟩
      have hx := (Box5.new (w := w1) (x := c) (y := s) (z := p) (u := par) (v := fst) (t := 25)).below hb2
      have c0 := hx.c0
      have c1 := hx.c1
      have c2 := hx.c2
      have c3 := hx.c3
      have c4 := hx.c4
      have hz0 : w2.heap[w.heap.size + 1]? = some (.cells #[.int .i64 0, .int .i64 0, .int .i64 0, .int .i64 0, .int .i64 0] 25 (0, 0)) :=
        blk_below (blk_alloc (blk_below (blk_new _ _ _) hb)) hb2
      have d0 := blk_cell hz0 0
      have d1 := blk_cell hz0 1
      have d2 := blk_cell hz0 2
      have d3 := blk_cell hz0 3
      have d4 := blk_cell hz0 4
      simp only [List.getElem?_toArray, List.getElem?_cons_zero, List.getElem?_cons_succ] at d0 d1 d2 d3 d4
      have f0 := blk_frozen hz0 0
      have f1 := blk_frozen hz0 1
      have f2 := blk_frozen hz0 2
      have f3 := blk_frozen hz0 3
      have f4 := blk_frozen hz0 4
      clear hx hz0
      go_wp2
      exact bodyPost_ret (v := .tuple #[.agg #[.int .i64 0, .int .i64 0, .int .i64 0, .int .i64 0, .int .i64 0], .int .i64 3]) (by simp [results, Try.results10, go_sem, d0, d1, d2, d3, d4]) rfl ⟨rfl, by
        repeat (first | exact bl_refl _ | apply bl_drew | apply bl_alloc | apply bl_set (by simp) | apply bl_set (by show w.heap.size ≤ _; omega) | apply bl_then hb2 | apply bl_then hb)⟩
  · rw [viB_false.mpr hv] at HV
    refine tup_eq (a := .agg #[.int .i64 0, .int .i64 0, .int .i64 0, .int .i64 0, .int .i64 0]) (u := .int .i64 1) ?_ (by unfold newV; rw [if_neg (fun h => hv h.1)]) (by unfold newE; rw [if_pos hv])
    clear hv
    go_enter Try.func10, Try.ntmps10
    go_wp2_with fail
    refine (HV.out _).mono ?_
    rintro e w1 ⟨rfl, hb⟩
    obtain ⟨hc, hf⟩ := bcell hb
    have hz : w.heap.size + 1 < w1.heap.size := by have := hb.size; simp at this; omega
    go_wp2
    exact bodyPost_ret (v := .tuple #[.agg #[.int .i64 0, .int .i64 0, .int .i64 0, .int .i64 0, .int .i64 0], .int .i64 1]) (by simp [results, Try.results10, go_sem, hc, hz]) rfl ⟨rfl, by
      repeat (first | exact bl_refl _ | apply bl_drew | apply bl_alloc | apply bl_set (by simp) | apply bl_then hb)⟩

end Go.Proofs.Ythcjmmicjbfpgaa.Rs

namespace Go.Proofs.Ythcjmmicjbfpgaa.Rs
open Go.RowKit Go.Proofs.Ythcjmmicjbfpgaa.Alg
open GF
set_option linter.unusedSimpArgs false

section
variable {K : Type} [GF K]
set_option maxRecDepth 100000 in
set_option maxHeartbeats 1600000 in
theorem generator7K (par fst : Nat) (hp0 : 1 ≤ par) (hpar : par ≤ 5000) (hfst : fst ≤ 5000) (w : World) :
    Calls Try.prog 33 #[.agg #[.int .i64 (ch K), .int .i64 (sz K), .int .i64 (po K), .int .i64 par, .int .i64 fst]] w fun e w' =>
      ∃ L : Nat, e = .returned (.slice (some ⟨L, 0, none⟩) (par + 1) (par + 1)) ∧ As (OwnK w' w.heap.size (.slice (some ⟨L, 0, none⟩) (par + 1) (par + 1)) (genL K fst par)) ∧ Below w.heap.size w w' := by
  obtain ⟨q, rfl⟩ : ∃ q, par = q + 1 := ⟨par - 1, by omega⟩
  go_enter Try.func33, Try.ntmps33
  have HX := As.mk (Box5.new (w := w) (x := ch K) (y := sz K) (z := po K) (u := (q + 1 : Nat)) (v := fst) (t := 25))
  have HB : As (Below w.heap.size w (w.alloc (.cells #[.int .i64 (ch K), .int .i64 (sz K), .int .i64 (po K), .int .i64 (q + 1 : Nat), .int .i64 fst] 25))) := ⟨bl_alloc (bl_refl _)⟩
  go_wp2_with fail
  refine (roots7K (K := K) (q + 1) fst (by omega) (by omega) _).mono ?_
  rintro e wq ⟨vr, rfl, hroots, hbb⟩
  have hro := As.mk (rd_one (K := K) (w := w.alloc (.cells #[.int .i64 (ch K), .int .i64 (sz K), .int .i64 (po K), .int .i64 (q + 1 : Nat), .int .i64 fst] 25)) (t := 3))
  obtain ⟨Z, hZ⟩ : ∃ Z, w.heap.size = Z := ⟨_, rfl⟩
  have hOne : As (OwnK wq w.heap.size (.slice (some ⟨Z + 1, 0, none⟩) 1 1) (genL K fst 0)) := ⟨by
    have h1 : OwnK ((w.alloc (.cells #[.int .i64 (ch K), .int .i64 (sz K), .int .i64 (po K), .int .i64 (q + 1 : Nat), .int .i64 fst] 25)).alloc (.cells #[.int .i64 1] 3)) w.heap.size (.slice (some ⟨w.heap.size + 1, 0, none⟩) 1 1) [(1 : K)] := by
      have := World.ownsRow_lit (base := w.heap.size) (e := 3) (size := 1) (w.alloc (.cells #[.int .i64 (ch K), .int .i64 (sz K), .int .i64 (po K), .int .i64 (q + 1 : Nat), .int .i64 fst] 25)) #[.int .i64 1] 1 (by simp) (by simp [maxLen]) rfl
      simp only [World.alloc, Array.size_push] at this ⊢
      unfold OwnK
      simp only [List.map_cons, List.map_nil, List.length_cons, List.length_nil, val_one]
      exact this
    have h2 := h1.below hbb
    rw [hZ] at h2 ⊢
    exact h2⟩
  obtain ⟨gr, cr, rfl, hgr⟩ := hroots.out.shape (n := q) (rootsL_length _ _)
  have HR := As.mk hroots.out
  have HBq : As (Below w.heap.size w wq) := ⟨bl_then hbb (bl_alloc HB.out)⟩
  have HXq := As.mk ((HX.out.below (bl_alloc (o := .cells #[.int .i64 1] 3) (bl_refl _))).below hbb)
  clear hro hroots hbb HX HB
  rw [hZ]
  rw [hZ] at HXq
  obtain ⟨B0, hB0⟩ : ∃ B0, w.heap.size = B0 := ⟨_, rfl⟩
  go_wp2
  go_loopw [3, 5] (fun v k wr => ∃ i L : Nat, v = .slice (some ⟨L, 0, none⟩) (i + 1) (i + 1) ∧ k = .int .i64 i ∧ i ≤ q + 1 ∧ As (OwnK wr w.heap.size (.slice (some ⟨L, 0, none⟩) (i + 1) (i + 1)) (genL K fst i)) ∧ As (Below wq.heap.size wq wr)) (fun _ k _ => q + 1 - (intOf k).toNat)
  case atStart => exact ⟨0, Z + 1, rfl, rfl, by omega, hOne, ⟨bl_refl _⟩⟩
  case round =>
    clear hOne
    obtain ⟨i, L, rfl, rfl, hi, hO, hB⟩ := hrel
    by_cases hlt : i < q + 1
    · have hd : decide (i < q + 1) = true := decide_eq_true hlt
      have k0 := (HXq.out.below hB.out).c0
      have k1 := (HXq.out.below hB.out).c1
      have k2 := (HXq.out.below hB.out).c2
      have hcr := ((HR.out.below hB.out).cell (rootsL_length _ _) hlt).1
      rw [atl_rootsL hlt] at hcr
      obtain ⟨x, hx⟩ : ∃ x : K, gz ((fst : Int) + (i : Int)) = x := ⟨_, rfl⟩
      rw [hx] at hcr
      have HXX := As.mk hx
      have f1 : IntKind.i64.wrap ((i : Int) + 1 + 1) = (i : Int) + 1 + 1 := in64 (by omega) (by omega)
      clear hx
      go_wp2
      refine wp_region_chain (fun w' => Below wr.heap.size wr w') [9, 10, 14, 15] (by kernel_rfl) (by kernel_rfl) (by kernel_rfl) (by kernel_rfl) rfl (by kernel_rfl) (bl_drew (bl_refl _)) ?_
      iterate 9 (apply OblH.val rfl; · (intro w' hS; have q0 := cell_below hS k0; have q1 := cell_below hS k1; have q2 := cell_below hS k2; have q3 := cell_below hS hcr; go_simp; rfl))
      iterate 2 (refine OblH.skip rfl ?_)
      iterate 3 (apply OblH.val rfl; · (intro w' hS; go_simp; rfl))
      iterate 2 (refine OblH.skip rfl ?_)
      refine OblH.done (Chain.step rfl ?_)
      go_wp2_with fail
      refine (minus40K (K := K) x _).mono ?_
      rintro e w1 ⟨rfl, hb⟩
      have HB1 : As (Below wr.heap.size wr w1) := ⟨bl_then hb (bl_drew (bl_refl _))⟩
      clear hb
      go_wp2
      refine onlyN.next rfl HB1.out (Chain.step rfl ?_)
      go_wp2
      refine onlyN.next rfl (bl_alloc HB1.out) (Chain.step rfl ?_)
      have hpr := product7K (K := K) (genL K fst i) [0 - x, 1] (some ⟨L, 0, none⟩) (some ⟨w1.heap.size, 0, none⟩) (i + 1) 2 (i + 1) 2 (i + 2) (i + 2) (w1.alloc (.cells #[.int .i64 (val (0 - x)), .int .i64 1] 3)) ((hO.out.below HB1.out).below (bl_alloc (bl_refl _))).rd rd_two1 (genL_length _ _) rfl (by omega) (by omega) (by omega) (by omega) (by omega) (by omega)
      have hG : mulL (genL K fst i) [0 - x, 1] = genL K fst (i + 1) := by rw [← HXX.out]; rfl
      rw [List.take_of_length_le (by rw [mulL_length, genL_length]; simp), hG, show ((i + 2 : Nat) : Int) = (i : Int) + 1 + 1 by omega] at hpr
      clear hG
      have HPR := As.mk hpr
      clear hpr
      go_wp2_with fail
      refine HPR.out.mono ?_
      rintro e w2 ⟨L2, rfl, hown, hb2⟩
      have HB2 : As (Below wr.heap.size wr w2) := ⟨bl_then hb2 (bl_alloc HB1.out)⟩
      have HOW : As (OwnK w2 w.heap.size (.slice (some ⟨L2, 0, none⟩) (i + 2) (i + 2)) (genL K fst (i + 1))) := ⟨hown.out.mono (by have := HBq.out.size; have := hB.out.size; have := HB1.out.size; simp; omega)⟩
      clear hown hb2 HPR k0 k1 k2 hcr
      go_wp2
      refine onlyN.next rfl HB2.out (Chain.last rfl ?_)
      go_wp2
      refine onlyN.last rfl ?_
      go_wp2
      go_roundw
      case rel => exact ⟨i + 1, L2, rfl, by go_num, by omega, HOW, ⟨bl_then HB2.out hB.out⟩⟩
      case measure => simp [intOf]; omega
    · have hd : decide (i < q + 1) = false := decide_eq_false hlt
      obtain rfl : i = q + 1 := by omega
      go_wp2
      go_ret
      exact ⟨L, rfl, hO, bl_then hB.out HBq.out⟩

end
end Go.Proofs.Ythcjmmicjbfpgaa.Rs

namespace Go.Proofs.Ythcjmmicjbfpgaa.Rs
open Go.RowKit Go.Proofs.Ythcjmmicjbfpgaa.Alg
open GF
set_option linter.unusedSimpArgs false

set_option maxRecDepth 100000 in
set_option maxHeartbeats 800000 in
theorem generator7_bad (c s p par fst : Int) (hs : s < 9223372036854775808) (w : World) (h : vldB c s p par fst [] = false) :
    Calls Try.prog 13 #[.agg #[.int .i64 c, .int .i64 s, .int .i64 p, .int .i64 par, .int .i64 fst]] w fun e w' => e = .returned (.tuple #[.slice none 0 0, .int .i64 1]) ∧ Below w.heap.size w w' := by
  have HV := As.mk (valid7_any c s p par fst hs)
  rw [vldB_eq] at h
  have h' : ciB c s p par fst = false := by simpa [anyOut] using h
  rw [h'] at HV
  clear h h' hs
  go_enter Try.func13, Try.ntmps13
  go_wp2_with fail
  refine (HV.out _).mono ?_
  rintro e w1 ⟨rfl, hb⟩
  go_wp2
  go_ret2
  exact ⟨rfl, bl_then hb (bl_alloc (bl_refl _))⟩

set_option maxRecDepth 100000 in
set_option maxHeartbeats 800000 in
theorem encode7_bad (c s p par fst : Int) (hs : s < 9223372036854775808) (A : Option Addr) (cp : Nat) (xs : List Int) (w : World) (hr : RdI w A xs) (hl : xs.length ≤ 100000) (h : vldB c s p par fst xs = false) :
    Calls Try.prog 17 #[.agg #[.int .i64 c, .int .i64 s, .int .i64 p, .int .i64 par, .int .i64 fst], .slice A xs.length cp] w fun e w' => e = .returned (.tuple #[.slice none 0 0, .int .i64 1]) ∧ Below w.heap.size w w' := by
  have HV := As.mk (valid7_any c s p par fst hs)
  have HE := As.mk (fun w' hr' => elements7_any c s p A cp xs w' hr' (by omega))
  have HR := As.mk hr
  rw [vldB_eq] at h
  have HX := As.mk (Box5.new (w := w) (x := c) (y := s) (z := p) (u := par) (v := fst) (t := 25))
  clear hs hr
  cases hc : ciB c s p par fst with
  | false =>
    rw [hc] at HV
    clear h hc
    go_enter Try.func17, Try.ntmps17
    go_wp2_with fail
    refine (HV.out _).mono ?_
    rintro e w1 ⟨rfl, hb⟩
    go_wp2
    go_ret2
    exact ⟨rfl, bl_then hb (bl_alloc (bl_refl _))⟩
  | true =>
    rw [hc] at HV h
    rw [Bool.true_and] at h
    rw [h] at HE
    clear h hc
    go_enter Try.func17, Try.ntmps17
    go_wp2_with fail
    refine (HV.out _).mono ?_
    rintro e w1 ⟨rfl, hb⟩
    have hx := HX.out.below hb
    have c0 := hx.c0
    have c1 := hx.c1
    have c2 := hx.c2
    clear hx
    go_wp2_with fail
    refine (HE.out _ ((HR.out.below (bl_alloc (bl_refl _))).below hb)).mono ?_
    rintro e w2 ⟨rfl, hb2⟩
    go_wp2
    go_ret2
    exact ⟨rfl, bl_then hb2 (bl_then hb (bl_alloc (bl_refl _)))⟩

set_option maxRecDepth 100000 in
set_option maxHeartbeats 1600000 in
theorem encode7_length (c s p par fst : Int) (hs1 : 2 ≤ s) (hs2 : s ≤ 4096) (hp1 : 1 ≤ par) (hp2 : par ≤ s - 2) (A : Option Addr) (cp : Nat) (xs : List Int) (w : World) (hr : RdI w A xs) (hl : xs.length ≤ 100000) (h : vldB c s p par fst xs = true) (hf : (xs.length : Int) < 1 ∨ s - 1 - par < (xs.length : Int)) :
    Calls Try.prog 17 #[.agg #[.int .i64 c, .int .i64 s, .int .i64 p, .int .i64 par, .int .i64 fst], .slice A xs.length cp] w fun e w' => e = .returned (.tuple #[.slice none 0 0, .int .i64 7]) ∧ Below w.heap.size w w' := by
  have HV := As.mk (valid7_any c s p par fst (by omega))
  have HE := As.mk (fun w' hr' => elements7_any c s p A cp xs w' hr' (by omega))
  have HR := As.mk hr
  rw [vldB_eq, Bool.and_eq_true] at h
  rw [h.1] at HV
  rw [h.2] at HE
  have HX := As.mk (Box5.new (w := w) (x := c) (y := s) (z := p) (u := par) (v := fst) (t := 25))
  obtain ⟨n, hn⟩ : ∃ n, xs.length = n := ⟨_, rfl⟩
  rw [hn] at hf hl HE ⊢
  have e1 : IntKind.i64.wrap (s - 1) = s - 1 := in64 (by omega) (by omega)
  have e2 : IntKind.i64.wrap (s - 1 - par) = s - 1 - par := in64 (by omega) (by omega)
  clear h hr hn
  by_cases h1 : (n : Int) < 1
  · have g1 : decide ((n : Int) < 1) = true := decide_eq_true h1
    clear hf
    go_enter Try.func17, Try.ntmps17
    go_wp2_with fail
    refine (HV.out _).mono ?_
    rintro e w1 ⟨rfl, hb⟩
    have hx := HX.out.below hb
    have c0 := hx.c0
    have c1 := hx.c1
    have c2 := hx.c2
    clear hx
    go_wp2_with fail
    refine (HE.out _ ((HR.out.below (bl_alloc (bl_refl _))).below hb)).mono ?_
    rintro e w2 ⟨rfl, hb2⟩
    go_wp2
    go_ret2
    exact ⟨rfl, bl_then hb2 (bl_then hb (bl_alloc (bl_refl _)))⟩
  · have g1 : decide ((n : Int) < 1) = false := decide_eq_false h1
    have g2 : decide (s - 1 - par < (n : Int)) = true := decide_eq_true (by omega)
    clear hf
    go_enter Try.func17, Try.ntmps17
    go_wp2_with fail
    refine (HV.out _).mono ?_
    rintro e w1 ⟨rfl, hb⟩
    have hx := HX.out.below hb
    have c0 := hx.c0
    have c1 := hx.c1
    have c2 := hx.c2
    go_wp2_with fail
    refine (HE.out _ ((HR.out.below (bl_alloc (bl_refl _))).below hb)).mono ?_
    rintro e w2 ⟨rfl, hb2⟩
    have hx2 := hx.below hb2
    have d1 := hx2.c1
    have d3 := hx2.c3
    clear hx hx2 c0 c1 c2
    go_wp2
    go_ret2
    exact ⟨rfl, bl_then hb2 (bl_then hb (bl_alloc (bl_refl _)))⟩

set_option maxRecDepth 100000 in
set_option maxHeartbeats 800000 in
theorem syndromes7_bad (c s p par fst : Int) (hs : s < 9223372036854775808) (A : Option Addr) (cp : Nat) (xs : List Int) (w : World) (hr : RdI w A xs) (hl : xs.length ≤ 100000) (h : vldB c s p par fst xs = false) :
    Calls Try.prog 19 #[.agg #[.int .i64 c, .int .i64 s, .int .i64 p, .int .i64 par, .int .i64 fst], .slice A xs.length cp] w fun e w' => e = .returned (.tuple #[.slice none 0 0, .int .i64 1]) ∧ Below w.heap.size w w' := by
  have HV := As.mk (valid7_any c s p par fst hs)
  have HE := As.mk (fun w' hr' => elements7_any c s p A cp xs w' hr' (by omega))
  have HR := As.mk hr
  rw [vldB_eq] at h
  have HX := As.mk (Box5.new (w := w) (x := c) (y := s) (z := p) (u := par) (v := fst) (t := 25))
  clear hs hr
  cases hc : ciB c s p par fst with
  | false =>
    rw [hc] at HV
    clear h hc
    go_enter Try.func19, Try.ntmps19
    go_wp2_with fail
    refine (HV.out _).mono ?_
    rintro e w1 ⟨rfl, hb⟩
    go_wp2
    go_ret2
    exact ⟨rfl, bl_then hb (bl_alloc (bl_refl _))⟩
  | true =>
    rw [hc] at HV h
    rw [Bool.true_and] at h
    rw [h] at HE
    clear h hc
    go_enter Try.func19, Try.ntmps19
    go_wp2_with fail
    refine (HV.out _).mono ?_
    rintro e w1 ⟨rfl, hb⟩
    have hx := HX.out.below hb
    have c0 := hx.c0
    have c1 := hx.c1
    have c2 := hx.c2
    clear hx
    go_wp2_with fail
    refine (HE.out _ ((HR.out.below (bl_alloc (bl_refl _))).below hb)).mono ?_
    rintro e w2 ⟨rfl, hb2⟩
    go_wp2
    go_ret2
    exact ⟨rfl, bl_then hb2 (bl_then hb (bl_alloc (bl_refl _)))⟩

set_option maxRecDepth 100000 in
set_option maxHeartbeats 1600000 in
theorem syndromes7_length (c s p par fst : Int) (hs1 : 2 ≤ s) (hs2 : s ≤ 4096) (A : Option Addr) (cp : Nat) (xs : List Int) (w : World) (hr : RdI w A xs) (hl : xs.length ≤ 100000) (h : vldB c s p par fst xs = true) (hf : (decide (par < (xs.length : Int)) && decide ((xs.length : Int) < s)) = false) :
    Calls Try.prog 19 #[.agg #[.int .i64 c, .int .i64 s, .int .i64 p, .int .i64 par, .int .i64 fst], .slice A xs.length cp] w fun e w' => e = .returned (.tuple #[.slice none 0 0, .int .i64 7]) ∧ Below w.heap.size w w' := by
  have HV := As.mk (valid7_any c s p par fst (by omega))
  have HE := As.mk (fun w' hr' => elements7_any c s p A cp xs w' hr' (by omega))
  have HR := As.mk hr
  rw [vldB_eq, Bool.and_eq_true] at h
  rw [h.1] at HV
  rw [h.2] at HE
  have HX := As.mk (Box5.new (w := w) (x := c) (y := s) (z := p) (u := par) (v := fst) (t := 25))
  obtain ⟨n, hn⟩ : ∃ n, xs.length = n := ⟨_, rfl⟩
  rw [hn] at hf hl HE ⊢
  have e1 : IntKind.i64.wrap (s - 1) = s - 1 := in64 (by omega) (by omega)
  clear h hr hn
  by_cases h1 : (n : Int) ≤ par
  · have g1 : decide ((n : Int) ≤ par) = true := decide_eq_true h1
    clear hf
    go_enter Try.func19, Try.ntmps19
    go_wp2_with fail
    refine (HV.out _).mono ?_
    rintro e w1 ⟨rfl, hb⟩
    have hx := HX.out.below hb
    have c0 := hx.c0
    have c1 := hx.c1
    have c2 := hx.c2
    go_wp2_with fail
    refine (HE.out _ ((HR.out.below (bl_alloc (bl_refl _))).below hb)).mono ?_
    rintro e w2 ⟨rfl, hb2⟩
    have d3 := (hx.below hb2).c3
    clear hx c0 c1 c2
    go_wp2
    go_ret2
    exact ⟨rfl, bl_then hb2 (bl_then hb (bl_alloc (bl_refl _)))⟩
  · have g1 : decide ((n : Int) ≤ par) = false := decide_eq_false h1
    have g2 : decide (s - 1 < (n : Int)) = true := decide_eq_true (by
      rw [decide_eq_true (show par < (n : Int) by omega), Bool.true_and, decide_eq_false_iff_not] at hf
      omega)
    clear hf
    go_enter Try.func19, Try.ntmps19
    go_wp2_with fail
    refine (HV.out _).mono ?_
    rintro e w1 ⟨rfl, hb⟩
    have hx := HX.out.below hb
    have c0 := hx.c0
    have c1 := hx.c1
    have c2 := hx.c2
    go_wp2_with fail
    refine (HE.out _ ((HR.out.below (bl_alloc (bl_refl _))).below hb)).mono ?_
    rintro e w2 ⟨rfl, hb2⟩
    have hx2 := hx.below hb2
    have d1 := hx2.c1
    have d3 := hx2.c3
    clear hx hx2 c0 c1 c2
    go_wp2
    go_ret2
    exact ⟨rfl, bl_then hb2 (bl_then hb (bl_alloc (bl_refl _)))⟩

section
variable {K : Type} [GF K]
set_option maxRecDepth 100000 in
set_option maxHeartbeats 800000 in
theorem generator7C (par fst : Nat) (h1 : 1 ≤ par) (h2 : par ≤ sz K - 2) (h3 : fst ≤ sz K - 2) (w : World) :
    Calls Try.prog 13 #[.agg #[.int .i64 (ch K), .int .i64 (sz K), .int .i64 (po K), .int .i64 par, .int .i64 fst]] w fun e w' =>
      ∃ v, e = .returned (.tuple #[v, .int .i64 0]) ∧ As (OwnK w' w.heap.size v (genL K fst par)) ∧ Below w.heap.size w w' := by
  have hs2 := sz_max (K := K)
  go_enter Try.func13, Try.ntmps13
  have HX := As.mk (Box5.new (w := w) (x := ch K) (y := sz K) (z := po K) (u := par) (v := fst) (t := 25))
  go_wp2_with fail
  refine (valid7K (K := K) h1 h2 h3 _).mono ?_
  rintro e w1 ⟨rfl, hb⟩
  have hx := HX.out.below hb
  have c0 := hx.c0
  have c1 := hx.c1
  have c2 := hx.c2
  have c3 := hx.c3
  have c4 := hx.c4
  clear hx
  go_wp2_with fail
  refine (generator7K (K := K) par fst h1 (by omega) (by omega) _).mono ?_
  rintro e w2 ⟨L, rfl, hO, hb2⟩
  go_wp2
  go_ret2
  exact ⟨_, rfl, ⟨hO.out.mono (by have := hb.size; simp at this; omega)⟩, bl_then hb2 (bl_then hb (bl_alloc (bl_refl _)))⟩

set_option maxRecDepth 100000 in
set_option maxHeartbeats 800000 in
theorem syndromes7C (par fst : Nat) (h1 : 1 ≤ par) (h2 : par ≤ sz K - 2) (h3 : fst ≤ sz K - 2) (A : Option Addr) (cp : Nat) (xs : List K) (hx1 : par < xs.length) (hx2 : xs.length < sz K) (w : World) (hr : RdK w A xs) :
    Calls Try.prog 19 #[.agg #[.int .i64 (ch K), .int .i64 (sz K), .int .i64 (po K), .int .i64 par, .int .i64 fst], .slice A xs.length cp] w fun e w' =>
      ∃ v, e = .returned (.tuple #[v, .int .i64 0]) ∧ As (OwnK w' w.heap.size v (synL fst par xs)) ∧ Below w.heap.size w w' := by
  have hs2 := sz_max (K := K)
  obtain ⟨n, hn⟩ : ∃ n, xs.length = n := ⟨_, rfl⟩
  have HN := As.mk hn
  have HR := As.mk hr
  rw [hn] at hx1 hx2 ⊢
  have g1 : decide (n ≤ par) = false := decide_eq_false (by omega)
  have g2 : decide ((sz K : Int) - 1 < (n : Int)) = false := decide_eq_false (by omega)
  have e1 : IntKind.i64.wrap ((sz K : Int) - 1) = (sz K : Int) - 1 := in64 (by omega) (by omega)
  clear hn hr
  go_enter Try.func19, Try.ntmps19
  have HX := As.mk (Box5.new (w := w) (x := ch K) (y := sz K) (z := po K) (u := par) (v := fst) (t := 25))
  go_wp2_with fail
  refine (valid7K (K := K) h1 h2 h3 _).mono ?_
  rintro e w1 ⟨rfl, hb⟩
  have hx := HX.out.below hb
  have c0 := hx.c0
  have c1 := hx.c1
  have c2 := hx.c2
  go_wp2_with fail
  refine (elements7K (K := K) A n cp xs _ ((HR.out.below (bl_alloc (bl_refl _))).below hb) HN.out (by omega)).mono ?_
  rintro e w2 ⟨rfl, hb2⟩
  have hx2 := hx.below hb2
  have d0 := hx2.c0
  have d1 := hx2.c1
  have d2 := hx2.c2
  have d3 := hx2.c3
  have d4 := hx2.c4
  clear hx hx2 c0 c1 c2
  go_wp2_with fail
  refine (syndromes7K (K := K) par fst h1 (by omega) (by omega) A cp n xs HN.out (by omega) _ (((HR.out.below (bl_alloc (bl_refl _))).below hb).below hb2)).mono ?_
  rintro e w3 ⟨v, rfl, hO, hb3⟩
  go_wp2
  go_ret2
  exact ⟨_, rfl, ⟨hO.out.mono (by have h1 := hb.size; have h2 := hb2.size; simp at h1; omega)⟩, bl_then hb3 (bl_then hb2 (bl_then hb (bl_alloc (bl_refl _))))⟩
end
end Go.Proofs.Ythcjmmicjbfpgaa.Rs
