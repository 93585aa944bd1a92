/-
The walk of one step of the algorithm of Berlekamp and Massey.
-/
import Derived.Test.YthcjmmicjbfpgaaJEn
import Derived.Test.YthcjmmicjbfpgaaJAa
import Derived.Test.YthcjmmicjbfpgaaJSy
import Derived.Laws.IdiomCopy
namespace Go.Proofs.Ythcjmmicjbfpgaa.Rs
open Go.RowKit Go.Proofs.Ythcjmmicjbfpgaa.Alg
open GF
set_option linter.unusedSimpArgs false

/-- the block of a state -/
def stO (g : Nat) (As : Option Addr) (ns cs : Nat) (Ac : Option Addr) (nc cc : Nat) (Ab : Option Addr) (nb cb l m last : Nat) : Obj :=
  .cells #[.pointer (some ⟨g, 0, none⟩), .slice As ns cs, .slice Ac nc cc, .slice Ab nb cb, .int .i64 l, .int .i64 m, .int .i64 last] 91 (0, 0)
section
variable {K : Type} [GF K]
/-- elements read, and none of them in a block -/
def RdN (w : World) (Z : Nat) (A : Option Addr) (xs : List K) : Prop := ∀ i, i < xs.length → ∃ b o, A = some ⟨b, o, none⟩ ∧ b ≠ Z ∧ w.cell? ⟨b, o + i, none⟩ = some (.int .i64 (val (atl xs i)))
theorem RdN.rd {w : World} {Z : Nat} {A : Option Addr} {xs : List K} (h : RdN w Z A xs) : RdK w A xs := fun i hi => by
  obtain ⟨b, o, e, _, hc⟩ := h i hi
  exact ⟨b, o, e, hc⟩
theorem RdN.below {w w1 : World} {Z : Nat} {A : Option Addr} {xs : List K} (h : RdN w Z A xs) (hb : Below w.heap.size w w1) : RdN w1 Z A xs := fun i hi => by
  obtain ⟨b, o, e, hne, hc⟩ := h i hi
  exact ⟨b, o, e, hne, cell_below hb hc⟩
theorem RdN.set {w : World} {Z : Nat} {A : Option Addr} {xs : List K} (h : RdN w Z A xs) (j : Nat) (u : Value) : RdN (w.setCell ⟨Z, j, none⟩ u) Z A xs := fun i hi => by
  obtain ⟨b, o, e, hne, hc⟩ := h i hi
  exact ⟨b, o, e, hne, (World.cell?_setCell_far _ _ _ _ (fun e => hne e.symm)).trans hc⟩

theorem st_m {w : World} {Z g : Nat} {As0 Ac Ab : Option Addr} {ns cs nc cc nb cb l m last : Nat} (h : w.heap[Z]? = some (stO g As0 ns cs Ac nc cc Ab nb cb l m last)) : (w.setCell ⟨Z, 5, none⟩ (.int .i64 ((m : Int) + 1))).heap[Z]? = some (stO g As0 ns cs Ac nc cc Ab nb cb l (m + 1) last) := blk_set h 5 _
theorem st_c {w : World} {Z g : Nat} {As0 Ac Ab A : Option Addr} {ns cs nc cc nb cb l m last n c : Nat} (h : w.heap[Z]? = some (stO g As0 ns cs Ac nc cc Ab nb cb l m last)) : (w.setCell ⟨Z, 2, none⟩ (.slice A n c)).heap[Z]? = some (stO g As0 ns cs A n c Ab nb cb l m last) := blk_set h 2 _
theorem st_four {w : World} {Z g : Nat} {As0 Ac Ab A : Option Addr} {ns cs nc cc nb cb l m last n c l' x : Nat} (h : w.heap[Z]? = some (stO g As0 ns cs Ac nc cc Ab nb cb l m last)) : ((((w.setCell ⟨Z, 3, none⟩ (.slice A n c)).setCell ⟨Z, 4, none⟩ (.int .i64 l')).setCell ⟨Z, 6, none⟩ (.int .i64 x)).setCell ⟨Z, 5, none⟩ (.int .i64 1)).heap[Z]? = some (stO g As0 ns cs Ac nc cc A n c l' 1 x) :=
  blk_set (blk_set (blk_set (blk_set h 3 _) 4 _) 6 _) 5 _

theorem st_bl2 {w wr : World} {Z i j : Nat} {a b : Value} (h : Below Z w wr) : Below Z w ((wr.setCell ⟨Z, i, none⟩ a).setCell ⟨Z, j, none⟩ b) := (h.setCell (p := ⟨Z, i, none⟩) (Nat.le_refl Z) a).setCell (p := ⟨Z, j, none⟩) (Nat.le_refl Z) b
theorem st_bl5 {w wr : World} {Z i j k l m : Nat} {a b c d e : Value} (h : Below Z w wr) : Below Z w (((((wr.setCell ⟨Z, i, none⟩ a).setCell ⟨Z, j, none⟩ b).setCell ⟨Z, k, none⟩ c).setCell ⟨Z, l, none⟩ d).setCell ⟨Z, m, none⟩ e).drew :=
  ((st_bl2 (st_bl2 h)).setCell (p := ⟨Z, m, none⟩) (Nat.le_refl Z) e).drew
theorem RdN.drew {K : Type} [GF K] {w : World} {Z : Nat} {A : Option Addr} {xs : List K} (h : RdN w Z A xs) : RdN w.drew Z A xs := fun q hq => h q hq
theorem RdN.five {K : Type} [GF K] {w : World} {Z i j k l m : Nat} {a b c d e : Value} {A : Option Addr} {xs : List K} (h : RdN w Z A xs) : RdN (((((w.setCell ⟨Z, i, none⟩ a).setCell ⟨Z, j, none⟩ b).setCell ⟨Z, k, none⟩ c).setCell ⟨Z, l, none⟩ d).setCell ⟨Z, m, none⟩ e).drew Z A xs :=
  (((((h.set i a).set j b).set k c).set l d).set m e).drew
/-- a row of zeros into which a list is copied -/
theorem copy_row {w : World} {B g M : Nat} {c : List K} {A : Option Addr} {cc : Nat} (hown : OwnK w B (.slice (some ⟨g, 0, none⟩) M M) (List.replicate M (0 : K))) (hc : RdK w A c) (h0 : 1 ≤ c.length) (hl : c.length ≤ M) (ty : TypeId) :
    ∃ w', (Builtin.copy_ #[30, 30] ty #[.slice (some ⟨g, 0, none⟩) M M, .slice A c.length cc]).run Try.prog w = .ok (goInt c.length) w' ∧ OwnK w' B (.slice (some ⟨g, 0, none⟩) M M) ((List.range M).map (atl c)) ∧ Below B w w' := by
  obtain ⟨b, o, rfl, _⟩ := hc 0 h0
  have hi : (Try.prog.info? 3).map (·.size) = some 1 := by kernel_rfl
  have hz : (List.replicate M (0 : K)).length = M := by simp
  have hrun := run_copy_cells (P := Try.prog) w 30 30 ty 3 g 0 M M ⟨b, o, none⟩ c.length cc (c.map enc) Try.underlying30 hi (by rw [List.length_map]; exact (Nat.min_eq_left hl).symm)
    (fun j v hj => by
      have hlt : j < c.length := by have := (List.getElem?_eq_some_iff.mp hj).1; simpa using this
      obtain ⟨b', o', e, hcell⟩ := hc j hlt
      cases e
      rw [Addr.add_lit, hcell]
      rw [List.getElem?_map, List.getElem?_eq_getElem hlt] at hj
      cases hj
      have : atl c j = c[j] := by unfold atl; rw [List.getD_eq_getElem?_getD, List.getElem?_eq_getElem hlt]; rfl
      rw [this]; rfl)
    (fun j hj => by rw [Nat.zero_add, (hown.cell hz (j := j) (by simp at hj; omega)).1]; rfl)
    (fun j hj => by rw [Nat.zero_add]; exact (hown.cell hz (j := j) (by simp at hj; omega)).2)
    (fun v hv => by
      obtain ⟨a, _, rfl⟩ := List.mem_map.mp hv
      rfl)
  rw [List.length_map] at hrun
  refine ⟨_, hrun, ?_, setCells_below (Below.refl B w) hown.lo⟩
  unfold OwnK at hown ⊢
  rw [hz] at hown
  have h2 := own_setCells (c.map enc) w _ 0 hown
  have e : setL ((List.replicate M (0 : K)).map (fun a => Value.int .i64 (val a))) 0 (c.map enc) = ((List.range M).map (atl c)).map (fun a => Value.int .i64 (val a)) := by
    apply List.ext_getElem?
    intro i
    by_cases hi : i < M
    · rw [setL_get _ _ _ _ (by simp; exact hi)]
      by_cases h3 : i < c.length
      · rw [if_pos (by simp; exact h3), Nat.sub_zero, List.getElem?_map, List.getElem?_eq_getElem h3, List.getElem?_map, List.getElem?_map, List.getElem?_range hi]
        have : atl c i = c[i] := by unfold atl; rw [List.getD_eq_getElem?_getD, List.getElem?_eq_getElem h3]; rfl
        simp only [Option.map_some]
        rw [this]; rfl
      · rw [if_neg (by simp; omega), List.getElem?_map, List.getElem?_replicate, if_pos hi, List.getElem?_map, List.getElem?_map, List.getElem?_range hi]
        simp only [Option.map_some]
        rw [atl_out (by omega)]
    · rw [List.getElem?_eq_none (by rw [setL_length]; simp; omega), List.getElem?_eq_none (by simp; omega)]
  rw [e] at h2
  rw [List.length_map, List.length_range]
  exact h2

theorem nextRdN {w : World} {B L M Z : Nat} {ys : List K} (h : OwnK w B (.slice (some ⟨L, 0, none⟩) M M) ys) (hl : ys.length = M) (hZ : L ≠ Z) : RdN w Z (some ⟨L, 0, none⟩) ys := fun i hi => ⟨L, 0, rfl, hZ, by rw [Nat.zero_add]; exact (h.cell hl (by omega)).1⟩

set_option maxRecDepth 100000 in
set_option maxHeartbeats 12800000 in
theorem stepK (Z g : Nat) (s : List K) (n : Nat) (z : BM K) (hz : BMI s n z) (hn : n < s.length) (hs : s.length ≤ 5000) (As0 Ac Ab : Option Addr) (cs cc cb : Nat) (w : World) (hA : Arith K w g)
    (hst : w.heap[Z]? = some (stO g As0 s.length cs Ac z.c.length cc Ab z.b.length cb z.l z.m (val z.last))) (hrs : RdK w As0 s) (hrc : RdN w Z Ac z.c) (hrb : RdN w Z Ab z.b) (hcc : z.c.length ≤ cc) (hcb : z.b.length ≤ cb) :
    Calls Try.prog 71 #[.pointer (some ⟨Z, 0, none⟩), .int .i64 n] w fun e w' => e = .returned (.tuple #[]) ∧ ∃ Ac' Ab' cc' cb', As (w'.heap[Z]? = some (stO g As0 s.length cs Ac' (stepB s n z).c.length cc' Ab' (stepB s n z).b.length cb' (stepB s n z).l (stepB s n z).m (val (stepB s n z).last))) ∧
      As (RdN w' Z Ac' (stepB s n z).c) ∧ As (RdN w' Z Ab' (stepB s n z).b) ∧ As ((stepB s n z).c.length ≤ cc' ∧ (stepB s n z).b.length ≤ cb') ∧ Below Z w w' := by
  have HA := As.mk hA
  have HRS := As.mk hrs
  have HRC := As.mk hrc
  have HRB := As.mk hrb
  have HZ := As.mk hz
  have HST := As.mk hst
  have HCC := As.mk hcc
  have HCB := As.mk hcb
  have hln := hz.inv.ln
  have hlc := hz.lc
  have hlb := hz.lb
  clear hA hrs hrc hrb hz hcc hcb
  unfold stO at hst
  have c0 := blk_cell hst 0
  have c1 := blk_cell hst 1
  have c2 := blk_cell hst 2
  have c3 := blk_cell hst 3
  have c4 := blk_cell hst 4
  have c5 := blk_cell hst 5
  have c6 := blk_cell hst 6
  simp only [List.getElem?_toArray, List.getElem?_cons_zero, List.getElem?_cons_succ] at c0 c1 c2 c3 c4 c5 c6
  have hZ : Z < w.heap.size := blk_lt hst
  obtain ⟨N, hN⟩ : ∃ N, s.length = N := ⟨_, rfl⟩
  have HN := As.mk hN
  rw [hN] at hn hs c1
  obtain ⟨R, hR⟩ : ∃ R : BM K, stepB s n z = R := ⟨_, rfl⟩
  have HR := As.mk hR
  rw [hR]
  obtain ⟨nc, hnc⟩ : ∃ nc, z.c.length = nc := ⟨_, rfl⟩
  have HNC := As.mk hnc
  rw [hnc] at c2 hlc
  obtain ⟨nb, hnb⟩ : ∃ nb, z.b.length = nb := ⟨_, rfl⟩
  have HNB := As.mk hnb
  rw [hnb] at c3 hlb
  obtain ⟨l, hl⟩ : ∃ l, z.l = l := ⟨_, rfl⟩
  have HL := As.mk hl
  rw [hl] at c4 hln
  obtain ⟨m, hm⟩ : ∃ m, z.m = m := ⟨_, rfl⟩
  have HM := As.mk hm
  rw [hm] at c5 hlb
  clear hst hN hR hnc hnb hl hm
  go_enter Try.func71, Try.ntmps71
  go_wp2
  go_loopw [4, 5] (fun d k wr => ∃ i : Nat, k = .int .i64 i ∧ i ≤ l + 1 ∧ d = .int .i64 (val (S i (fun t => atl z.c t * atl s (n - t)))) ∧ As (Below w.heap.size w wr)) (fun _ k _ => l + 1 - (intOf k).toNat)
  case atStart => exact ⟨0, rfl, by omega, by simp only [S]; rw [val_zero]; rfl, ⟨bl_refl _⟩⟩
  case round =>
    obtain ⟨i, rfl, hi, rfl, hB⟩ := hrel
    have k0 := cell_below hB.out c0
    have k1 := cell_below hB.out c1
    have k2 := cell_below hB.out c2
    have k4 := cell_below hB.out c4
    by_cases hlt : i ≤ l
    · have g1 : decide (i ≤ l) = true := decide_eq_true hlt
      have g2 : decide (i ≤ n) = true := decide_eq_true (by omega)
      obtain ⟨r, hr⟩ : ∃ r, n - i = r := ⟨_, rfl⟩
      have HRR := As.mk hr
      have e1 : (n : Int) - (i : Int) = (r : Int) := by omega
      have e2 : IntKind.i64.wrap (r : Int) = (r : Int) := in64 (by omega) (by omega)
      have e3 : r < N := by omega
      obtain ⟨b, o, hAs, hcs⟩ := (HRS.out.below hB.out) r (by have := HN.out; omega)
      subst hAs
      obtain ⟨d, hd⟩ : ∃ d, S i (fun t => atl z.c t * atl s (n - t)) = d := ⟨_, rfl⟩
      have HD := As.mk hd
      rw [hd]
      clear hr hd
      go_wp2
      refine wp_region_obl (fun w' => Below wr.heap.size wr w') (by kernel_rfl) (by kernel_rfl) (by kernel_rfl) (bl_drew (bl_refl _)) ?_
      iterate 14 (apply Obl.val; · (intro w' hS; have q0 := cell_below hS k0; have q1 := cell_below hS k1; have q2 := cell_below hS k2; go_simp; rfl))
      apply Obl.call
      · intro w' hS
        go_simp
        refine ⟨_, _, ⟨rfl, rfl⟩, ?_⟩
        have hat := atK (K := K) Ac z.c cc i w' ((HRC.out.rd.below hB.out).below hS)
        rw [HNC.out] at hat
        refine hat.mono ?_
        rintro e w1 ⟨rfl, rfl⟩
        exact ⟨rfl, hS⟩
      iterate 9 (apply Obl.val; · (intro w' hS; have q1 := cell_below hS k1; have q2 := cell_below hS hcs; go_simp; rfl))
      apply Obl.call
      · intro w' hS
        go_simp
        refine ⟨_, _, ⟨rfl, rfl⟩, ?_⟩
        refine (mulAK (K := K) g (atl z.c i) (atl s r) _ ((HA.out.below hB.out).below hS)).mono ?_
        rintro e w1 ⟨rfl, hb⟩
        exact ⟨rfl, bl_then hb hS⟩
      apply Obl.call
      · intro w' hS
        go_simp
        refine ⟨_, _, ⟨rfl, rfl⟩, ?_⟩
        refine (addK (K := K) g d (atl z.c i * atl s r) _ ((HA.out.below hB.out).below hS)).mono ?_
        rintro e w1 ⟨rfl, hb⟩
        exact ⟨rfl, bl_then hb hS⟩
      apply Last.val
      · intro w' hS
        go_simp
        rfl
      intro w' hS
      have HSS := As.mk hS
      clear hS
      go_simp
      go_wp2
      go_roundw
      case rel => exact ⟨i + 1, by go_num, by omega, by simp only [S]; rw [HD.out, HRR.out], ⟨bl_then HSS.out hB.out⟩⟩
      case measure => simp [intOf]; omega
    · have g1 : decide (i ≤ l) = false := decide_eq_false hlt
      have hil : i = l + 1 := by omega
      have HD : As (S i (fun t => atl z.c t * atl s (n - t)) = dis (atl z.c) z.l (atl s) n) := ⟨by rw [hil, ← HL.out]; rfl⟩
      rw [HD.out]
      obtain ⟨d, hd⟩ : ∃ d, dis (atl z.c) z.l (atl s) n = d := ⟨_, rfl⟩
      have HDD := As.mk hd
      rw [hd]
      clear hd hil HD
      by_cases hd0 : d = 0
      · have hv : val d = 0 := by rw [hd0, val_zero]
        rw [hv]
        have HR2 : As (R = ⟨z.c, z.b, z.l, z.m + 1, z.last⟩) := ⟨by rw [← HR.out]; unfold stepB; rw [if_pos (by rw [HDD.out]; exact hd0)]⟩
        have k5 := cell_below hB.out c5
        have f5 := (keep_cf hB.out ⟨c5, blk_frozen HST.out 5⟩).2
        have e5 : IntKind.i64.wrap ((m : Int) + 1) = (m : Int) + 1 := in64 (by omega) (by omega)
        go_wp2
        refine bodyPost_ret (results_none rfl _ _ _) rfl ⟨rfl, Ac, Ab, cc, cb, ⟨?_⟩, ⟨?_⟩, ⟨?_⟩, ⟨?_⟩, ?_⟩
        · rw [HR2.out, ← HM.out]; exact st_m (blk_below HST.out hB.out)
        · rw [HR2.out]; exact (HRC.out.below hB.out).set _ _
        · rw [HR2.out]; exact (HRB.out.below hB.out).set _ _
        · rw [HR2.out]; exact ⟨HCC.out, HCB.out⟩
        · exact (show Below Z w wr from hB.out.mono (Nat.le_of_lt hZ)).setCell (p := ⟨Z, 5, none⟩) (Nat.le_refl Z) _
      · have hv : val d ≠ 0 := fun h => hd0 (val_eq_zero.mp h)
        obtain ⟨u, hu⟩ : ∃ u, val d = u := ⟨_, rfl⟩
        have HU := As.mk hu
        rw [hu] at hv ⊢
        have g3 : ((u : Int) == 0) = false := beq_eq_false_iff_ne.mpr (by omega)
        have k6 := cell_below hB.out c6
        obtain ⟨x, hx⟩ : ∃ x, val z.last = x := ⟨_, rfl⟩
        have HXX := As.mk hx
        rw [hx] at k6
        clear hu hx hv
        obtain ⟨dk, hdk⟩ : ∃ dk : K, d * Fld.inv z.last = dk := ⟨_, rfl⟩
        have HDK := As.mk hdk
        clear hdk
        go_wp2
        refine wp_region_obl (fun w' => Below wr.heap.size wr w') (by kernel_rfl) (by kernel_rfl) (by kernel_rfl) (bl_drew (bl_refl _)) ?_
        iterate 9 (apply Obl.val; · (intro w' hS; have q0 := cell_below hS k0; have q1 := cell_below hS k6; go_simp; rfl))
        apply Obl.call
        · intro w' hS
          go_simp
          refine ⟨_, _, ⟨rfl, rfl⟩, ?_⟩
          have hdv := divAK (K := K) g d z.last HZ.out.inv.bne w' ((HA.out.below hB.out).below hS)
          rw [HU.out, HXX.out, HDK.out] at hdv
          refine hdv.mono ?_
          rintro e w1 ⟨rfl, hb⟩
          exact ⟨rfl, bl_then hb hS⟩
        apply Last.val
        · intro w' hS
          go_simp
          rfl
        intro w1 hS
        have HB1 : As (Below w.heap.size w w1) := ⟨bl_then hS hB.out⟩
        clear hS k0 k1 k2 k4 k6
        go_simp
        go_wp2
        have k2 := cell_below HB1.out c2
        have k3 := cell_below HB1.out c3
        have k5 := cell_below HB1.out c5
        obtain ⟨M, hM⟩ : ∃ M, max nc (m + nb) = M := ⟨_, rfl⟩
        have HMM := As.mk hM
        have hM2 : M ≤ 10000 := by rw [← hM]; omega
        have hmk := mk_ints (n := M) (by omega)
        have e6 : IntKind.i64.wrap ((m : Int) + (nb : Int)) = (m : Int) + (nb : Int) := in64 (by omega) (by omega)
        have e7 : max (nc : Int) ((m : Int) + (nb : Int)) = (M : Int) := by rw [← hM]; omega
        clear hM
        go_region_held3 (fun w' => w'.cell? ⟨Z, 2, none⟩ = some (.slice Ac nc cc) ∧ w'.cell? ⟨Z, 3, none⟩ = some (.slice Ab nb cb) ∧ w'.cell? ⟨Z, 5, none⟩ = some (.int .i64 m)) (go_keep) (fail)
        rename _ ∧ _ ∧ _ => hHeld
        clear hHeld k2 k3 k5 e6 hmk
        obtain ⟨L0, hL0⟩ : ∃ L0, w1.heap.size = L0 := ⟨_, rfl⟩
        have HL0 := As.mk hL0
        have hzo : OwnK (w1.alloc (.cells (zeros M) 3)).drew L0 (.slice (some ⟨L0, 0, none⟩) M M) (List.replicate M (0 : K)) := by
          have := zeros_own (W := w1) (B := L0) (n := M) (by omega) (by omega)
          rw [zeros_K (K := K), hL0] at this
          unfold OwnK
          rw [List.length_replicate]
          exact own_below this (bl_drew (bl_refl _))
        have HBd : As (Below w.heap.size w (w1.alloc (.cells (zeros M) 3)).drew) := ⟨bl_drew (bl_alloc HB1.out)⟩
        obtain ⟨w2, hrun, hown, hb2⟩ := copy_row (cc := cc) hzo (HRC.out.rd.below HBd.out) (by have := HZ.out.c1; exact this) (by have := HMM.out; have := HNC.out; omega) 3
        rw [HNC.out] at hrun
        have HOW := As.mk hown
        have HB2 : As (Below w.heap.size w w2) := ⟨HBd.out.trans (hb2.mono (by have := HB1.out.size; omega))⟩
        have k2 := cell_below HBd.out c2
        rw [hL0]
        have k3 := cell_below HB2.out c3
        clear hzo hown hb2 hL0
        go_wp2
        clear hrun k2 k3
        obtain ⟨wo, rfl⟩ : ∃ wo : World, wo = wr := ⟨_, rfl⟩
        go_loopw [96] (fun k wr => ∃ i : Nat, k = .int .i64 i ∧ i ≤ nb ∧ As (∃ ys, NxI z.c z.b dk z.m i ys ∧ OwnK wr L0 (.slice (some ⟨L0, 0, none⟩) M M) ys) ∧ As (Below w.heap.size w wr)) (fun k _ => nb - (intOf k).toNat)
        case atStart => exact ⟨0, rfl, by omega, ⟨_, by
          have := NxI.start z.c z.b dk z.m
          rw [HNC.out, HM.out, HNB.out, HMM.out] at this
          rw [HM.out]
          exact this, HOW.out⟩, HB2⟩
        case round =>
          clear HOW HB2
          obtain ⟨i2, rfl, hi2, hO, hB2⟩ := hrel
          by_cases hlt2 : i2 < nb
          · have hd2 : decide (i2 < nb) = true := decide_eq_true hlt2
            have q0 := cell_below hB2.out c0
            have q5 := cell_below hB2.out c5
            obtain ⟨b, o, hAb, _, hcb⟩ := (HRB.out.below hB2.out) i2 (by have := HNB.out; omega)
            subst hAb
            obtain ⟨ys, hI, hown⟩ := hO.out
            have HYL : As (ys.length = M) := ⟨by rw [hI.1, HNC.out, HM.out, HNB.out, HMM.out]⟩
            obtain ⟨j, hj⟩ : ∃ j, m + i2 = j := ⟨_, rfl⟩
            have HJ := As.mk hj
            have hjM : j < M := by have := HMM.out; omega
            obtain ⟨hcn, hfn⟩ := hown.cell HYL.out (j := j) hjM
            have HI := As.mk hI
            have HOW := As.mk hown
            have e8 : (m : Int) + (i2 : Int) = (j : Int) := by omega
            have e9 : IntKind.i64.wrap (j : Int) = (j : Int) := in64 (by omega) (by omega)
            clear hI hown hO hj
            go_wp2
            refine wp_region_obl (fun w' => Below wr.heap.size wr w') (by kernel_rfl) (by kernel_rfl) (by kernel_rfl) (bl_drew (bl_refl _)) ?_
            iterate 26 (apply Obl.val; · (intro w' hS; have p0 := cell_below hS q0; have p5 := cell_below hS q5; have pn := cell_below hS hcn; go_simp; rfl))
            apply Obl.call
            · intro w' hS
              go_simp
              refine ⟨_, _, ⟨rfl, rfl⟩, ?_⟩
              refine (mulAK (K := K) g dk (atl z.b i2) _ ((HA.out.below hB2.out).below hS)).mono ?_
              rintro e w1 ⟨rfl, hb⟩
              exact ⟨rfl, bl_then hb hS⟩
            apply Obl.call
            · intro w' hS
              go_simp
              refine ⟨_, _, ⟨rfl, rfl⟩, ?_⟩
              refine (subK (K := K) g (atl ys j) (dk * atl z.b i2) _ ((HA.out.below hB2.out).below hS)).mono ?_
              rintro e w1 ⟨rfl, hb⟩
              exact ⟨rfl, bl_then hb hS⟩
            apply Obl.val
            · intro w' hS
              go_simp
              rfl
            refine Last.store (fun w' hS => ?_)
            obtain ⟨pn, pf⟩ := keep_cf hS ⟨hcn, hfn⟩
            have HSS := As.mk hS
            clear hS
            apply Stored.of
            · go_simp; rfl
            go_simp
            go_wp2
            go_roundw
            case rel => exact ⟨i2 + 1, by go_num, by omega, ⟨_, by have := HI.out.step; rw [HM.out, HJ.out] at this; rw [HM.out]; exact this, (HOW.out.below HSS.out).put HYL.out j _⟩, ⟨bl_set (by have := HL0.out; have := HB1.out.size; show w.heap.size ≤ L0; omega) (bl_then HSS.out hB2.out)⟩⟩
            case measure => simp [intOf]; omega
          · have hd2 : decide (i2 < nb) = false := decide_eq_false hlt2
            obtain ⟨ys, hI, hown⟩ := hO.out
            have HYL : As (ys.length = M) := ⟨by rw [hI.1, HNC.out, HM.out, HNB.out, HMM.out]⟩
            have HNX : As (nextL z.c z.b dk z.m = ys) := ⟨by
              have e : i2 = z.b.length := by have := HNB.out; omega
              rw [e] at hI
              exact hI.last.symm⟩
            have HOW := As.mk hown
            have q2 := cell_below hB2.out c2
            have q4 := cell_below hB2.out c4
            have q5 := cell_below hB2.out c5
            have f2 := (keep_cf hB2.out ⟨c2, blk_frozen HST.out 2⟩).2
            have f3 := (keep_cf hB2.out ⟨c3, blk_frozen HST.out 3⟩).2
            have f4 := (keep_cf hB2.out ⟨c4, blk_frozen HST.out 4⟩).2
            have f5 := (keep_cf hB2.out ⟨c5, blk_frozen HST.out 5⟩).2
            have f6 := (keep_cf hB2.out ⟨c6, blk_frozen HST.out 6⟩).2
            have q3 := cell_below hB2.out c3
            have q6 := cell_below hB2.out c6
            have e10 : IntKind.i64.wrap ((n : Int) + 1 - (l : Int)) = (n : Int) + 1 - (l : Int) := in64 (by omega) (by omega)
            have e11 : IntKind.i64.wrap ((n : Int) + 1) = (n : Int) + 1 := in64 (by omega) (by omega)
            have e12 : IntKind.i64.wrap ((m : Int) + 1) = (m : Int) + 1 := in64 (by omega) (by omega)
            have e13 : IntKind.i64.wrap (2 * (l : Int)) = 2 * (l : Int) := in64 (by omega) (by omega)
            have HZL0 : As (L0 ≠ Z) := ⟨by have := HL0.out; have := HB1.out.size; omega⟩
            clear hI hown hO
            by_cases hle : 2 * l ≤ n
            · have g4 : decide (2 * (l : Int) ≤ (n : Int)) = true := decide_eq_true (by omega)
              have HR2 : As (R = ⟨ys, z.c, n + 1 - z.l, 1, d⟩) := ⟨by
                rw [← HR.out]; unfold stepB
                rw [HDD.out, if_neg hd0, if_pos (by rw [HL.out]; exact hle), HDK.out, HNX.out]⟩
              go_wp2_with fail
              go_region_with (fail)
              all_goals
                go_wp2
                refine bodyPost_end (results_none rfl _ _ _) rfl ⟨rfl, some ⟨L0, 0, none⟩, Ac, M, cc, ⟨?_⟩, ⟨?_⟩, ⟨?_⟩, ⟨?_⟩, ?_⟩
                all_goals try rw [HR2.out]
                · show (_ : World).heap[Z]? = some (stO g As0 s.length cs (some ⟨L0, 0, none⟩) ys.length M Ac z.c.length cc (n + 1 - z.l) 1 (val d))
                  rw [HYL.out, HNC.out, HL.out, HU.out]
                  have e14 : (n : Int) + 1 - (l : Int) = ((n + 1 - l : Nat) : Int) := by omega
                  rw [e14]
                  exact st_c (st_four (blk_below HST.out hB2.out))
                · exact (nextRdN HOW.out HYL.out HZL0.out).five
                · exact (HRC.out.below hB2.out).five
                · exact ⟨by show ys.length ≤ M; rw [HYL.out]; exact Nat.le_refl _, HCC.out⟩
                · exact st_bl5 (hB2.out.mono (Nat.le_of_lt hZ))
            · have g4 : decide (2 * (l : Int) ≤ (n : Int)) = false := decide_eq_false (by omega)
              have HR2 : As (R = ⟨ys, z.b, z.l, z.m + 1, z.last⟩) := ⟨by
                rw [← HR.out]; unfold stepB
                rw [HDD.out, if_neg hd0, if_neg (by rw [HL.out]; exact hle), HDK.out, HNX.out]⟩
              go_wp2
              refine bodyPost_end (results_none rfl _ _ _) rfl ⟨rfl, some ⟨L0, 0, none⟩, Ab, M, cb, ⟨?_⟩, ⟨?_⟩, ⟨?_⟩, ⟨?_⟩, ?_⟩
              all_goals try rw [HR2.out]
              · show (_ : World).heap[Z]? = some (stO g As0 s.length cs (some ⟨L0, 0, none⟩) ys.length M Ab z.b.length cb z.l (z.m + 1) (val z.last))
                rw [HYL.out, ← HM.out]
                exact st_c (st_m (blk_below HST.out hB2.out))
              · exact ((nextRdN HOW.out HYL.out HZL0.out).set _ _).set _ _
              · exact ((HRB.out.below hB2.out).set _ _).set _ _
              · exact ⟨by show ys.length ≤ M; rw [HYL.out]; exact Nat.le_refl _, HCB.out⟩
              · exact st_bl2 (hB2.out.mono (Nat.le_of_lt hZ))
end
end Go.Proofs.Ythcjmmicjbfpgaa.Rs
