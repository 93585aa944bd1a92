/-
The walk of eval: the value of a polynomial, by a range over slices.Backward.
-/
import Derived.Test.YthcjmmicjbfpgaaJCl
import Derived.RangeFuncNested
import Derived.RangeFuncBound
import Derived.RangeFuncCalls
import Derived.RangeFuncLeaves
import Derived.RangeFuncFrom
import Derived.RangeFuncOne
import Derived.RangeFuncBox
import Derived.Shelf.Abstract
import Derived.Shelf.RegionOpen
import Derived.OwnWalkIn
import Derived.TacticsInMore
import Derived.LoopNIn
import Derived.LoopIn
namespace Go.Proofs.Ythcjmmicjbfpgaa.Rs
open Go.RowKit Go.Shelf Go.Proofs.Ythcjmmicjbfpgaa.Alg
open GF
set_option linter.unusedSimpArgs false
attribute [local go_sem] Oper.semAt_some

theorem cell_of_box_l {W : World} {B : Nat} {v : Value} {t : TypeId} (h : W.heap[B]? = some (.cells #[v] t (0, 0))) : W.cell? ⟨B, 0, none⟩ = some v ∧ W.frozen? ⟨B, 0, none⟩ = false := by
  constructor <;> simp [World.cell?, World.frozen?, h]
theorem cell_new_l (W : World) (v : Value) (t : TypeId) : (W.alloc (.cells #[v] t)).cell? ⟨W.heap.size, 0, none⟩ = some v ∧ (W.alloc (.cells #[v] t)).frozen? ⟨W.heap.size, 0, none⟩ = false :=
  cell_of_box_l (World.alloc_heap_new W _)
theorem cell_alloc_l {W : World} {a : Addr} {v : Value} (o : Obj) (h : W.cell? a = some v) : (W.alloc o).cell? a = some v := cell_kept h (World.grownBy_alloc W o none) (fun r e => by cases e)
theorem frozen_alloc_l {W : World} {a : Addr} {v : Value} (o : Obj) (h : W.cell? a = some v) (hf : W.frozen? a = false) : (W.alloc o).frozen? a = false := (frozen_kept h (World.grownBy_alloc W o none) (fun r e => by cases e)).trans hf

/-- what a round that goes on keeps -/
def KpB (n₀ Bs : Nat) (W W' : World) : Prop := Below n₀ W W' ∧ W'.cell? ⟨Bs, 0, none⟩ = W.cell? ⟨Bs, 0, none⟩
theorem kp_t {n₀ Bs : Nat} {A B C : World} (h : KpB n₀ Bs A B) (k : KpB n₀ Bs B C) : KpB n₀ Bs A C := ⟨h.1.trans k.1, k.2.trans h.2⟩
theorem kp_b {n₀ Bs : Nat} {w : World} (hn : n₀ ≤ w.heap.size) (hB : Bs < w.heap.size) (W : World) (l : Nat) (o o' : Obj) (hl : w.heap.size ≤ l) (h : W.heap[l]? = some o) (h2 : o.isCells = false) (h3 : o.isWalk = false) : KpB n₀ Bs W (W.putObj l o') :=
  ⟨belowK_b hn W l o o' hl h h2 h3, World.cell?_of_block ((World.putObj_heap_other (by show Bs ≠ l; omega)))⟩

section
variable {K : Type} [GF K]

/-- what Backward hands out in round j, from the last element on -/
def bwd (xs : List K) (j : Nat) : Nat × K := (xs.length - 1 - j, atl xs (xs.length - 1 - j))
/-- what has come when k rounds are over -/
def upto (xs : List K) (k : Nat) : List (Nat × K) := (List.range k).map (bwd xs)
theorem upto_succ (xs : List K) (k : Nat) : upto xs (k + 1) = upto xs k ++ [bwd xs k] := nth_snoc
theorem upto_length (xs : List K) (k : Nat) : (upto xs k).length = k := by simp [upto]

set_option maxRecDepth 100000 in
set_option maxHeartbeats 2000000 in
theorem back1_in (F : Fence) (n : Nat) (hf : F.fn 105) (hro : F.round = none) (hn : 1 ≤ n) (l Bs n₀ cap : Nat) (A : Option Addr) (xs : List K) (hx : xs.length ≤ 1000000) (hA : 0 < xs.length → ∀ b o, A = some ⟨b, o, none⟩ → b < n₀) (J Jx : List (Nat × K) → World → Prop)
    (hY : ∀ pre x W, J pre W → pre.length < xs.length → YieldAt F (n - 1) Try.prog l #[.int .i64 (x.1 : Int), .int .i64 (val x.2)] W fun e W' =>
      (e = .returned (.bool true) ∧ J (pre ++ [x]) W' ∧ KpB n₀ Bs W W') ∨ (e = .returned (.bool false) ∧ Jx (pre ++ [x]) W'))
    (W : World) (hBs : W.cell? ⟨Bs, 0, none⟩ = some (.slice A xs.length cap)) (hc : RdK W A xs) (h0 : J [] W) :
    CallsIn F n Try.prog 105 #[.func (.yield l) #[] #[], .pointer (some ⟨Bs, 0, none⟩)] W fun e W' => (∃ v, e = .returned v) ∧
      ((∃ ys, ys = upto xs xs.length ∧ J ys W') ∨ (∃ pre, (∃ k, k ≤ xs.length ∧ pre = upto xs k) ∧ Jx pre W')) := by
  have HC := As.mk hc
  clear hc
  refine callsIn_of_wp Try.func105 rfl hf ?_ hro
  simp only [Try.ntmps105, List.size_toArray, List.length_cons, List.length_nil, Nat.reduceAdd, Nat.reduceSub, Array.replicate_succ, Array.replicate_zero, List.push_toArray, List.append_toArray, List.nil_append, List.cons_append]
  gi_wp2
  gi_loopw [3] (fun i wr => ∃ k : Nat, k ≤ xs.length ∧ i = .int .i64 ((xs.length : Int) - 1 - k) ∧ J (upto xs k) wr ∧ KpB n₀ Bs W wr)
    (fun i _ => (intOf i + 1).toNat)
  case atStart => exact ⟨0, Nat.zero_le _, by go_num, h0, ⟨Below.refl _ _, rfl⟩⟩
  case round =>
    obtain ⟨k, hk, rfl, hJs, hnx⟩ := hrel
    have hbs : wr.cell? ⟨Bs, 0, none⟩ = some (.slice A xs.length cap) := hnx.2.trans hBs
    by_cases hlt : k < xs.length
    · obtain ⟨fn, tmps, assign, body, hy, hR⟩ := hY _ (bwd xs k) wr hJs (by rw [upto_length]; exact hlt)
      obtain ⟨j, hj⟩ : ∃ j, xs.length - 1 - k = j := ⟨_, rfl⟩
      have e1 : (xs.length : Int) - 1 - k = (j : Int) := by omega
      obtain ⟨b, o, rfl, hcell⟩ := HC.out j (by omega)
      have hcx : wr.cell? ⟨b, o + j, none⟩ = some (.int .i64 (val (atl xs j))) := (hnx.1.cell (p := ⟨b, o + j, none⟩) (hA (by omega) b o rfl)).trans hcell
      have hd : decide (j < xs.length) = true := decide_eq_true (by omega)
      unfold bwd at hy
      rw [hj] at hy
      dsimp only at hy
      gi_wp2
      refine hR.mono ?_
      rintro e W3 (⟨rfl, hJ3, hk3⟩ | ⟨rfl, hJx3⟩)
      · gi_wp2
        go_roundw
        case rel => exact ⟨k + 1, by omega, by have : ((k + 1 : Nat) : Int) = (k : Int) + 1 := by omega
                                               rw [this]; go_num, by rw [upto_succ]; exact hJ3, kp_t hnx hk3⟩
        case measure => simp [intOf]; omega
      · gi_wp2
        refine bodyPost_ret (results_none rfl _ _ _) rfl ?_
        exact ⟨⟨_, rfl⟩, .inr ⟨_, ⟨k + 1, by omega, (upto_succ _ _).symm⟩, hJx3⟩⟩
    · obtain rfl : k = xs.length := by omega
      have e1 : (xs.length : Int) - 1 - (xs.length : Nat) = -1 := by omega
      gi_wp2
      go_end0
      exact ⟨⟨_, rfl⟩, .inl ⟨_, rfl, hJs⟩⟩

set_option maxHeartbeats 1000000 in
theorem back_in (F : Fence) (n : Nat) (hf : F.fn 88) (hro : F.round = none) (a : Option Addr) (len cap : Nat) (w : World) :
    CallsIn F n Try.prog 88 #[.slice a len cap] w fun e w' => e = .returned (.func (.func 105) #[] #[.pointer (some ⟨w.heap.size, 0, none⟩)]) ∧ w' = w.alloc (.cells #[.slice a len cap] 30) := by
  refine callsIn_of_wp Try.func88 rfl hf ?_ hro
  simp only [Try.ntmps88, List.size_toArray, List.length_cons, List.length_nil, Nat.reduceAdd, Nat.reduceSub, Array.replicate_succ, Array.replicate_zero, List.push_toArray, List.append_toArray, List.nil_append, List.cons_append]
  gi_wp2
  go_ret
  exact ⟨rfl, rfl⟩

theorem back_stops (F : Fence) (n : Nat) (hf : F.fn 105) (hro : F.round = none) (hn : 1 ≤ n) (Bs n₀ cap : Nat) (A : Option Addr) (xs : List K) (hx : xs.length ≤ 1000000) (w : World) (hBs : Bs < w.heap.size)
    (hA : 0 < xs.length → ∀ b o, A = some ⟨b, o, none⟩ → b < n₀) (hc : w.cell? ⟨Bs, 0, none⟩ = some (.slice A xs.length cap)) (hI : RdK w A xs) :
    SeqStopsK F n Try.prog 105 #[.pointer (some ⟨Bs, 0, none⟩)] (fun x : Nat × K => #[Value.int .i64 (x.1 : Int), Value.int .i64 (val x.2)]) (KpB n₀ Bs) (fun ys => ys = upto xs xs.length)
      (fun pre => ∃ k, k ≤ xs.length ∧ pre = upto xs k) xs.length w := fun l J Jx W hW _ _ hY h0 =>
  back1_in F n hf hro hn l Bs n₀ cap A xs hx hA J Jx hY W ((hW.cell (p := ⟨Bs, 0, none⟩) hBs).trans hc) (hI.below hW) h0

/-- Horner's rule over what has come -/
def horn (pre : List (Nat × K)) (x : K) : K := pre.foldl (fun v c => v * x + c.2) 0
theorem horn_snoc (pre : List (Nat × K)) (c : Nat × K) (x : K) : horn (pre ++ [c]) x = horn pre x * x + c.2 := by simp [horn]
theorem horn_upto (xs : List K) (x : K) (k : Nat) (hk : k ≤ xs.length) : horn (upto xs k) x = hor (xs.drop (xs.length - k)) x := by
  induction k with
  | zero => simp [upto, horn, hor]
  | succ k ih =>
    have e : xs.length - (k + 1) + 1 = xs.length - k := by omega
    have e2 : xs.length - 1 - k = xs.length - (k + 1) := by omega
    rw [upto_succ, horn_snoc, ih (by omega), hor_drop (n := xs.length - (k + 1)) (by omega), e]
    unfold bwd
    rw [e2]
theorem horn_all (xs : List K) (x : K) : horn (upto xs xs.length) x = ev xs.length (atl xs) x := by
  rw [horn_upto xs x _ (Nat.le_refl _), Nat.sub_self, List.drop_zero, hor_ev]
theorem below_keeps {W W' : World} (h : Below W.heap.size W W') : KeepsOthers W W' := ⟨h.size, fun _ _ hk _ => blk_below hk h⟩

/-- what holds between two rounds of eval -/
def EvI (w : World) (g : Nat) (x : K) (sl : Value) (pre : List (Nat × K)) (W : World) : Prop :=
  W.cell? ⟨w.heap.size, 0, none⟩ = some (.pointer (some ⟨g, 0, none⟩)) ∧ W.cell? ⟨w.heap.size + 1, 0, none⟩ = some (.int .i64 (val x)) ∧ W.cell? ⟨w.heap.size + 1 + 1, 0, none⟩ = some (.int .i64 (val (horn pre x))) ∧ W.frozen? ⟨w.heap.size + 1 + 1, 0, none⟩ = false ∧ W.cell? ⟨w.heap.size + 1 + 1 + 1, 0, none⟩ = some sl
theorem EvI.own (w : World) (g : Nat) (x : K) (sl : Value) : Own (EvI w g x sl) := fun _ _ _ _ hs hg hr =>
  ⟨cell_kept hs.1 hg hr, cell_kept hs.2.1 hg hr, cell_kept hs.2.2.1 hg hr, (frozen_kept hs.2.2.1 hg hr).trans hs.2.2.2.1, cell_kept hs.2.2.2.2 hg hr⟩
theorem EvI.step {a : Act} {w W w2 : World} {g : Nat} {x y : K} {sl : Value} {pre : List (Nat × K)} {c : Nat × K} (h : EvI w g x sl pre W) (hB : Below w.heap.size w W) (hy : horn pre x = y) (hb3 : Below W.heap.size W w2) :
    ownPostK (KpB w.heap.size (w.heap.size + 1 + 1 + 1)) (fun pre W => EvI w g x sl pre W ∧ Below w.heap.size w W) (fun _ _ _ => False) (pre ++ [c]) W Exit.normal a (w2.setCell ⟨w.heap.size + 1 + 1, 0, none⟩ (.int .i64 (val (y * x + c.2)))) := by
  have hk : KeepsOthers W (w2.setCell ⟨w.heap.size + 1 + 1, 0, none⟩ (.int .i64 (val (y * x + c.2)))) := (below_keeps hb3).trans (KeepsOthers.setCell _ _ _)
  have k0 := cell_below hb3 h.1
  have k1 := cell_below hb3 h.2.1
  have k2 := keep_cf hb3 ⟨h.2.2.1, h.2.2.2.1⟩
  have k4 := cell_below hb3 h.2.2.2.2
  have far : ∀ (b : Nat) (v : Value), b ≠ w.heap.size + 1 + 1 → w2.cell? ⟨b, 0, none⟩ = some v → (w2.setCell ⟨w.heap.size + 1 + 1, 0, none⟩ (.int .i64 (val (y * x + c.2)))).cell? ⟨b, 0, none⟩ = some v := fun b v hne hc =>
    (World.cell?_setCell_far _ _ _ _ (fun e => hne e.symm)).trans hc
  refine ⟨hk, ⟨((hb3.mono hB.size).setCell (p := ⟨w.heap.size + 1 + 1, 0, none⟩) (by show w.heap.size ≤ w.heap.size + 1 + 1; omega) _), ?_⟩, ⟨far _ _ (by omega) k0, far _ _ (by omega) k1, ?_, ?_, far _ _ (by omega) k4⟩, ?_⟩
  · rw [h.2.2.2.2]; exact far _ _ (by omega) k4
  · rw [horn_snoc, hy]; exact World.cell?_setCell_same' _ _ _ (by rw [k2.1]; rfl)
  · rw [World.frozen?_setCell]; exact k2.2
  · exact bl_set (by show w.heap.size ≤ w.heap.size + 1 + 1; omega) (bl_then hb3 hB)

set_option maxRecDepth 100000 in
set_option maxHeartbeats 2000000 in
theorem evalK (g : Nat) (xs : List K) (x : K) (A : Option Addr) (cap : Nat) (w : World) (hA : Arith K w g) (hr : RdK w A xs) (hx : xs.length ≤ 1000000) :
    Calls Try.prog 68 #[.pointer (some ⟨g, 0, none⟩), .slice A xs.length cap, .int .i64 (val x)] w fun e w' => e = .returned (.int .i64 (val (ev xs.length (atl xs) x))) ∧ Below w.heap.size w w' := by
  refine (callsIn_wide (n := 5)).1 ?_
  refine callsIn_of_wp_marks Try.func68 rfl trivial ?_ rfl
  simp only [Try.ntmps68, List.size_toArray, List.length_cons, List.length_nil, Nat.reduceAdd, Nat.reduceSub, Array.replicate_succ, Array.replicate_zero, List.push_toArray, List.append_toArray, List.nil_append, List.cons_append]
  have HA := As.mk hA
  have HR := As.mk hr
  clear hA hr
  gi_wp2_with fail
  refine ⟨trivial, (back_in Fence.wide _ trivial rfl _ _ _ _).mono ?_⟩
  rintro e w' ⟨rfl, rfl⟩
  gi_wp2
  have c0 := cell_new_l w (.pointer (some ⟨g, 0, none⟩)) 56
  have c1 := cell_new_l (w.alloc (.cells #[.pointer (some ⟨g, 0, none⟩)] 56)) (.int .i64 (val x)) 3
  have c2 := cell_new_l ((w.alloc (.cells #[.pointer (some ⟨g, 0, none⟩)] 56)).alloc (.cells #[.int .i64 (val x)] 3)) (.int .i64 0) 3
  have c3 := cell_new_l (((w.alloc (.cells #[.pointer (some ⟨g, 0, none⟩)] 56)).alloc (.cells #[.int .i64 (val x)] 3)).alloc (.cells #[.int .i64 0] 3)) (.slice A xs.length cap) 30
  simp only [World.size_alloc] at c1 c2 c3
  have hB0 : Below w.heap.size w ((((w.alloc (.cells #[.pointer (some ⟨g, 0, none⟩)] 56)).alloc (.cells #[.int .i64 (val x)] 3)).alloc (.cells #[.int .i64 0] 3)).alloc (.cells #[.slice A xs.length cap] 30)) := bl_alloc (bl_alloc (bl_alloc (bl_alloc (bl_refl _))))
  refine wpIn_rangeFunc_ownF rfl (by omega) (gf := 105) (lb := #[.pointer (some ⟨w.heap.size + 1 + 1 + 1, 0, none⟩)]) rfl trivial (enters_of Try.func105 (by kernel_rfl) rfl)
    (back_stops (K := K) Fence.wide _ trivial rfl (by omega) (w.heap.size + 1 + 1 + 1) w.heap.size cap A xs hx _ (by simp) (fun h0 b o e => by obtain ⟨b', o', e', hc⟩ := HR.out 0 h0; rw [e] at e'; cases e'; exact World.block_lt_of_cell? w _ hc) c3.1 (HR.out.below hB0)) kp_t (kp_b (by simp; omega) (by simp)) (Below.refl _ _) (fun _ => rfl)
    (fun pre W => EvI w g x (.slice A xs.length cap) pre W ∧ Below w.heap.size w W)
    (fun _ _ _ => False)
    (OwnFrom.and (Own.from (EvI.own w g x _) _) (ownFrom_below (Nat.le_refl _) (by simp; omega)))
    (fun _ _ _ _ _ hs _ _ => hs)
    ⟨⟨cell_alloc_l _ (cell_alloc_l _ (cell_alloc_l _ c0.1)), cell_alloc_l _ (cell_alloc_l _ c1.1), cell_alloc_l _ (by unfold horn; rw [List.foldl_nil, val_zero]; exact c2.1), frozen_alloc_l _ c2.1 c2.2, c3.1⟩, hB0⟩
    (fun c => { tmps := #[.pointer (some ⟨g, 0, none⟩), .slice A xs.length cap, .int .i64 (val x), .pointer (some ⟨w.heap.size, 0, none⟩), undef, .pointer (some ⟨w.heap.size + 1, 0, none⟩), .int .i64 0, .pointer (some ⟨w.heap.size + 1 + 1, 0, none⟩), undef, .int .i64 (val c.2), .slice A xs.length cap, .func (.func 105) #[] #[.pointer (some ⟨w.heap.size + 1 + 1 + 1, 0, none⟩)], .int .i64 (c.1 : Int), .int .i64 (val c.2), undef, undef, undef, undef, undef, undef, undef, undef], defers := [] }) ?assign ?body ?done ?stop
  case assign =>
    intro l c W K hK
    gi_wp2
    exact hK
  case body =>
    rintro l pre c W ⟨hE, hB⟩ _
    obtain ⟨h0, h1, h2, h3, h4⟩ := hE
    have hAr := HA.out.below hB
    obtain ⟨y, hy⟩ : ∃ y, horn pre x = y := ⟨_, rfl⟩
    have HE := As.mk (show EvI w g x (.slice A xs.length cap) pre W from ⟨h0, h1, h2, h3, h4⟩)
    rw [hy] at h2
    have HY := As.mk hy
    have HAR := As.mk hAr
    have HBB := As.mk hB
    clear hy hAr c0 c1 c2 c3 hB0 h4 hB
    have hd : 1 ≤ 5 - 1 - 1 := by omega
    have hmx : Try.prog.follows .mixedOrders = true := by kernel_rfl
    gi_wp2
    refine wpIn_region_obl (fun w' => Below W.heap.size W w') (by kernel_rfl) (by kernel_rfl) (by kernel_rfl) (bl_drew (bl_refl _)) ?_
    iterate 4 (apply Obl.val; · (intro w' hS; have k0 := cell_below hS h0; have k1 := cell_below hS h1; have k2 := cell_below hS h2; go_simp; rfl))
    apply Obl.call
    · intro w' hS
      go_simp
      refine ⟨_, _, ⟨rfl, rfl⟩, ?_⟩
      refine (mulAK g y x _ (HAR.out.below hS)).mono ?_
      rintro e w1 ⟨rfl, hb⟩
      exact ⟨rfl, bl_then hb hS⟩
    apply Obl.val
    · intro w' hS
      go_simp
      rfl
    apply Obl.call
    · intro w' hS
      go_simp
      refine ⟨_, _, ⟨rfl, rfl⟩, ?_⟩
      refine (addK g (y * x) c.2 _ (HAR.out.below hS)).mono ?_
      rintro e w1 ⟨rfl, hb⟩
      exact ⟨rfl, bl_then hb hS⟩
    refine Last.store (fun w' hS => ?_)
    obtain ⟨k2, kf⟩ := keep_cf hS ⟨h2, h3⟩
    have HSS := As.mk hS
    clear hS
    apply Stored.of
    · go_simp; rfl
    exact EvI.step (a := ⟨#[], []⟩) HE.out HBB.out HY.out HSS.out
  case done =>
    rintro D ys W hD rfl ⟨⟨_, _, hc, _, _⟩, hB⟩ hK
    rw [horn_all] at hc
    gi_wp2
    refine ⟨by simp, .inl ⟨_, _, rfl, run_takeDeferred hK, ?_⟩⟩
    exact ⟨_, results_tmp rfl _ _ _, rfl, hB.trans (belowK_b (w := w) (Nat.le_refl _) W D _ _ (by simp at hD; omega) hK rfl rfl)⟩
  case stop =>
    rintro D c pre W _ _ h _
    exact h.elim
end
end Go.Proofs.Ythcjmmicjbfpgaa.Rs
