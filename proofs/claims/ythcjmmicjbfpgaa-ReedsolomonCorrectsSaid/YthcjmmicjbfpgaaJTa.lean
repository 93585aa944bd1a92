/-
The walks of a field's arithmetic by tables of powers and logarithms.
Rows of numbers that a call makes, and blocks that are known whole.
The walk of the tables of a field's arithmetic.
-/
import Derived.Test.YthcjmmicjbfpgaaJGe
import Derived.Maps.AppendAt
namespace Go.Proofs.Ythcjmmicjbfpgaa.Rs
open Go.RowKit Go.Proofs.Ythcjmmicjbfpgaa.Alg
open GF
set_option linter.unusedSimpArgs false

section
variable {K : Type} [GF K]

/-- the tables of a field at block g -/
structure ArK (K : Type) [GF K] (w : World) (g : Nat) (Ae Al : Option Addr) (ce cl : Nat) : Prop where
  c0 : w.cell? ⟨g, 0, none⟩ = some (.int .i64 (ch K))
  c1 : w.cell? ⟨g, 1, none⟩ = some (.int .i64 (sz K))
  c2 : w.cell? ⟨g, 2, none⟩ = some (.int .i64 (po K))
  c3 : w.cell? ⟨g, 3, none⟩ = some (.slice Ae (sz K - 1) ce)
  c4 : w.cell? ⟨g, 4, none⟩ = some (.slice Al (sz K) cl)
  re : ∀ i, i < sz K - 1 → ∃ b o, Ae = some ⟨b, o, none⟩ ∧ w.cell? ⟨b, o + i, none⟩ = some (.int .i64 (val (pw (gen : K) i)))
  rl : ∀ a : K, a ≠ 0 → ∃ b o, Al = some ⟨b, o, none⟩ ∧ w.cell? ⟨b, o + val a, none⟩ = some (.int .i64 (lg a))
theorem ArK.below {w w1 : World} {g : Nat} {Ae Al : Option Addr} {ce cl : Nat} (h : ArK K w g Ae Al ce cl) (hb : Below w.heap.size w w1) : ArK K w1 g Ae Al ce cl where
  c0 := cell_below hb h.c0
  c1 := cell_below hb h.c1
  c2 := cell_below hb h.c2
  c3 := cell_below hb h.c3
  c4 := cell_below hb h.c4
  re := fun i hi => by
    obtain ⟨b, o, e, hc⟩ := h.re i hi
    exact ⟨b, o, e, cell_below hb hc⟩
  rl := fun a ha => by
    obtain ⟨b, o, e, hc⟩ := h.rl a ha
    exact ⟨b, o, e, cell_below hb hc⟩
/-- the tables at block g, wherever they lie -/
def Arith (K : Type) [GF K] (w : World) (g : Nat) : Prop := ∃ Ae Al ce cl, ArK K w g Ae Al ce cl
theorem Arith.below {w w1 : World} {g : Nat} (h : Arith K w g) (hb : Below w.heap.size w w1) : Arith K w1 g := by
  obtain ⟨Ae, Al, ce, cl, h⟩ := h
  exact ⟨Ae, Al, ce, cl, h.below hb⟩

theorem tmod_bd (n m : Int) (h : 0 < m) : -m < n.tmod m ∧ n.tmod m < m := by
  constructor
  · have := Int.lt_tmod_of_pos n h; omega
  · exact Int.tmod_lt_of_pos n h
theorem tmod_tmod (n m : Int) (h : 0 < m) : (n.tmod m + m).tmod m = n % m := by
  obtain ⟨b1, b2⟩ := tmod_bd n m h
  rw [Int.tmod_eq_emod_of_nonneg (by omega), Int.add_emod_right]
  have h3 : n = m * n.tdiv m + n.tmod m := (Int.mul_tdiv_add_tmod n m).symm
  conv => rhs; rw [h3]
  rw [Int.add_comm, Int.add_mul_emod_self_left]

set_option maxRecDepth 100000 in
set_option maxHeartbeats 800000 in
theorem powerK (g : Nat) (n : Int) (w : World) (h : Arith K w g) :
    Calls Try.prog 51 #[.pointer (some ⟨g, 0, none⟩), .int .i64 n] w fun e w' => e = .returned (.int .i64 (val (gz n : K))) ∧ Below w.heap.size w w' := by
  obtain ⟨Ae, Al, ce, cl, h⟩ := h
  have hs := sz_two (K := K)
  have hs2 := sz_max (K := K)
  obtain ⟨m, hm⟩ : ∃ m, sz K - 1 = m := ⟨_, rfl⟩
  have hm0 : (0 : Int) < m := by omega
  obtain ⟨b1, b2⟩ := tmod_bd n m hm0
  have b3 := tmod_tmod n m hm0
  have b4 := Int.emod_nonneg n (show (m : Int) ≠ 0 by omega)
  have b5 := Int.emod_lt_of_pos n hm0
  obtain ⟨i, hi⟩ : ∃ i : Nat, n % (m : Int) = i := ⟨(n % (m : Int)).toNat, by omega⟩
  rw [hi] at b3 b4 b5
  have hgz : As ((gz n : K) = pw gen i) := ⟨by unfold gz; rw [hm, hi]; rfl⟩
  obtain ⟨t, ht⟩ : ∃ t, n.tmod (m : Int) = t := ⟨_, rfl⟩
  rw [ht] at b1 b2 b3
  have e1 : IntKind.i64.wrap (t + (m : Int)) = t + m := in64 (by omega) (by omega)
  have e2 : ((m : Int) == 0) = false := beq_eq_false_iff_ne.mpr (by omega)
  have e3 : (sz K : Int) - 1 = m := by omega
  obtain ⟨b, o, rfl, hc⟩ := h.re i (by omega)
  have hc0 := h.c0
  have hc1 := h.c1
  have hc3 := h.c3
  rw [hm] at hc3
  have hlt : i < m := by omega
  have hi0 : (0 : Int) ≤ i := by omega
  have hlt2 : (i : Int) < m := by omega
  clear h hi hm b5 b4
  go_enter Try.func51, Try.ntmps51
  go_wp2
  go_quiet (fail)
  go_wp2
  go_ret
  refine ⟨ret_int (by rw [hgz.out]), ?_⟩
  repeat (first | exact bl_refl _ | apply bl_drew | apply bl_alloc | apply bl_drewN)

set_option maxRecDepth 100000 in
set_option maxHeartbeats 800000 in
theorem addK (g : Nat) (a b : K) (w : World) (h : Arith K w g) :
    Calls Try.prog 34 #[.pointer (some ⟨g, 0, none⟩), .int .i64 (val a), .int .i64 (val b)] w fun e w' => e = .returned (.int .i64 (val (a + b))) ∧ Below w.heap.size w w' := by
  obtain ⟨Ae, Al, ce, cl, h⟩ := h
  have hs := sz_two (K := K)
  have hs2 := sz_max (K := K)
  have hc0 := h.c0
  have hc1 := h.c1
  have ha := val_lt a
  have hb := val_lt b
  have hv := As.mk (val_add a b)
  clear h
  by_cases hc : ch K = 2
  · have e1 := As.mk (bits64_xor (a := val a) (b := val b) (by omega) (by omega))
    have e2 : As (val (a + b) = val a ^^^ val b) := ⟨by rw [hv.out, if_pos hc]⟩
    go_enter Try.func34, Try.ntmps34
    go_wp2
    go_ret
    refine ⟨ret_int (by rw [e2.out]; exact e1.out), ?_⟩
    repeat (first | exact bl_refl _ | apply bl_drew | apply bl_alloc | apply bl_drewN)
  · have g1 : ((ch K : Int) == 2) = false := beq_eq_false_iff_ne.mpr (by omega)
    have e2 : As (((val a : Int) + (val b : Int)) % (sz K : Int) = ((val (a + b) : Nat) : Int)) := ⟨by rw [hv.out, if_neg hc, Int.natCast_emod, Int.natCast_add]⟩
    have hs0 : ((sz K : Int) == 0) = false := beq_eq_false_iff_ne.mpr (by omega)
    clear hc
    go_enter Try.func34, Try.ntmps34
    go_wp2
    go_ret
    refine ⟨ret_int e2.out, ?_⟩
    repeat (first | exact bl_refl _ | apply bl_drew | apply bl_alloc | apply bl_drewN)

set_option maxRecDepth 100000 in
set_option maxHeartbeats 800000 in
theorem subK (g : Nat) (a b : K) (w : World) (h : Arith K w g) :
    Calls Try.prog 35 #[.pointer (some ⟨g, 0, none⟩), .int .i64 (val a), .int .i64 (val b)] w fun e w' => e = .returned (.int .i64 (val (a - b))) ∧ Below w.heap.size w w' := by
  obtain ⟨Ae, Al, ce, cl, h⟩ := h
  have hs := sz_two (K := K)
  have hs2 := sz_max (K := K)
  have hc0 := h.c0
  have hc1 := h.c1
  have ha := val_lt a
  have hb := val_lt b
  have hv := As.mk (val_sub a b)
  clear h
  by_cases hc : ch K = 2
  · have e1 := As.mk (bits64_xor (a := val a) (b := val b) (by omega) (by omega))
    have e2 : As (val (a - b) = val a ^^^ val b) := ⟨by rw [hv.out, if_pos hc]⟩
    go_enter Try.func35, Try.ntmps35
    go_wp2
    go_ret
    refine ⟨ret_int (by rw [e2.out]; exact e1.out), ?_⟩
    repeat (first | exact bl_refl _ | apply bl_drew | apply bl_alloc | apply bl_drewN)
  · have g1 : ((ch K : Int) == 2) = false := beq_eq_false_iff_ne.mpr (by omega)
    obtain ⟨x, hx⟩ : ∃ x : Nat, (val a : Int) + (sz K : Int) - (val b : Int) = x := ⟨(val a + sz K - val b), by omega⟩
    have e2 : As ((x : Int) % (sz K : Int) = ((val (a - b) : Nat) : Int)) := ⟨by rw [hv.out, if_neg hc, Int.natCast_emod]; congr 1; omega⟩
    have hs0 : ((sz K : Int) == 0) = false := beq_eq_false_iff_ne.mpr (by omega)
    have w1 : IntKind.i64.wrap ((val a : Int) + (sz K : Int)) = (val a : Int) + (sz K : Int) := in64 (by omega) (by omega)
    have w2 : IntKind.i64.wrap ((val a : Int) + (sz K : Int) - (val b : Int)) = (x : Int) := by rw [hx]; exact in64 (by omega) (by omega)
    have w3 : (x : Int).tmod (sz K : Int) = (x : Int) % (sz K : Int) := Int.tmod_eq_emod_of_nonneg (by omega)
    clear hc hx
    go_enter Try.func35, Try.ntmps35
    go_wp2
    go_quiet (fail)
    go_wp2
    go_ret
    refine ⟨ret_int e2.out, ?_⟩
    repeat (first | exact bl_refl _ | apply bl_drew | apply bl_alloc | apply bl_drewN)

theorem lg_mul {a b : K} (ha : a ≠ 0) (hb : b ≠ 0) : (gz ((lg a : Int) + (lg b : Int)) : K) = a * b := by
  rw [gz_add, gz_nat, gz_nat, pw_lg ha, pw_lg hb]
theorem lg_div {a b : K} (ha : a ≠ 0) (hb : b ≠ 0) : (gz ((lg a : Int) - (lg b : Int)) : K) = a * Fld.inv b := by
  rw [gz_sub, gz_nat, gz_nat, pw_lg ha, pw_lg hb]

set_option maxRecDepth 100000 in
set_option maxHeartbeats 800000 in
theorem mulAK (g : Nat) (a b : K) (w : World) (h : Arith K w g) :
    Calls Try.prog 36 #[.pointer (some ⟨g, 0, none⟩), .int .i64 (val a), .int .i64 (val b)] w fun e w' => e = .returned (.int .i64 (val (a * b))) ∧ Below w.heap.size w w' := by
  have HA := As.mk h
  obtain ⟨Ae, Al, ce, cl, h⟩ := h
  have hs2 := sz_max (K := K)
  have hla := val_lt a
  have hlb := val_lt b
  have hc4 := h.c4
  by_cases ha : a = 0
  · subst ha
    have e1 : As (val ((0 : K) * b) = 0) := ⟨by rw [zero_mul, val_zero]⟩
    have e2 : val (0 : K) = 0 := val_zero
    clear h hc4
    go_enter Try.func36, Try.ntmps36
    go_wp2
    go_ret
    refine ⟨ret_int (by rw [e1.out]; rfl), ?_⟩
    repeat (first | exact bl_refl _ | apply bl_drew | apply bl_alloc | apply bl_drewN)
  · have g1 : ((val a : Int) == 0) = false := beq_eq_false_iff_ne.mpr (fun e => ha (val_eq_zero.mp (by omega)))
    have g1' : (val a == 0) = false := beq_eq_false_iff_ne.mpr (fun e => ha (val_eq_zero.mp (by omega)))
    by_cases hb : b = 0
    · subst hb
      have e1 : As (val (a * (0 : K)) = 0) := ⟨by rw [mul_zero, val_zero]⟩
      have e2 : val (0 : K) = 0 := val_zero
      clear h hc4 ha
      go_enter Try.func36, Try.ntmps36
      go_wp2
      go_ret
      refine ⟨ret_int (by rw [e1.out]; rfl), ?_⟩
      repeat (first | exact bl_refl _ | apply bl_drew | apply bl_alloc | apply bl_drewN)
    · have g2 : ((val b : Int) == 0) = false := beq_eq_false_iff_ne.mpr (fun e => hb (val_eq_zero.mp (by omega)))
      have g2' : (val b == 0) = false := beq_eq_false_iff_ne.mpr (fun e => hb (val_eq_zero.mp (by omega)))
      obtain ⟨bl, ol, rfl, hca⟩ := h.rl a ha
      obtain ⟨bl2, ol2, he, hcb⟩ := h.rl b hb
      simp only [Option.some.injEq, Addr.mk.injEq, and_true] at he
      obtain ⟨rfl, rfl⟩ := he
      have hpw := powerK (K := K) g ((lg a : Int) + (lg b : Int))
      rw [lg_mul ha hb] at hpw
      have h1 := lg_lt a
      have h2 := lg_lt b
      have e1 : IntKind.i64.wrap ((lg a : Int) + (lg b : Int)) = (lg a : Int) + (lg b : Int) := in64 (by omega) (by omega)
      have i1 : (0 : Int) ≤ (val a : Int) := by omega
      have i2 : (0 : Int) ≤ (val b : Int) := by omega
      have i3 : (val a : Int) < (sz K : Int) := by omega
      have i4 : (val b : Int) < (sz K : Int) := by omega
      have HP := As.mk hpw
      clear h ha hb hpw
      go_enter Try.func36, Try.ntmps36
      go_wp2
      go_region_held3 (fun w' => w'.cell? ⟨g, 4, none⟩ = some (.slice (some ⟨bl, ol, none⟩) (sz K) cl) ∧ w'.cell? ⟨bl, ol + val a, none⟩ = some (.int .i64 (lg a)) ∧ w'.cell? ⟨bl, ol + val b, none⟩ = some (.int .i64 (lg b))) (first | go_keep | exact And.imp (cell_below hb) (And.imp (cell_below hb) (cell_below hb)) (by assumption))
        (first | (go_at_call 51; refine (HP.out _ (HA.out.below (bl_drew (bl_refl _)))).mono ?_; rintro e w1 ⟨rfl, hb⟩))
      all_goals go_wp2
      all_goals
        go_ret
        refine ⟨rfl, ?_⟩
        repeat (first | exact bl_refl _ | apply bl_drew | apply bl_alloc | apply bl_drewN | apply bl_then hb)

set_option maxRecDepth 100000 in
set_option maxHeartbeats 800000 in
theorem divAK (g : Nat) (a b : K) (hb : b ≠ 0) (w : World) (h : Arith K w g) :
    Calls Try.prog 79 #[.pointer (some ⟨g, 0, none⟩), .int .i64 (val a), .int .i64 (val b)] w fun e w' => e = .returned (.int .i64 (val (a * Fld.inv b))) ∧ Below w.heap.size w w' := by
  have HA := As.mk h
  obtain ⟨Ae, Al, ce, cl, h⟩ := h
  have hs2 := sz_max (K := K)
  have hla := val_lt a
  have hlb := val_lt b
  have hc4 := h.c4
  by_cases ha : a = 0
  · subst ha
    have e1 : As (val ((0 : K) * Fld.inv b) = 0) := ⟨by rw [zero_mul, val_zero]⟩
    have e2 : val (0 : K) = 0 := val_zero
    clear h hc4 hb
    go_enter Try.func79, Try.ntmps79
    go_wp2
    go_ret
    refine ⟨ret_int (by rw [e1.out]; rfl), ?_⟩
    repeat (first | exact bl_refl _ | apply bl_drew | apply bl_alloc | apply bl_drewN)
  · have g1 : ((val a : Int) == 0) = false := beq_eq_false_iff_ne.mpr (fun e => ha (val_eq_zero.mp (by omega)))
    have g1' : (val a == 0) = false := beq_eq_false_iff_ne.mpr (fun e => ha (val_eq_zero.mp (by omega)))
    obtain ⟨bl, ol, rfl, hca⟩ := h.rl a ha
    obtain ⟨bl2, ol2, he, hcb⟩ := h.rl b hb
    simp only [Option.some.injEq, Addr.mk.injEq, and_true] at he
    obtain ⟨rfl, rfl⟩ := he
    have hpw := powerK (K := K) g ((lg a : Int) - (lg b : Int))
    rw [lg_div ha hb] at hpw
    have h1 := lg_lt a
    have h2 := lg_lt b
    have e1 : IntKind.i64.wrap ((lg a : Int) - (lg b : Int)) = (lg a : Int) - (lg b : Int) := in64 (by omega) (by omega)
    have i1 : (0 : Int) ≤ (val a : Int) := by omega
    have i2 : (0 : Int) ≤ (val b : Int) := by omega
    have i3 : (val a : Int) < (sz K : Int) := by omega
    have i4 : (val b : Int) < (sz K : Int) := by omega
    have HP := As.mk hpw
    clear h ha hb hpw
    go_enter Try.func79, Try.ntmps79
    go_wp2
    go_region_held3 (fun w' => w'.cell? ⟨g, 4, none⟩ = some (.slice (some ⟨bl, ol, none⟩) (sz K) cl) ∧ w'.cell? ⟨bl, ol + val a, none⟩ = some (.int .i64 (lg a)) ∧ w'.cell? ⟨bl, ol + val b, none⟩ = some (.int .i64 (lg b))) (first | go_keep | exact And.imp (cell_below hb) (And.imp (cell_below hb) (cell_below hb)) (by assumption))
      (first | (go_at_call 51; refine (HP.out _ (HA.out.below (bl_drew (bl_refl _)))).mono ?_; rintro e w1 ⟨rfl, hb⟩))
    all_goals go_wp2
    all_goals
      go_ret
      refine ⟨rfl, ?_⟩
      repeat (first | exact bl_refl _ | apply bl_drew | apply bl_alloc | apply bl_drewN | apply bl_then hb)
end
end Go.Proofs.Ythcjmmicjbfpgaa.Rs

namespace Go.Proofs.Ythcjmmicjbfpgaa.Rs
open Go.RowKit Go.Proofs.Ythcjmmicjbfpgaa.Alg
open GF

theorem Try.infoI : (Try.prog.info? 3).map (fun i => (i.zero, i.size, i.bytes)) = some (some (.int .i64 0), 1, 8) := by kernel_rfl

/-- append of one number to a row of the call's own -/
theorem app1 {ops : Array Oper} {rest : List Oper} {o : Oper} {a : Act} {Q : Exit → Act → World → Prop} (w : World) (hgd : o.guard = none) (s x : Operand)
    (ho : o.op = .call { callee := .builtin .append, args := #[s, x], argTypes := #[30, 30] })
    (B : Nat) (v : Value) (n : Nat) (xs : List Value) (hs : a.eval s = v) (hown : w.ownsRow B 3 1 v n xs) (nb c : Nat) (y : Int)
    (hx : a.eval x = .slice (some ⟨nb, 0, none⟩) 1 c) (hc : w.cell? ⟨nb, 0, none⟩ = some (.int .i64 y)) (hn : n < 1000000) (hB : B ≤ w.heap.size)
    (h : ∀ v' w', w'.ownsRow B 3 1 v' (n + 1) (xs ++ [.int .i64 y]) → w.grownBy w' v.ownBlock → wpList Try.prog ops Q rest (a.put o.dst v') w') : wpList Try.prog ops Q (o :: rest) a w := by
  obtain ⟨i0, hi, hz0, hz1, hz2⟩ := info_parts Try.infoI
  refine wpList_append_own w hgd s x _ ho B 3 i0 (.int .i64 0) 1 8 Try.underlying30 hi hz0 hz1 hz2 rfl (by decide) v n xs hs hown ⟨nb, 0, none⟩ 1 c [.int .i64 y] hx rfl ?_ ?_ ?_ ?_ hB
    (fun v' w' h1 h2 _ => h v' w' h1 h2)
  · intro j u hj
    have : j = 0 := by
      have := (List.getElem?_eq_some_iff.mp hj).1
      simp at this; omega
    subst this
    simp at hj
    subst hj
    exact hc
  · intro u hu
    simp at hu
    subst hu
    rfl
  · simp [maxLen]; omega
  · omega

/-- n zeros -/
def zeros (n : Nat) : Array Value := madeCells #[.int .i64 0] n
theorem zeros_size (n : Nat) : (zeros n).size = n := size_madeCells _ _
theorem zeros_get {n i : Nat} (h : i < n) : (zeros n)[i]? = some (.int .i64 0) := by
  unfold zeros madeCells
  simp [h, Nat.mod_one]
theorem zeros_toList (n : Nat) : (zeros n).toList = List.replicate n (.int .i64 0) := toList_madeCells_one _ _
theorem mk_ints {n : Nat} (hn : n ≤ 1000000) (w : World) : (Instr.makeSlice 30 (.int .i64 (n : Int)) (.int .i64 (n : Int))).run Try.prog w = .ok (.slice (some ⟨w.heap.size, 0, none⟩) n n) (w.alloc (.cells (zeros n) 3)) := by
  obtain ⟨i0, hi, hz0, hz1, hz2⟩ := info_parts Try.infoI
  have := run_make (P := Try.prog) w 30 3 i0 (.int .i64 0) Try.underlying30 hi hz0 .i64 .i64 n n (by omega) (Int.le_refl _) (by rw [hz2]; omega) (by omega)
  rw [hz1, Nat.mul_one] at this
  simp only [Int.toNat_natCast] at this
  exact this
theorem zeros_own {W : World} {B n : Nat} (hB : B ≤ W.heap.size) (hn : n ≤ 1000000) : (W.alloc (.cells (zeros n) 3)).ownsRow B 3 1 (.slice (some ⟨W.heap.size, 0, none⟩) n n) n (List.replicate n (.int .i64 0)) := by
  have := World.ownsRow_lit (base := B) (e := 3) (size := 1) W (zeros n) n hB (by simp [maxLen]; omega) (by rw [zeros_size, Nat.mul_one])
  rw [zeros_toList] at this
  exact this

/-! a block that is known whole -/
section
variable {w w1 : World} {g : Nat} {cs : Array Value} {t : TypeId}
theorem blk_lt {o : Obj} (h : w.heap[g]? = some o) : g < w.heap.size := (Array.getElem?_eq_some_iff.1 h).1
theorem blk_below {o : Obj} (h : w.heap[g]? = some o) (hb : Below w.heap.size w w1) : w1.heap[g]? = some o := (hb.block g (blk_lt h)).trans h
theorem blk_grown {o : Obj} {row : Option Nat} (h : w.heap[g]? = some o) (hg : w.grownBy w1 row) (hne : some g ≠ row) : w1.heap[g]? = some o := (hg.block g (blk_lt h) hne).trans h
theorem blk_alloc {o o' : Obj} (h : w.heap[g]? = some o) : (w.alloc o').heap[g]? = some o := (heap_alloc_old w o' (blk_lt h)).trans h
theorem blk_drew {o : Obj} (h : w.heap[g]? = some o) : w.drew.heap[g]? = some o := h
theorem blk_far {o : Obj} {p : Addr} {u : Value} (h : w.heap[g]? = some o) (hne : g ≠ p.block) : (w.setCell p u).heap[g]? = some o := (heap_setCell_other w p g u hne).trans h
theorem blk_set (h : w.heap[g]? = some (.cells cs t (0, 0))) (j : Nat) (u : Value) : (w.setCell ⟨g, j, none⟩ u).heap[g]? = some (.cells (cs.setIfInBounds j u) t (0, 0)) := heap_setCell_same w g j cs t u h
theorem blk_cell (h : w.heap[g]? = some (.cells cs t (0, 0))) (j : Nat) : w.cell? ⟨g, j, none⟩ = cs[j]? := cell_of_row w g j cs t (0, 0) h
theorem blk_frozen (h : w.heap[g]? = some (.cells cs t (0, 0))) (j : Nat) : w.frozen? ⟨g, j, none⟩ = false := frozen_of_row w g j cs t h
end
theorem own_below {w w1 : World} {B e s n : Nat} {v : Value} {xs : List Value} (h : w.ownsRow B e s v n xs) (hb : Below w.heap.size w w1) : w1.ownsRow B e s v n xs :=
  h.kept (row := none) ⟨hb.os, hb.tape, hb.output, hb.size, fun k hk _ => hb.block k hk⟩ (by cases v.ownBlock <;> simp)
theorem own_far {w : World} {B e s n : Nat} {v : Value} {xs : List Value} {p : Addr} {u : Value} (h : w.ownsRow B e s v n xs) (hp : p.block < B) : (w.setCell p u).ownsRow B e s v n xs := ownsRow_setCell_below h hp u
theorem own_block {w : World} {B e s n k : Nat} {v : Value} {xs : List Value} (h : w.ownsRow B e s v n xs) (hk : v.ownBlock = some k) : B ≤ k ∧ k < w.heap.size := h.lt k hk
theorem own_ne {w : World} {B e s n g : Nat} {v : Value} {xs : List Value} (h : w.ownsRow B e s v n xs) (hg : g < B) : some g ≠ v.ownBlock := fun e => by
  have := (own_block h e.symm).1
  omega
theorem bl_grown {w W w1 : World} {B e s n : Nat} {v : Value} {xs : List Value} (hg : W.grownBy w1 v.ownBlock) (h : W.ownsRow B e s v n xs) (hB : w.heap.size ≤ B) (hb : Below w.heap.size w W) : Below w.heap.size w w1 :=
  hb.grown hg hb.size (fun _ hk => Nat.le_trans hB (own_block h hk).1)
theorem own_succ {w : World} {B e s n : Nat} {v : Value} {xs : List Value} (h : w.ownsRow B e s v (n + 1) xs) : ∃ g cap, v = .slice (some ⟨g, 0, none⟩) (n + 1) cap := by
  rcases h.2 with ⟨_, h⟩ | ⟨g, cap, cur, h, _⟩
  · omega
  · exact ⟨g, cap, h⟩
theorem keep_cf {W w1 : World} {a : Addr} {v : Value} (hb : Below W.heap.size W w1) (h : W.cell? a = some v ∧ W.frozen? a = false) : w1.cell? a = some v ∧ w1.frozen? a = false :=
  ⟨cell_below hb h.1, (hb.frozen (World.block_lt_of_cell? W a h.1)).trans h.2⟩
theorem nth_snoc {α : Type} {f : Nat → α} {n : Nat} : (List.range (n + 1)).map f = (List.range n).map f ++ [f n] := by simp [List.range_succ]
end Go.Proofs.Ythcjmmicjbfpgaa.Rs

namespace Go.Proofs.Ythcjmmicjbfpgaa.Rs
open Go.RowKit Go.Proofs.Ythcjmmicjbfpgaa.Alg
open GF
set_option linter.unusedSimpArgs false

section
variable {K : Type} [GF K]
/-- the powers that lie in the table, and the logarithms -/
noncomputable def powV (K : Type) [GF K] (n : Nat) : List Value := (List.range n).map (fun i => Value.int .i64 (val (pw (gen : K) i)))
def logV (K : Type) [GF K] (n : Nat) (ys : List Value) : Prop := ∀ i, i < n → ys[val (pw (gen : K) i)]? = some (.int .i64 (i : Int))

theorem powV_succ (n : Nat) : powV K (n + 1) = powV K n ++ [Value.int .i64 (val (pw (gen : K) n))] := by unfold powV; exact nth_snoc
theorem logV_succ {n : Nat} {ys : List Value} (h : logV K n ys) (hn : n < sz K - 1) (hl : ys.length = sz K) : logV K (n + 1) (ys.set (val (pw (gen : K) n)) (.int .i64 n)) := by
  intro i hi
  by_cases e : i = n
  · subst e
    rw [List.getElem?_set_self (by rw [hl]; exact val_lt _)]
  · rw [List.getElem?_set_ne (fun h2 => e ((gen_ord (K := K)).inj (by omega) hn (val_inj h2.symm)))]
    exact h i (by omega)

/-- the tables, so many powers of which lie there -/
structure TabInv (K : Type) [GF K] (w wr : World) (B0 L : Nat) (ve : Value) (n : Nat) : Prop where
  box : Box3 wr B0 (.int .i64 (ch K)) (.int .i64 (sz K)) (.int .i64 (po K))
  str : wr.heap[L + 1]? = some (.cells #[.int .i64 (ch K), .int .i64 (sz K), .int .i64 (po K), ve, .slice (some ⟨L, 0, none⟩) (sz K) (sz K)] 83 (0, 0))
  exp : wr.ownsRow (L + 2) 3 1 ve n (powV K n)
  log : ∃ ys, ys.length = sz K ∧ wr.ownsRow L 3 1 (.slice (some ⟨L, 0, none⟩) (sz K) (sz K)) (sz K) ys ∧ logV K n ys
  bel : Below w.heap.size w wr
  b0 : w.heap.size ≤ B0
  bL : B0 < L
  lt : L + 2 ≤ wr.heap.size
theorem TabInv.below {w wr w1 : World} {B0 L n : Nat} {ve : Value} (h : TabInv K w wr B0 L ve n) (hb : Below wr.heap.size wr w1) : TabInv K w w1 B0 L ve n where
  box := h.box.below hb
  str := blk_below h.str hb
  exp := own_below h.exp hb
  log := by
    obtain ⟨ys, h1, h2, h3⟩ := h.log
    exact ⟨ys, h1, own_below h2 hb, h3⟩
  bel := bl_then hb h.bel
  b0 := h.b0
  bL := h.bL
  lt := Nat.le_trans h.lt hb.size
theorem TabInv.step {w wr w2 : World} {B0 L n : Nat} {ve v' : Value} (h : TabInv K w wr B0 L ve n) {o : Obj} (hown : w2.ownsRow (L + 2) 3 1 v' (n + 1) (powV K n ++ [.int .i64 (val (pw (gen : K) n))]))
    (hg : (wr.alloc o).grownBy w2 ve.ownBlock) (hn : n < sz K - 1) :
    TabInv K w ((w2.setCell ⟨L + 1, 3, none⟩ v').setCell ⟨L, val (pw (gen : K) n), none⟩ (.int .i64 n)) B0 L v' (n + 1) := by
  have hne1 : some (L + 1) ≠ ve.ownBlock := own_ne h.exp (by omega)
  have hne0 : some L ≠ ve.ownBlock := own_ne h.exp (by omega)
  have hneB : some B0 ≠ ve.ownBlock := own_ne h.exp (by have := h.bL; omega)
  have hstr : w2.heap[L + 1]? = _ := blk_grown (blk_alloc h.str) hg hne1
  obtain ⟨ys, y1, y2, y3⟩ := h.log
  have hlog : w2.ownsRow L 3 1 (.slice (some ⟨L, 0, none⟩) (sz K) (sz K)) (sz K) ys := (y2.alloc o).kept hg (Or.inr hne0)
  have hbel : Below w.heap.size w w2 := bl_grown hg (h.exp.alloc o) (by have := h.b0; have := h.bL; omega) (bl_alloc h.bel)
  have hbox : Box3 w2 B0 (.int .i64 (ch K)) (.int .i64 (sz K)) (.int .i64 (po K)) := by
    have hb := h.box
    exact ⟨hg.cell ((cell_below (bl_alloc (bl_refl wr)) hb.c0)) hneB, hg.cell ((cell_below (bl_alloc (bl_refl wr)) hb.c1)) hneB, hg.cell ((cell_below (bl_alloc (bl_refl wr)) hb.c2)) hneB⟩
  have hB0 := h.b0
  have hBL := h.bL
  have far : ∀ {w : World} {p : Addr} {u v : Value} {j : Nat}, w.cell? ⟨B0, j, none⟩ = some v → B0 ≠ p.block → (w.setCell p u).cell? ⟨B0, j, none⟩ = some v := fun hc hne => by
    rw [World.cell?_of_block (heap_setCell_other _ _ _ _ hne)]; exact hc
  refine ⟨⟨far (far hbox.c0 (by simp; omega)) (by simp; omega), far (far hbox.c1 (by simp; omega)) (by simp; omega), far (far hbox.c2 (by simp; omega)) (by simp; omega)⟩, ?_, ?_, ?_, ?_, hB0, hBL, ?_⟩
  · exact blk_far (blk_set hstr 3 v') (by simp)
  · rw [powV_succ]
    exact own_far (own_far hown (by simp)) (by simp)
  · refine ⟨ys.set (val (pw (gen : K) n)) (.int .i64 n), by simpa using y1, ?_, logV_succ y3 hn y1⟩
    have h1 : (w2.setCell ⟨L + 1, 3, none⟩ v').ownsRow L 3 1 (.slice (some ⟨L, 0, none⟩) (sz K) (sz K)) (sz K) ys := by
      refine hlog.kept (row := some (L + 1)) ⟨rfl, rfl, rfl, by simp, fun k _ hk => heap_setCell_other _ _ _ _ (fun e => hk (by simp [e]))⟩ (Or.inr (by simp [Value.ownBlock]))
    exact (h1.stored _ _).1
  · exact bl_set (by simp; omega) (bl_set (by simp; omega) hbel)
  · have := hg.size
    have := h.lt
    simp at *
    omega

theorem TabInv.arith {w wr : World} {B0 L n : Nat} {ve : Value} (h : TabInv K w wr B0 L ve n) (hn : n = sz K - 1) : Arith K wr (L + 1) := by
  have hs := sz_two (K := K)
  obtain ⟨m, rfl⟩ : ∃ m, n = m + 1 := ⟨n - 1, by omega⟩
  obtain ⟨g, cap, rfl⟩ := own_succ h.exp
  obtain ⟨ys, y1, y2, y3⟩ := h.log
  refine ⟨some ⟨g, 0, none⟩, some ⟨L, 0, none⟩, cap, sz K, blk_cell h.str 0, blk_cell h.str 1, blk_cell h.str 2, ?_, blk_cell h.str 4, ?_, ?_⟩
  · rw [blk_cell h.str 3, ← hn]; rfl
  · intro i hi
    refine ⟨g, 0, rfl, ?_⟩
    rw [Nat.zero_add, h.exp.cellAt i (by omega)]
    unfold powV
    rw [List.getElem?_map, List.getElem?_range (by omega)]
    rfl
  · intro a ha
    refine ⟨L, 0, rfl, ?_⟩
    have h1 := y3 (lg a) (by have := lg_lt a; omega)
    rw [pw_lg ha] at h1
    rw [Nat.zero_add, y2.cellAt (val a) (by have := val_lt a; omega)]
    exact h1

theorem TabInv.mid {w wr w2 : World} {B0 L n : Nat} {ve : Value} (h : TabInv K w wr B0 L ve n) {o : Obj} (hg : (wr.alloc o).grownBy w2 ve.ownBlock) (a : K) :
    w2.cell? ⟨L + 1, 3, none⟩ = some ve ∧ w2.frozen? ⟨L + 1, 3, none⟩ = false ∧ w2.cell? ⟨L + 1, 4, none⟩ = some (.slice (some ⟨L, 0, none⟩) (sz K) (sz K)) ∧
      (∃ y, w2.cell? ⟨L, val a, none⟩ = some y) ∧ w2.frozen? ⟨L, val a, none⟩ = false := by
  have hne1 : some (L + 1) ≠ ve.ownBlock := own_ne h.exp (by omega)
  have hne0 : some L ≠ ve.ownBlock := own_ne h.exp (by omega)
  have hstr := blk_grown (blk_alloc (o' := o) h.str) hg hne1
  obtain ⟨ys, y1, y2, y3⟩ := h.log
  have hlog : w2.ownsRow L 3 1 (.slice (some ⟨L, 0, none⟩) (sz K) (sz K)) (sz K) ys := (y2.alloc o).kept hg (Or.inr hne0)
  refine ⟨blk_cell hstr 3, blk_frozen hstr 3, blk_cell hstr 4, ?_, hlog.frozenAt _⟩
  rw [hlog.cellAt (val a) (by have := val_lt a; omega)]
  exact ⟨_, List.getElem?_eq_getElem (by rw [y1]; exact val_lt a)⟩

set_option maxRecDepth 100000 in
set_option maxHeartbeats 1600000 in
theorem tablesK (w : World) :
    Calls Try.prog 31 #[.agg #[.int .i64 (ch K), .int .i64 (sz K), .int .i64 (po K)]] w fun e w' => ∃ g, e = .returned (.pointer (some ⟨g, 0, none⟩)) ∧ Arith K w' g ∧ Below w.heap.size w w' := by
  have hs := sz_two (K := K)
  have hs2 := sz_max (K := K)
  go_enter Try.func31, Try.ntmps31
  go_wp2_with fail
  refine (generatorEK _).mono ?_
  rintro e w1 ⟨rfl, hb1⟩
  have HBX := As.mk ((Box3.new (w := w) (x := .int .i64 (ch K)) (y := .int .i64 (sz K)) (z := .int .i64 (po K)) (t := 23)).below hb1)
  have HBL : As (Below w.heap.size w w1) := ⟨bl_then hb1 (bl_alloc (bl_refl _))⟩
  have HLT : As (w.heap.size < w1.heap.size) := ⟨World.block_lt_of_cell? w1 _ HBX.out.c0⟩
  clear hb1
  have hc0 := HBX.out.c0
  have hc1 := HBX.out.c1
  have hc2 := HBX.out.c2
  have hmk := mk_ints (n := sz K) (by omega)
  go_wp2
  go_region_held3 (fun w' => w'.cell? ⟨w.heap.size, 0, none⟩ = some (.int .i64 (ch K)) ∧ w'.cell? ⟨w.heap.size, 1, none⟩ = some (.int .i64 (sz K)) ∧ w'.cell? ⟨w.heap.size, 2, none⟩ = some (.int .i64 (po K))) (go_keep) (fail)
  go_wp2
  rename _ ∧ _ ∧ _ => hHeld
  clear hHeld
  have HI : As (TabInv K w ((w1.alloc (.cells (zeros (sz K)) 3)).alloc (.cells #[.int .i64 (ch K), .int .i64 (sz K), .int .i64 (po K), .slice none 0 0, .slice (some ⟨w1.heap.size, 0, none⟩) (sz K) (sz K)] 83)).drew w.heap.size w1.heap.size (.slice none 0 0) 0) := by
    refine ⟨⟨?_, ?_, ?_, ?_, ?_, Nat.le_refl _, HLT.out, ?_⟩⟩
    · exact (HBX.out.below (bl_drew (bl_alloc (bl_alloc (bl_refl _)))))
    · have := heap_alloc_new (w1.alloc (.cells (zeros (sz K)) 3)) (.cells #[.int .i64 (ch K), .int .i64 (sz K), .int .i64 (po K), .slice none 0 0, .slice (some ⟨w1.heap.size, 0, none⟩) (sz K) (sz K)] 83)
      rw [World.size_alloc] at this
      exact this
    · exact World.ownsRow_nil _ _ _ _
    · exact ⟨List.replicate (sz K) (.int .i64 0), by simp, ((zeros_own (Nat.le_refl _) (by omega)).alloc _), fun i hi => by omega⟩
    · exact bl_drew (bl_alloc (bl_alloc HBL.out))
    · simp
  clear hc0 hc1 hc2 hmk HBX HBL HLT
  obtain ⟨L, hL⟩ : ∃ L, w1.heap.size = L := ⟨_, rfl⟩
  rw [hL] at HI ⊢
  clear hL
  go_loopw [22, 6] (fun k v wr => ∃ n : Nat, k = .int .i64 n ∧ v = .int .i64 (val (pw (gen : K) n)) ∧ n ≤ sz K - 1 ∧ As (∃ ve, TabInv K w wr w.heap.size L ve n)) (fun k _ _ => sz K - 1 - (intOf k).toNat)
  case atStart => exact ⟨0, rfl, by show _ = Value.int .i64 (val (1 : K)); rw [val_one]; rfl, by omega, ⟨_, HI.out⟩⟩
  case round =>
    obtain ⟨n, rfl, rfl, hn, hI⟩ := hrel
    obtain ⟨ve, hI⟩ := hI.out
    have HI := As.mk hI
    have hc0 := hI.box.c0
    have hc1 := hI.box.c1
    have hc2 := hI.box.c2
    have h3 : wr.cell? ⟨L + 1, 3, none⟩ = some ve := blk_cell hI.str 3
    have hlt := hI.lt
    clear hI
    by_cases hlt2 : n < sz K - 1
    · have hd : decide ((n : Int) < (sz K : Int) - 1) = true := decide_eq_true (by omega)
      have hB : L + 2 ≤ (wr.alloc (.cells #[.int .i64 (val (pw (gen : K) n))] 3)).heap.size := by rw [World.size_alloc]; omega
      have hnl : n < 1000000 := by omega
      have hcell : (wr.alloc (.cells #[.int .i64 (val (pw (gen : K) n))] 3)).cell? ⟨wr.heap.size, 0, none⟩ = some (.int .i64 (val (pw (gen : K) n))) := blk_cell (heap_alloc_new wr _) 0
      have HO := As.mk (HI.out.exp.alloc (.cells #[.int .i64 (val (pw (gen : K) n))] 3))
      have HHc := As.mk hcell
      clear hcell
      go_wp2_with (at_builtin; refine app1 _ rfl _ _ rfl (L + 2) ve n (powV K n) rfl HO.out wr.heap.size 1 (val (pw (gen : K) n)) rfl HHc.out hnl hB ?_; intro v' w2 hown hgrow; obtain ⟨g', cap', hv'⟩ := own_succ hown; subst hv'; have HS := As.mk (HI.out.step hown hgrow hlt2); obtain ⟨k1, k2, k3, ⟨y, k4⟩, k5⟩ := HI.out.mid hgrow (pw (gen : K) n); have HGrow := As.mk hgrow; have HOwn := As.mk hown; clear hgrow hown; have m0 := HS.out.box.c0; have m1 := HS.out.box.c1; have m2 := HS.out.box.c2; have k6 : (val (pw (gen : K) n) : Int) < (sz K : Int) := by have := val_lt (pw (gen : K) n); omega)
      go_wp2_with fail
      refine (mulK (pw (gen : K) n) (gen : K) _).mono ?_
      rintro e w4 ⟨rfl, hb4⟩
      go_wp2
      go_roundw
      case rel => exact ⟨n + 1, by go_num, rfl, by omega, ⟨_, HS.out.below hb4⟩⟩
      case measure => simp [intOf]; omega
    · have hd : decide ((n : Int) < (sz K : Int) - 1) = false := decide_eq_false (by omega)
      have hnn : As (n = sz K - 1) := ⟨by omega⟩
      go_wp2
      go_ret
      exact ⟨L + 1, rfl, HI.out.arith hnn.out, HI.out.bel⟩
end
end Go.Proofs.Ythcjmmicjbfpgaa.Rs
