/-
The walk of galois.generator: the least generator of a field.
-/
import Derived.Test.YthcjmmicjbfpgaaJWc
import Derived.Test.YthcjmmicjbfpgaaJAb
namespace Go.Proofs.Ythcjmmicjbfpgaa.Rs
open Go.RowKit Go.Proofs.Ythcjmmicjbfpgaa.Alg
open GF
set_option linter.unusedSimpArgs false

/-- the fields whose generators are known -/
def known : List (Nat × Int × Int × Int × Int) :=
  [(2, 2, 16, 19, 2), (4, 2, 64, 67, 2), (6, 2, 256, 285, 2), (8, 2, 256, 301, 2), (10, 2, 1024, 1033, 2), (12, 2, 4096, 4201, 2), (14, 929, 929, 0, 3)]

/-- is operation i listed? -/
def lst (l : Array Bool) (i : Nat) : Bool := l.getD i false
theorem lst_ne {l : Array Bool} {i j : Nat} (h : i ≠ j) : lst (l.setIfInBounds i true) j = lst l j := by
  unfold lst; simp only [Array.getD_eq_getD_getElem?, Array.getElem?_setIfInBounds_ne h]
theorem lst_self {l : Array Bool} {i : Nat} (h : i < l.size) : lst (l.setIfInBounds i true) i = true := by
  unfold lst; simp [Array.getD, h]
theorem lst_get {l : Array Bool} {i : Nat} : l[i]?.getD false = lst l i := by unfold lst; rw [Array.getD_eq_getD_getElem?]

/-- the entries are those that are listed -/
structure Good (l : Array Bool) (es : Array MapEntry) : Prop where
  only : ∀ e ∈ es.toList, ∃ i a b c v, (i, a, b, c, v) ∈ known ∧ lst l i = true ∧ e.key = key3 a b c ∧ e.val = .int .i64 v
  all : ∀ i a b c v, (i, a, b, c, v) ∈ known → lst l i = true → ∃ e ∈ es.toList, e.key = key3 a b c

def on (l : Array Bool) (i : Nat) (v : Value) : Value := if lst l i = true then v else undef
theorem on_self {l : Array Bool} {i : Nat} {v : Value} (h : i < l.size) : on (l.setIfInBounds i true) i v = v := by
  unfold on; rw [lst_self h, if_pos rfl]
theorem on_ne {l : Array Bool} {i j : Nat} {v : Value} (h : i ≠ j) : on (l.setIfInBounds i true) j v = on l j v := by
  unfold on; rw [lst_ne h]
theorem on_yes {l : Array Bool} {i : Nat} {v : Value} (h : lst l i = true) : on l i v = v := by unfold on; rw [if_pos h]

def mapped (W : World) (es : Array MapEntry) (ck : Nat) : World := W.alloc (.map es ck)
theorem mapped_at (W : World) (es : Array MapEntry) (ck : Nat) : (mapped W es ck).heap[W.heap.size]? = some (.map es ck) := heap_alloc_new W _
theorem push_set {α : Type} (xs : Array α) (a b : α) : (xs.push a).setIfInBounds xs.size b = xs.push b := by
  apply Array.ext'
  simp
theorem mapped_set (W : World) (es es' : Array MapEntry) (ck ck' : Nat) : { mapped W es ck with heap := (mapped W es ck).heap.setIfInBounds W.heap.size (.map es' ck') } = mapped W es' ck' := by
  show ({ W with heap := (W.heap.push (.map es ck)).setIfInBounds W.heap.size (.map es' ck') } : World) = { W with heap := W.heap.push (.map es' ck') }
  rw [push_set]

/-- an insertion keeps the entries good -/
theorem Good.put {l : Array Bool} {es : Array MapEntry} (hg : Good l es) {i : Nat} {a b c v : Int} {ck : Nat} (hk : (i, a, b, c, v) ∈ known) (hi : i < l.size) (hl : lst l i = false) :
    Good (l.setIfInBounds i true) (es.push { key := key3 a b c, val := .int .i64 v, born := ck }) ∧ ∀ e ∈ es.toList, ∃ x y z, e.key = key3 x y z ∧ ¬ (a = x ∧ b = y ∧ c = z) := by
  have hdist : ∀ j x y z u, (j, x, y, z, u) ∈ known → a = x ∧ b = y ∧ c = z → j = i := by
    intro j x y z u hj h
    simp only [known, List.mem_cons, Prod.mk.injEq, List.not_mem_nil, or_false] at hj hk
    omega
  constructor
  · constructor
    · intro e he
      rw [Array.toList_push, List.mem_append] at he
      rcases he with he | he
      · obtain ⟨j, x, y, z, u, h1, h2, h3, h4⟩ := hg.only e he
        refine ⟨j, x, y, z, u, h1, ?_, h3, h4⟩
        rw [lst_ne (fun e => by rw [e] at hl; rw [hl] at h2; cases h2)]; exact h2
      · rw [List.mem_singleton] at he
        subst he
        exact ⟨i, a, b, c, v, hk, lst_self hi, rfl, rfl⟩
    · intro j x y z u hj h
      by_cases e : i = j
      · subst e
        refine ⟨_, by rw [Array.toList_push, List.mem_append]; exact Or.inr (List.mem_singleton.mpr rfl), ?_⟩
        have : a = x ∧ b = y ∧ c = z := by
          simp only [known, List.mem_cons, Prod.mk.injEq, List.not_mem_nil, or_false] at hj hk
          omega
        obtain ⟨rfl, rfl, rfl⟩ := this
        rfl
      · rw [lst_ne e] at h
        obtain ⟨e', h1, h2⟩ := hg.all j x y z u hj h
        exact ⟨e', by rw [Array.toList_push, List.mem_append]; exact Or.inl h1, h2⟩
  · intro e he
    obtain ⟨j, x, y, z, u, h1, h2, h3, h4⟩ := hg.only e he
    refine ⟨x, y, z, h3, fun h => ?_⟩
    have := hdist j x y z u h1 h
    rw [this, hl] at h2
    cases h2

/-- the world while the map is filled -/
def MW (l : Array Bool) (W w' : World) : Prop := (lst l 0 = true → ∃ es ck, w' = mapped W es ck ∧ Good l es) ∧ (lst l 0 = false → w' = W ∧ ∀ i a b c v, (i, a, b, c, v) ∈ known → lst l i = false)
theorem MW.made {l : Array Bool} {W w' : World} (h : MW l W w') (hl : l.size = 17) (h0 : lst l 0 = false) : w' = W ∧ MW (l.setIfInBounds 0 true) W (W.alloc (.map #[] 0)) := by
  obtain ⟨h1, h2⟩ := h.2 h0
  refine ⟨h1, fun _ => ⟨#[], 0, rfl, ?_, ?_⟩, fun h => ?_⟩
  · intro e he; simp at he
  · intro i a b c v hk h
    by_cases e : 0 = i
    · subst e
      simp [known] at hk
    · rw [lst_ne e, h2 i a b c v hk] at h; cases h
  · rw [lst_self (by omega)] at h; cases h
theorem MW.other {l : Array Bool} {W w' : World} (h : MW l W w') {i : Nat} (hi : i % 2 = 1 ∨ i = 16) : MW (l.setIfInBounds i true) W w' := by
  have hne : ∀ j a b c v, (j, a, b, c, v) ∈ known → i ≠ j := by
    intro j a b c v hk
    simp only [known, List.mem_cons, Prod.mk.injEq, List.not_mem_nil, or_false] at hk
    omega
  constructor
  · intro h0
    rw [lst_ne (by omega)] at h0
    obtain ⟨es, ck, h1, h2⟩ := h.1 h0
    refine ⟨es, ck, h1, ?_, ?_⟩
    · intro e he
      obtain ⟨j, a, b, c, v, k1, k2, k3, k4⟩ := h2.only e he
      exact ⟨j, a, b, c, v, k1, by rw [lst_ne (hne j a b c v k1)]; exact k2, k3, k4⟩
    · intro j a b c v k1 k2
      rw [lst_ne (hne j a b c v k1)] at k2
      exact h2.all j a b c v k1 k2
  · intro h0
    rw [lst_ne (by omega)] at h0
    obtain ⟨h1, h2⟩ := h.2 h0
    exact ⟨h1, fun j a b c v k1 => by rw [lst_ne (hne j a b c v k1)]; exact h2 j a b c v k1⟩
theorem MW.put {l : Array Bool} {W w' : World} (h : MW l W w') (hl : l.size = 17) (h0 : lst l 0 = true) {i : Nat} {a b c v : Int} {r : Nat} (hr : W.heap.size = r) (hk : (i, a, b, c, v) ∈ known) (hf : lst l i = false) :
    ∃ w2, (Instr.mapUpdate 115 (.map (some r)) (key3 a b c) (.int .i64 v)).run Try.prog w' = .ok () w2 ∧ MW (l.setIfInBounds i true) W w2 := by
  subst hr
  obtain ⟨es, ck, rfl, hg⟩ := h.1 h0
  have hi : i < 17 ∧ 0 ≠ i := by
    simp only [known, List.mem_cons, Prod.mk.injEq, List.not_mem_nil, or_false] at hk
    omega
  obtain ⟨g1, g2⟩ := hg.put (ck := ck) hk (by omega) hf
  refine ⟨_, map_put (mapped_at W es ck) g2, fun _ => ⟨_, _, mapped_set W es _ ck _, g1⟩, fun h => ?_⟩
  rw [lst_ne (fun e => hi.2 e.symm), h0] at h
  cases h

theorem build3 (a b c : Int) (w : World) : (Instr.build 23 #[(0, .int .i64 a), (1, .int .i64 b), (2, .int .i64 c)]).run Try.prog w = .ok (key3 a b c) w := run_build w 23 _ _ (by kernel_rfl)
theorem build2 (a b : Int) (w : World) : (Instr.build 23 #[(0, .int .i64 a), (1, .int .i64 b)]).run Try.prog w = .ok (key3 a b 0) w := run_build w 23 _ _ (by kernel_rfl)

section
variable {K : Type} [GF K]
/-- the known generators are the least ones -/
theorem gen_of_known {i : Nat} {a b c v : Int} (h : (i, a, b, c, v) ∈ known) (h1 : (ch K : Int) = a) (h2 : (sz K : Int) = b) (h3 : (po K : Int) = c) : ((val (gen : K) : Nat) : Int) = v := by
  simp only [known, List.mem_cons, Prod.mk.injEq, List.not_mem_nil, or_false] at h
  have key : ∀ n : Nat, v = n → val (gen : K) = n → ((val (gen : K) : Nat) : Int) = v := fun n e1 e2 => by rw [e1, e2]
  rcases h with ⟨_, rfl, rfl, rfl, rfl⟩ | ⟨_, rfl, rfl, rfl, rfl⟩ | ⟨_, rfl, rfl, rfl, rfl⟩ | ⟨_, rfl, rfl, rfl, rfl⟩ | ⟨_, rfl, rfl, rfl, rfl⟩ | ⟨_, rfl, rfl, rfl, rfl⟩ | ⟨_, rfl, rfl, rfl, rfl⟩
  · have e1 : ch K = 2 := by omega
    have e2 : sz K = 16 := by omega
    have e3 : po K = 19 := by omega
    exact key 2 rfl (gen_known (ps := [3, 5]) (by omega) (by omega) (by omega) (by rw [e2]; decide +kernel) (by rw [e1, e2, e3]; decide +kernel) (by rw [e1, e2, e3]; decide +kernel) (fun u h1 h2 => by omega))
  · have e1 : ch K = 2 := by omega
    have e2 : sz K = 64 := by omega
    have e3 : po K = 67 := by omega
    exact key 2 rfl (gen_known (ps := [3, 7]) (by omega) (by omega) (by omega) (by rw [e2]; decide +kernel) (by rw [e1, e2, e3]; decide +kernel) (by rw [e1, e2, e3]; decide +kernel) (fun u h1 h2 => by omega))
  · have e1 : ch K = 2 := by omega
    have e2 : sz K = 256 := by omega
    have e3 : po K = 285 := by omega
    exact key 2 rfl (gen_known (ps := [3, 5, 17]) (by omega) (by omega) (by omega) (by rw [e2]; decide +kernel) (by rw [e1, e2, e3]; decide +kernel) (by rw [e1, e2, e3]; decide +kernel) (fun u h1 h2 => by omega))
  · have e1 : ch K = 2 := by omega
    have e2 : sz K = 256 := by omega
    have e3 : po K = 301 := by omega
    exact key 2 rfl (gen_known (ps := [3, 5, 17]) (by omega) (by omega) (by omega) (by rw [e2]; decide +kernel) (by rw [e1, e2, e3]; decide +kernel) (by rw [e1, e2, e3]; decide +kernel) (fun u h1 h2 => by omega))
  · have e1 : ch K = 2 := by omega
    have e2 : sz K = 1024 := by omega
    have e3 : po K = 1033 := by omega
    exact key 2 rfl (gen_known (ps := [3, 11, 31]) (by omega) (by omega) (by omega) (by rw [e2]; decide +kernel) (by rw [e1, e2, e3]; decide +kernel) (by rw [e1, e2, e3]; decide +kernel) (fun u h1 h2 => by omega))
  · have e1 : ch K = 2 := by omega
    have e2 : sz K = 4096 := by omega
    have e3 : po K = 4201 := by omega
    exact key 2 rfl (gen_known (ps := [3, 5, 7, 13]) (by omega) (by omega) (by omega) (by rw [e2]; decide +kernel) (by rw [e1, e2, e3]; decide +kernel) (by rw [e1, e2, e3]; decide +kernel) (fun u h1 h2 => by omega))
  · have e1 : ch K = 929 := by omega
    have e2 : sz K = 929 := by omega
    have e3 : po K = 0 := by omega
    exact key 3 rfl (gen_known (ps := [2, 29]) (by omega) (by omega) (by omega) (by rw [e2]; decide +kernel) (by rw [e1, e2, e3]; decide +kernel) (by rw [e1, e2, e3]; decide +kernel) (fun u h1 h2 => ⟨464, by omega, by omega, by
      have : u = 2 := by omega
      subst this; rw [e1, e2, e3]; decide +kernel⟩))

set_option maxRecDepth 100000 in
set_option maxHeartbeats 1600000 in
theorem generatorK (w : World) :
    Calls Try.prog 83 #[.agg #[.int .i64 (ch K), .int .i64 (sz K), .int .i64 (po K)]] w fun e w' => e = .returned (.int .i64 (val (gen : K))) ∧ Below w.heap.size w w' := by
  go_enter Try.func83, Try.ntmps83
  go_wp2
  obtain ⟨W, hW⟩ : ∃ W : World, W = w.alloc (.cells #[.int .i64 (ch K), .int .i64 (sz K), .int .i64 (po K)] 23) := ⟨_, rfl⟩
  rw [← hW]
  have HW := As.mk hW
  clear hW
  refine wp_region_any (by kernel_rfl) (wpAny_inv (by kernel_rfl)
    (fun l a w' => l.size = 17 ∧ a = { tmps := #[.agg #[.int .i64 (ch K), .int .i64 (sz K), .int .i64 (po K)], .pointer (some ⟨w.heap.size, 0, none⟩), .int .i64 0, on l 16 (.map (some W.heap.size)), undef, undef, undef, on l 0 (.map (some W.heap.size)), on l 1 (key3 2  16  19), on l 3 (key3 2  64  67), on l 5 (key3 2  256  285), on l 7 (key3 2  256  301), on l 9 (key3 2  1024  1033), on l 11 (key3 2  4096  4201), on l 13 (key3 929  929  0), on l 15 (.map (some W.heap.size)), undef, undef, undef, undef, undef, undef, undef, undef, undef, undef, undef, undef, undef, undef, undef, undef, undef, undef], defers := [] } ∧ MW l W.drew w') ?hend ?hstep _ _ _ _ (by simp) (by decide) ?hinit)
  case hinit =>
    refine ⟨by simp, by simp [on, lst, Array.getD], ?_, ?_⟩
    · intro h; simp [lst, Array.getD] at h
    · intro _
      refine ⟨rfl, ?_⟩
      intro i a b c v hk
      simp only [known, List.mem_cons, Prod.mk.injEq, List.not_mem_nil, or_false] at hk
      have hi : i < 17 := by omega
      unfold lst
      rw [Array.getD_eq_getD_getElem?, Array.getElem?_replicate]
      split <;> rfl
  case hend =>
    rintro l a w' ⟨hl, rfl, hw⟩ hall
    obtain ⟨es, ck, hw2, hg⟩ := hw.1 (hall 0 (by simp))
    have hm : w'.heap[W.heap.size]? = some (.map es ck) := by rw [hw2]; exact mapped_at _ _ _
    have hbl : Below w.heap.size w w' := by
      rw [hw2]; unfold mapped; rw [HW.out]
      repeat (first | exact bl_refl _ | apply bl_drew | apply bl_alloc)
    have hbx : Box3 w' w.heap.size (.int .i64 (ch K)) (.int .i64 (sz K)) (.int .i64 (po K)) := by
      have h1 := Box3.new (w := w) (x := .int .i64 (ch K)) (y := .int .i64 (sz K)) (z := .int .i64 (po K)) (t := 23)
      rw [← HW.out] at h1
      have h2 := h1.drew.below (bl_alloc (o := .map es ck) (bl_refl W.drew))
      rw [hw2]; exact h2
    have hon : ∀ i v, i < 17 → on l i v = v := fun i v hi => on_yes (hall i hi)
    simp only [hon 16 _ (by omega), hon 0 _ (by omega), hon 1 _ (by omega), hon 3 _ (by omega), hon 5 _ (by omega), hon 7 _ (by omega), hon 9 _ (by omega), hon 11 _ (by omega), hon 13 _ (by omega), hon 15 _ (by omega)]
    have HG := As.mk hg
    have HALL := As.mk hall
    have HM := As.mk hm
    have HBL := As.mk hbl
    clear hw hw2 hon hg hall hm hbl
    obtain ⟨r, hr⟩ : ∃ r, W.heap.size = r := ⟨_, rfl⟩
    rw [hr] at HM ⊢
    clear hr HW
    have hc0 := hbx.c0
    have hc1 := hbx.c1
    have hc2 := hbx.c2
    by_cases hk : ∃ i a b c v, (i, a, b, c, v) ∈ known ∧ (ch K : Int) = a ∧ (sz K : Int) = b ∧ (po K : Int) = c
    · obtain ⟨i, a, b, c, v, k1, k2, k3, k4⟩ := hk
      have hgen := As.mk (gen_of_known k1 k2 k3 k4)
      have hlook : (Instr.lookup 115 (.map (some r)) (.agg #[.int .i64 (ch K), .int .i64 (sz K), .int .i64 (po K)]) true).run Try.prog w' = .ok (.tuple #[.int .i64 v, .bool true]) w' := by
        refine map_get_some HM.out ?_ ?_
        · intro e he
          obtain ⟨j, x, y, z, u, g1, g2, g3, g4⟩ := HG.out.only e he
          refine ⟨x, y, z, g3, fun h => ?_⟩
          rw [g4]
          have : u = v := by
            simp only [known, List.mem_cons, Prod.mk.injEq, List.not_mem_nil, or_false] at g1 k1
            omega
          rw [this]
        · obtain ⟨e, he, h⟩ := HG.out.all i a b c v k1 (HALL.out i (by
            simp only [known, List.mem_cons, Prod.mk.injEq, List.not_mem_nil, or_false] at k1
            show i < 17
            omega))
          exact ⟨e, he, by rw [h, k2, k3, k4]⟩
      clear k1 k2 k3 k4
      go_wp2
      go_ret
      exact ⟨ret_int hgen.out.symm, HBL.out⟩
    · have hlook : (Instr.lookup 115 (.map (some r)) (.agg #[.int .i64 (ch K), .int .i64 (sz K), .int .i64 (po K)]) true).run Try.prog w' = .ok (.tuple #[.int .i64 0, .bool false]) w' := by
        refine map_get_none HM.out ?_
        intro e he
        obtain ⟨j, x, y, z, u, g1, g2, g3, g4⟩ := HG.out.only e he
        exact ⟨x, y, z, g3, fun h => hk ⟨j, x, y, z, u, g1, h.1, h.2.1, h.2.2⟩⟩
      clear hk
      have hsz := sz_max (K := K)
      have hs2 := sz_two (K := K)
      have hgl := val_lt (gen : K)
      have hg0 : 1 ≤ val (gen : K) := by
        have : val (gen : K) ≠ 0 := fun e => gen_ne (val_eq_zero.mp e)
        omega
      have HBX := As.mk hbx
      clear hbx
      go_wp2
      clear hlook hc0 hc1 hc2
      go_loopw [6] (fun k wr => ∃ (m : Nat), k = .int .i64 m ∧ 1 ≤ m ∧ m ≤ val (gen : K) ∧ As (Box3 wr w.heap.size (.int .i64 (ch K)) (.int .i64 (sz K)) (.int .i64 (po K))) ∧ As (Below w.heap.size w wr)) (fun k _ => val (gen : K) - (intOf k).toNat)
      case atStart => exact ⟨1, rfl, by omega, by omega, HBX, HBL⟩
      case round =>
        clear HM HG HBX HBL HALL
        obtain ⟨m, rfl, hm1, hm2, hbx, hbl⟩ := hrel
        have hc0 := hbx.out.c0
        have hc1 := hbx.out.c1
        have hc2 := hbx.out.c2
        obtain ⟨u, hu⟩ : ∃ u : K, val u = m := ⟨of m, val_of m (by omega)⟩
        have hu0 : u ≠ 0 := fun e => by rw [e, val_zero] at hu; omega
        obtain ⟨n, hn1, hn2⟩ := ord_of hu0
        have hcall := orderK u n hn2 (by omega)
        rw [hu] at hcall
        have HC := As.mk hcall
        have HU := As.mk hu
        have HO := As.mk hn2
        clear hcall hu hn2 hu0
        have e1 : IntKind.i64.wrap ((sz K : Int) - 1) = (sz K : Int) - 1 := in64 (by omega) (by omega)
        by_cases hgen : n = sz K - 1
        · have hmg : As (m = val (gen : K)) := ⟨by
            have := gen_least u (by unfold IsGen; rw [← hgen]; exact HO.out)
            have := HU.out
            omega⟩
          have e2 : ((n : Int) == (sz K : Int) - 1) = true := beq_iff_eq.mpr (by omega)
          have e3 : ((n : Int) != (sz K : Int) - 1) = false := bne_eq_false_iff_eq.mpr (by omega)
          clear hgen
          go_wp2
          go_region_held3 (fun w' => w'.cell? ⟨w.heap.size, 0, none⟩ = some (.int .i64 (ch K)) ∧ w'.cell? ⟨w.heap.size, 1, none⟩ = some (.int .i64 (sz K)) ∧ w'.cell? ⟨w.heap.size, 2, none⟩ = some (.int .i64 (po K))) (first | go_keep | exact And.imp (cell_below hb) (And.imp (cell_below hb) (cell_below hb)) (by assumption))
            (first | (go_at_call 103; refine (HC.out _).mono ?_; rintro e w1 ⟨rfl, hb⟩))
          all_goals go_wp2
          all_goals
            go_ret
            refine ⟨ret_int (by rw [hmg.out]), ?_⟩
            exact bl_then hb (bl_drew hbl.out)
        · have hne : As (m ≠ val (gen : K)) := ⟨fun e => hgen (by
            have hug : u = gen := val_inj (by rw [HU.out, e])
            have := HO.out
            rw [hug] at this
            exact this.uniq gen_ord)⟩
          have e2 : ((n : Int) == (sz K : Int) - 1) = false := beq_eq_false_iff_ne.mpr (by omega)
          have e3 : ((n : Int) != (sz K : Int) - 1) = true := bne_iff_ne.mpr (by omega)
          clear hgen
          go_wp2
          go_region_held3 (fun w' => w'.cell? ⟨w.heap.size, 0, none⟩ = some (.int .i64 (ch K)) ∧ w'.cell? ⟨w.heap.size, 1, none⟩ = some (.int .i64 (sz K)) ∧ w'.cell? ⟨w.heap.size, 2, none⟩ = some (.int .i64 (po K))) (first | go_keep | exact And.imp (cell_below hb) (And.imp (cell_below hb) (cell_below hb)) (by assumption))
            (first | (go_at_call 103; refine (HC.out _).mono ?_; rintro e w1 ⟨rfl, hb⟩))
          all_goals go_wp2
          all_goals
            go_roundw
            case rel => exact ⟨m + 1, by go_num, by omega, by have := hne.out; omega, ⟨hbx.out.drew.below hb⟩, ⟨bl_then hb (bl_drew hbl.out)⟩⟩
            case measure => simp [intOf]; have := hne.out; omega
  case hstep =>
    rintro l a w' hls ⟨hl, rfl, hw⟩ i hi hf hd
    have hcases : i = 0 ∨ i = 1 ∨ i = 2 ∨ i = 3 ∨ i = 4 ∨ i = 5 ∨ i = 6 ∨ i = 7 ∨ i = 8 ∨ i = 9 ∨ i = 10 ∨ i = 11 ∨ i = 12 ∨ i = 13 ∨ i = 14 ∨ i = 15 ∨ i = 16 := by
      have : i < 17 := hi
      omega
    have hf' : lst l i = false := by
      have h1 : i < l.size := by rw [hl]; exact hi
      unfold lst
      simp only [Array.getD, h1, dif_pos] at hf ⊢
      exact hf
    clear hls hi hf
    rcases hcases with rfl | rfl | rfl | rfl | rfl | rfl | rfl | rfl | rfl | rfl | rfl | rfl | rfl | rfl | rfl | rfl | rfl
    · -- the map is made
      obtain ⟨rfl, hw2⟩ := hw.made hl hf'
      have hput : ∀ j v, 0 ≠ j → on (l.setIfInBounds 0 true) j v = on l j v := fun j v h => on_ne h
      have hs : ∀ v, on (l.setIfInBounds 0 true) 0 v = v := fun v => on_self (by omega)
      simp [wpOp, Oper.wp, Oper.upon, execOp, run_makeMap_plain, Region.wanted, Act.put, hput, hs, hl, go_sem]
      exact Or.inl hw2
    · have hput : ∀ j v, 1 ≠ j → on (l.setIfInBounds 1 true) j v = on l j v := fun j v h => on_ne h
      have hs : ∀ v, on (l.setIfInBounds 1 true) 1 v = v := fun v => on_self (by omega)
      simp [wpOp, Oper.wp, Oper.upon, execOp, build3, build2, Region.wanted, Act.put, hput, hs, hl, go_sem]
      exact Or.inl ⟨rfl, hw.other (i := 1) (by omega)⟩
    · simp [lst_get, Region.binds] at hd
      obtain ⟨w2, hr, hw2⟩ := hw.put hl hd.1 (i := 2) (a := 2) (b := 16) (c := 19) (v := 2) (r := W.heap.size) rfl (by simp [known]) hf'
      have hput : ∀ j v, 2 ≠ j → on (l.setIfInBounds 2 true) j v = on l j v := fun j v h => on_ne h
      simp [wpOp, Oper.wp, Oper.upon, execOp, Region.wanted, Act.put, hput, hl, on_yes hd.1, on_yes hd.2, hr, go_sem]
      exact Or.inl hw2
    · have hput : ∀ j v, 3 ≠ j → on (l.setIfInBounds 3 true) j v = on l j v := fun j v h => on_ne h
      have hs : ∀ v, on (l.setIfInBounds 3 true) 3 v = v := fun v => on_self (by omega)
      simp [wpOp, Oper.wp, Oper.upon, execOp, build3, build2, Region.wanted, Act.put, hput, hs, hl, go_sem]
      exact Or.inl ⟨rfl, hw.other (i := 3) (by omega)⟩
    · simp [lst_get, Region.binds] at hd
      obtain ⟨w2, hr, hw2⟩ := hw.put hl hd.1 (i := 4) (a := 2) (b := 64) (c := 67) (v := 2) (r := W.heap.size) rfl (by simp [known]) hf'
      have hput : ∀ j v, 4 ≠ j → on (l.setIfInBounds 4 true) j v = on l j v := fun j v h => on_ne h
      simp [wpOp, Oper.wp, Oper.upon, execOp, Region.wanted, Act.put, hput, hl, on_yes hd.1, on_yes hd.2, hr, go_sem]
      exact Or.inl hw2
    · have hput : ∀ j v, 5 ≠ j → on (l.setIfInBounds 5 true) j v = on l j v := fun j v h => on_ne h
      have hs : ∀ v, on (l.setIfInBounds 5 true) 5 v = v := fun v => on_self (by omega)
      simp [wpOp, Oper.wp, Oper.upon, execOp, build3, build2, Region.wanted, Act.put, hput, hs, hl, go_sem]
      exact Or.inl ⟨rfl, hw.other (i := 5) (by omega)⟩
    · simp [lst_get, Region.binds] at hd
      obtain ⟨w2, hr, hw2⟩ := hw.put hl hd.1 (i := 6) (a := 2) (b := 256) (c := 285) (v := 2) (r := W.heap.size) rfl (by simp [known]) hf'
      have hput : ∀ j v, 6 ≠ j → on (l.setIfInBounds 6 true) j v = on l j v := fun j v h => on_ne h
      simp [wpOp, Oper.wp, Oper.upon, execOp, Region.wanted, Act.put, hput, hl, on_yes hd.1, on_yes hd.2, hr, go_sem]
      exact Or.inl hw2
    · have hput : ∀ j v, 7 ≠ j → on (l.setIfInBounds 7 true) j v = on l j v := fun j v h => on_ne h
      have hs : ∀ v, on (l.setIfInBounds 7 true) 7 v = v := fun v => on_self (by omega)
      simp [wpOp, Oper.wp, Oper.upon, execOp, build3, build2, Region.wanted, Act.put, hput, hs, hl, go_sem]
      exact Or.inl ⟨rfl, hw.other (i := 7) (by omega)⟩
    · simp [lst_get, Region.binds] at hd
      obtain ⟨w2, hr, hw2⟩ := hw.put hl hd.1 (i := 8) (a := 2) (b := 256) (c := 301) (v := 2) (r := W.heap.size) rfl (by simp [known]) hf'
      have hput : ∀ j v, 8 ≠ j → on (l.setIfInBounds 8 true) j v = on l j v := fun j v h => on_ne h
      simp [wpOp, Oper.wp, Oper.upon, execOp, Region.wanted, Act.put, hput, hl, on_yes hd.1, on_yes hd.2, hr, go_sem]
      exact Or.inl hw2
    · have hput : ∀ j v, 9 ≠ j → on (l.setIfInBounds 9 true) j v = on l j v := fun j v h => on_ne h
      have hs : ∀ v, on (l.setIfInBounds 9 true) 9 v = v := fun v => on_self (by omega)
      simp [wpOp, Oper.wp, Oper.upon, execOp, build3, build2, Region.wanted, Act.put, hput, hs, hl, go_sem]
      exact Or.inl ⟨rfl, hw.other (i := 9) (by omega)⟩
    · simp [lst_get, Region.binds] at hd
      obtain ⟨w2, hr, hw2⟩ := hw.put hl hd.1 (i := 10) (a := 2) (b := 1024) (c := 1033) (v := 2) (r := W.heap.size) rfl (by simp [known]) hf'
      have hput : ∀ j v, 10 ≠ j → on (l.setIfInBounds 10 true) j v = on l j v := fun j v h => on_ne h
      simp [wpOp, Oper.wp, Oper.upon, execOp, Region.wanted, Act.put, hput, hl, on_yes hd.1, on_yes hd.2, hr, go_sem]
      exact Or.inl hw2
    · have hput : ∀ j v, 11 ≠ j → on (l.setIfInBounds 11 true) j v = on l j v := fun j v h => on_ne h
      have hs : ∀ v, on (l.setIfInBounds 11 true) 11 v = v := fun v => on_self (by omega)
      simp [wpOp, Oper.wp, Oper.upon, execOp, build3, build2, Region.wanted, Act.put, hput, hs, hl, go_sem]
      exact Or.inl ⟨rfl, hw.other (i := 11) (by omega)⟩
    · simp [lst_get, Region.binds] at hd
      obtain ⟨w2, hr, hw2⟩ := hw.put hl hd.1 (i := 12) (a := 2) (b := 4096) (c := 4201) (v := 2) (r := W.heap.size) rfl (by simp [known]) hf'
      have hput : ∀ j v, 12 ≠ j → on (l.setIfInBounds 12 true) j v = on l j v := fun j v h => on_ne h
      simp [wpOp, Oper.wp, Oper.upon, execOp, Region.wanted, Act.put, hput, hl, on_yes hd.1, on_yes hd.2, hr, go_sem]
      exact Or.inl hw2
    · have hput : ∀ j v, 13 ≠ j → on (l.setIfInBounds 13 true) j v = on l j v := fun j v h => on_ne h
      have hs : ∀ v, on (l.setIfInBounds 13 true) 13 v = v := fun v => on_self (by omega)
      simp [wpOp, Oper.wp, Oper.upon, execOp, build3, build2, Region.wanted, Act.put, hput, hs, hl, go_sem]
      exact Or.inl ⟨rfl, hw.other (i := 13) (by omega)⟩
    · simp [lst_get, Region.binds] at hd
      obtain ⟨w2, hr, hw2⟩ := hw.put hl hd.1 (i := 14) (a := 929) (b := 929) (c := 0) (v := 3) (r := W.heap.size) rfl (by simp [known]) hf'
      have hput : ∀ j v, 14 ≠ j → on (l.setIfInBounds 14 true) j v = on l j v := fun j v h => on_ne h
      simp [wpOp, Oper.wp, Oper.upon, execOp, Region.wanted, Act.put, hput, hl, on_yes hd.1, on_yes hd.2, hr, go_sem]
      exact Or.inl hw2
    · simp [lst_get, Region.binds] at hd
      have hput : ∀ j v, 15 ≠ j → on (l.setIfInBounds 15 true) j v = on l j v := fun j v h => on_ne h
      have hs : ∀ v, on (l.setIfInBounds 15 true) 15 v = v := fun v => on_self (by omega)
      simp [wpOp, Oper.wp, Oper.upon, execOp, Region.wanted, Act.put, hput, hs, hl, go_sem]
      exact Or.inl ⟨on_yes hd.1, hw.other (i := 15) (by omega)⟩
    · simp [lst_get, Region.binds] at hd
      have hput : ∀ j v, 16 ≠ j → on (l.setIfInBounds 16 true) j v = on l j v := fun j v h => on_ne h
      have hs : ∀ v, on (l.setIfInBounds 16 true) 16 v = v := fun v => on_self (by omega)
      simp [wpOp, Oper.wp, Oper.upon, execOp, Region.wanted, Act.put, hput, hs, hl, go_sem]
      exact Or.inl ⟨on_yes (by simp [hd]), hw.other (i := 16) (by omega)⟩

set_option maxRecDepth 100000 in
set_option maxHeartbeats 800000 in
theorem generatorEK (w : World) :
    Calls Try.prog 63 #[.agg #[.int .i64 (ch K), .int .i64 (sz K), .int .i64 (po K)]] w fun e w' => e = .returned (.tuple #[.int .i64 (val (gen : K)), .int .i64 0]) ∧ Below w.heap.size w w' := by
  go_enter Try.func63, Try.ntmps63
  go_wp2_with fail
  refine (validK _).mono ?_
  rintro e w1 ⟨rfl, hb1⟩
  obtain ⟨hc, hf⟩ := bcell hb1
  go_wp2_with fail
  refine (generatorK _).mono ?_
  rintro e w2 ⟨rfl, hb2⟩
  go_wp2
  go_ret2
  refine ⟨rfl, ?_⟩
  repeat (first | exact bl_refl _ | apply bl_drew | apply bl_alloc | apply bl_then hb2 | apply bl_then hb1)
end
end Go.Proofs.Ythcjmmicjbfpgaa.Rs
