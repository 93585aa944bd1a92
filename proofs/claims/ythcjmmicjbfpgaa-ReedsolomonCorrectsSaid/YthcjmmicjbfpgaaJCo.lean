/-
The library's functions on slices of numbers, as the walks use them.
The walks of New and valid of package reedsolomon: which codes are valid.
-/
import Derived.Test.YthcjmmicjbfpgaaJPr
import Derived.Test.YthcjmmicjbfpgaaJSh
namespace Go.Proofs.Ythcjmmicjbfpgaa.Rs
open Go.RowKit Go.Proofs.Ythcjmmicjbfpgaa.Alg
open GF
set_option linter.unusedSimpArgs false

def encI (x : Int) : Value := Value.int .i64 x
/-- a row of numbers of the call's own -/
def OwnI (w : World) (B : Nat) (v : Value) (xs : List Int) : Prop := w.ownsRow B 3 1 v xs.length (xs.map (Value.int .i64))
theorem RdI.nil {w : World} {A : Option Addr} : RdI w A [] := fun i hi => by simp at hi
theorem RdI.cells {w : World} {b o : Nat} {xs : List Int} (h : RdI w (some ⟨b, o, none⟩) xs) : ∀ j, j < xs.length → w.cell? ⟨b, o + j, none⟩ = some (.int .i64 (xs.getD j 0)) := fun j hj => by
  obtain ⟨b', o', e, hc⟩ := h j hj
  simp only [Option.some.injEq, Addr.mk.injEq, and_true] at e
  obtain ⟨rfl, rfl⟩ := e
  exact hc
theorem RdI.some {w : World} {A : Option Addr} {xs : List Int} (h : RdI w A xs) (h0 : 0 < xs.length) : ∃ b o, A = some ⟨b, o, none⟩ := by
  obtain ⟨b, o, e, _⟩ := h 0 h0
  exact ⟨b, o, e⟩
theorem OwnI.read {w : World} {B : Nat} {v : Value} {xs : List Int} (h : OwnI w B v xs) : ∃ A c, v = .slice A xs.length c ∧ xs.length ≤ c ∧ RdI w A xs ∧ (0 < xs.length → ∃ g, A = some ⟨g, 0, none⟩ ∧ B ≤ g ∧ g < w.heap.size) := by
  rcases h.2 with ⟨h1, h2⟩ | ⟨g, cap, cur, h1, h2, h3, h4, h5, h6, h7⟩
  · have : xs = [] := List.length_eq_zero_iff.mp h2
    subst this
    exact ⟨none, 0, h1, Nat.le_refl _, RdI.nil, fun h => by simp at h⟩
  · subst h1
    refine ⟨_, cap, rfl, h4, fun i hi => ⟨g, 0, rfl, ?_⟩, fun _ => ⟨g, rfl, h2, (Array.getElem?_eq_some_iff.1 h3).1⟩⟩
    have := World.ownsRow.cellAt (w := w) (base := B) (e := 3) (size := 1) (g := g) (cap := cap) h i (by omega)
    rw [Nat.zero_add, this]
    simp only [List.getElem?_map, List.getD_eq_getElem?_getD]
    rw [List.getElem?_eq_getElem hi]
    rfl

set_option maxRecDepth 100000 in
/-- slices.Clone: a row of the call's own with the same numbers -/
theorem cloneI (A : Option Addr) (c : Nat) (xs : List Int) (w : World) (h : RdI w A xs) (hl : xs.length ≤ 1000000) (hA : xs = [] → A = none ∨ ∃ a, A = some a) :
    Calls Try.prog 37 #[.slice A xs.length c] w fun e w' => ∃ v, e = .returned v ∧ As (OwnI w' w.heap.size v xs) ∧ Below w.heap.size w w' := by
  by_cases h0 : 0 < xs.length
  · obtain ⟨b, o, rfl⟩ := h.some h0
    refine (Try.slices_Clone_int b o xs.length c xs w (Nat.le_refl _) (by omega) h.cells).mono ?_
    rintro e w' ⟨v, he, h1, _, h2⟩
    refine ⟨v, he, ⟨?_⟩, h2⟩
    rw [List.take_length] at h1
    exact h1
  · have : xs = [] := List.length_eq_zero_iff.mp (by omega)
    subst this
    rcases hA rfl with rfl | ⟨a, rfl⟩
    · refine (Try.slices_Clone_int_nil 0 c w).mono ?_
      rintro e w' ⟨he, hw⟩
      subst hw
      exact ⟨_, he, ⟨World.ownsRow_nil _ _ _ _⟩, bl_refl _⟩
    · refine (Try.slices_Clone_int_zero a c w).mono ?_
      rintro e w' ⟨v, he, h1, _, h2⟩
      exact ⟨v, he, ⟨h1⟩, h2⟩

theorem set_cells_bl {w W : World} {b o : Nat} {cs : List Value} (h : Below w.heap.size w W) (hb : w.heap.size ≤ b) : Below w.heap.size w (W.setCells b o cs) := by
  induction cs generalizing W o with
  | nil => exact h
  | cons c cs ih => exact ih (bl_set hb h)
end Go.Proofs.Ythcjmmicjbfpgaa.Rs

namespace Go.Proofs.Ythcjmmicjbfpgaa.Rs
open Go.RowKit Go.Proofs.Ythcjmmicjbfpgaa.Alg
open GF
set_option linter.unusedSimpArgs false

/-- a code of whole numbers is valid -/
def CI (c s p par fst : Int) : Prop := VI c s p ∧ 1 ≤ par ∧ par ≤ s - 2 ∧ 0 ≤ fst ∧ fst ≤ s - 2
open Classical in
/-- the error of New -/
noncomputable def newE (c s p par fst : Int) : Int := if ¬ VI c s p then 1 else if CI c s p par fst then 0 else 3
open Classical in
/-- the result of New -/
noncomputable def newV (c s p par fst : Int) : Value := if CI c s p par fst then .agg #[.int .i64 c, .int .i64 s, .int .i64 p, .int .i64 par, .int .i64 fst] else .agg #[.int .i64 0, .int .i64 0, .int .i64 0, .int .i64 0, .int .i64 0]

theorem vi_size {c s p : Int} (h : VI c s p) : 2 ≤ s ∧ s ≤ 4096 := by
  obtain ⟨c', s', p', e1, e2, e3, h4⟩ := h
  have := vf_bds h4
  omega

theorem tup_eq {P : Program} {f : FuncId} {args : Array Value} {w : World} {a b u v : Value} (h : Calls P f args w fun e w' => e = .returned (.tuple #[a, u]) ∧ Below w.heap.size w w') (e1 : a = b) (e2 : u = v) :
    Calls P f args w fun e w' => e = .returned (.tuple #[b, v]) ∧ Below w.heap.size w w' := e1 ▸ e2 ▸ h

set_option maxRecDepth 100000 in
set_option maxHeartbeats 4000000 in
theorem new_range (c s p par fst : Int) (hv : ∀ w, Calls Try.prog 28 #[.agg #[.int .i64 c, .int .i64 s, .int .i64 p]] w fun e w' => e = .returned (.bool true) ∧ Below w.heap.size w w')
    (hr : par < 1 ∨ s - 2 < par ∨ fst < 0 ∨ s - 2 < fst) (hs : 2 ≤ s ∧ s ≤ 4096) (w : World) :
    Calls Try.prog 9 #[.agg #[.int .i64 c, .int .i64 s, .int .i64 p], .int .i64 par, .int .i64 fst] w fun e w' => e = .returned (.tuple #[.agg #[.int .i64 0, .int .i64 0, .int .i64 0, .int .i64 0, .int .i64 0], .int .i64 3]) ∧ Below w.heap.size w w' := by
  obtain ⟨hs1, hs2⟩ := hs
  have HV := As.mk hv
  clear hv
  have fin : ∀ (b1 b2 b3 b4 : Bool), (b1 = true ∨ b1 = false ∧ b2 = true ∨ b1 = false ∧ b2 = false ∧ b3 = true ∨ b1 = false ∧ b2 = false ∧ b3 = false ∧ b4 = true) → decide (par < 1) = b1 → decide (s - 2 < par) = b2 → decide (fst < 0) = b3 → decide (s - 2 < fst) = b4 →
      Calls Try.prog 9 #[.agg #[.int .i64 c, .int .i64 s, .int .i64 p], .int .i64 par, .int .i64 fst] w fun e w' => e = .returned (.tuple #[.agg #[.int .i64 0, .int .i64 0, .int .i64 0, .int .i64 0, .int .i64 0], .int .i64 3]) ∧ Below w.heap.size w w' := by
    intro b1 b2 b3 b4 hor g1 g2 g3 g4
    clear hr
    rcases hor with rfl | ⟨rfl, rfl⟩ | ⟨rfl, rfl, rfl⟩ | ⟨rfl, rfl, rfl, rfl⟩
    · clear g2 g3 g4
      go_enter Try.func9, Try.ntmps9
      go_wp2_with fail
      refine (HV.out _).mono ?_
      rintro e w1 ⟨rfl, hb⟩
      obtain ⟨hc, hf⟩ := bcell hb
      have hz : w.heap.size + 1 < w1.heap.size := by have := hb.size; simp at this; omega
      go_wp2
      exact bodyPost_ret (v := .tuple #[.agg #[.int .i64 0, .int .i64 0, .int .i64 0, .int .i64 0, .int .i64 0], .int .i64 3]) (by simp [results, Try.results9, go_sem, hc, hz]) rfl ⟨rfl, by
        repeat (first | exact bl_refl _ | apply bl_drew | apply bl_alloc | apply bl_set (by simp) | apply bl_then hb)⟩
    · clear g3 g4
      go_enter Try.func9, Try.ntmps9
      go_wp2_with fail
      refine (HV.out _).mono ?_
      rintro e w1 ⟨rfl, hb⟩
      obtain ⟨hc, hf⟩ := bcell hb
      have hz : w.heap.size + 1 < w1.heap.size := by have := hb.size; simp at this; omega
      go_wp2
      exact bodyPost_ret (v := .tuple #[.agg #[.int .i64 0, .int .i64 0, .int .i64 0, .int .i64 0, .int .i64 0], .int .i64 3]) (by simp [results, Try.results9, go_sem, hc, hz]) rfl ⟨rfl, by
        repeat (first | exact bl_refl _ | apply bl_drew | apply bl_alloc | apply bl_set (by simp) | apply bl_then hb)⟩
    · clear g4
      go_enter Try.func9, Try.ntmps9
      go_wp2_with fail
      refine (HV.out _).mono ?_
      rintro e w1 ⟨rfl, hb⟩
      obtain ⟨hc, hf⟩ := bcell hb
      have hz : w.heap.size + 1 < w1.heap.size := by have := hb.size; simp at this; omega
      go_wp2
      exact bodyPost_ret (v := .tuple #[.agg #[.int .i64 0, .int .i64 0, .int .i64 0, .int .i64 0, .int .i64 0], .int .i64 3]) (by simp [results, Try.results9, go_sem, hc, hz]) rfl ⟨rfl, by
        repeat (first | exact bl_refl _ | apply bl_drew | apply bl_alloc | apply bl_set (by simp) | apply bl_then hb)⟩
    · skip
      go_enter Try.func9, Try.ntmps9
      go_wp2_with fail
      refine (HV.out _).mono ?_
      rintro e w1 ⟨rfl, hb⟩
      obtain ⟨hc, hf⟩ := bcell hb
      have hz : w.heap.size + 1 < w1.heap.size := by have := hb.size; simp at this; omega
      go_wp2
      exact bodyPost_ret (v := .tuple #[.agg #[.int .i64 0, .int .i64 0, .int .i64 0, .int .i64 0, .int .i64 0], .int .i64 3]) (by simp [results, Try.results9, go_sem, hc, hz]) rfl ⟨rfl, by
        repeat (first | exact bl_refl _ | apply bl_drew | apply bl_alloc | apply bl_set (by simp) | apply bl_then hb)⟩
  refine fin _ _ _ _ ?_ rfl rfl rfl rfl
  by_cases c1 : par < 1
  · left; exact decide_eq_true c1
  · right
    by_cases c2 : s - 2 < par
    · left; exact ⟨decide_eq_false c1, decide_eq_true c2⟩
    · right
      by_cases c3 : fst < 0
      · left; exact ⟨decide_eq_false c1, decide_eq_false c2, decide_eq_true c3⟩
      · right; exact ⟨decide_eq_false c1, decide_eq_false c2, decide_eq_false c3, decide_eq_true (by omega)⟩

set_option maxRecDepth 100000 in
set_option maxHeartbeats 1600000 in
theorem new_any (c s p par fst : Int) (w : World) :
    Calls Try.prog 9 #[.agg #[.int .i64 c, .int .i64 s, .int .i64 p], .int .i64 par, .int .i64 fst] w fun e w' => e = .returned (.tuple #[newV c s p par fst, .int .i64 (newE c s p par fst)]) ∧ Below w.heap.size w w' := by
  by_cases hv : VI c s p
  · obtain ⟨hs1, hs2⟩ := vi_size hv
    have hval := valid_any c s p
    rw [viB_true.mpr hv] at hval
    have HV := As.mk hval
    by_cases hc : CI c s p par fst
    · refine tup_eq (a := .agg #[.int .i64 c, .int .i64 s, .int .i64 p, .int .i64 par, .int .i64 fst]) (u := .int .i64 0) ?_ (by unfold newV; rw [if_pos hc]) (by unfold newE; rw [if_neg (fun h => h hv), if_pos hc])
      obtain ⟨_, h1, h2, h3, h4⟩ := hc
      have g1 : decide (par < 1) = false := decide_eq_false (by omega)
      have g2 : decide (s - 2 < par) = false := decide_eq_false (by omega)
      have g3 : decide (fst < 0) = false := decide_eq_false (by omega)
      have g4 : decide (s - 2 < fst) = false := decide_eq_false (by omega)
      clear hv hval
      go_enter Try.func9, Try.ntmps9
      go_wp2_with fail
      refine (HV.out _).mono ?_
      rintro e w1 ⟨rfl, hb⟩
      obtain ⟨hc, hf⟩ := bcell hb
      have hz : w.heap.size + 1 < w1.heap.size := by have := hb.size; simp at this; omega
      go_wp2
      exact bodyPost_ret (v := .tuple #[.agg #[.int .i64 c, .int .i64 s, .int .i64 p, .int .i64 par, .int .i64 fst], .int .i64 0]) (by simp [results, Try.results9, go_sem, hc, hz]) rfl ⟨rfl, by
        repeat (first | exact bl_refl _ | apply bl_drew | apply bl_alloc | apply bl_set (by simp) | apply bl_then hb)⟩
    · refine tup_eq (a := .agg #[.int .i64 0, .int .i64 0, .int .i64 0, .int .i64 0, .int .i64 0]) (u := .int .i64 3) ?_ (by unfold newV; rw [if_neg hc]) (by unfold newE; rw [if_neg (fun h => h hv), if_neg hc])
      have hr : par < 1 ∨ s - 2 < par ∨ fst < 0 ∨ s - 2 < fst := by
        apply Classical.byContradiction
        intro h
        exact hc ⟨hv, by omega, by omega, by omega, by omega⟩
      exact new_range c s p par fst HV.out hr ⟨hs1, hs2⟩ w
  · have hval := valid_any c s p
    rw [viB_false.mpr hv] at hval
    have HV := As.mk hval
    refine tup_eq (a := .agg #[.int .i64 0, .int .i64 0, .int .i64 0, .int .i64 0, .int .i64 0]) (u := .int .i64 1) ?_ (by unfold newV; rw [if_neg (fun h => hv h.1)]) (by unfold newE; rw [if_pos hv])
    clear hv hval
    go_enter Try.func9, Try.ntmps9
    go_wp2_with fail
    refine (HV.out _).mono ?_
    rintro e w1 ⟨rfl, hb⟩
    obtain ⟨hc, hf⟩ := bcell hb
    have hz : w.heap.size + 1 < w1.heap.size := by have := hb.size; simp at this; omega
    go_wp2
    exact bodyPost_ret (v := .tuple #[.agg #[.int .i64 0, .int .i64 0, .int .i64 0, .int .i64 0, .int .i64 0], .int .i64 1]) (by simp [results, Try.results9, go_sem, hc, hz]) rfl ⟨rfl, by
      repeat (first | exact bl_refl _ | apply bl_drew | apply bl_alloc | apply bl_set (by simp) | apply bl_then hb)⟩
end Go.Proofs.Ythcjmmicjbfpgaa.Rs
