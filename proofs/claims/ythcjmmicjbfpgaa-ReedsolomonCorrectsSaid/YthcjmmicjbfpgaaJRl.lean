/-
The lost indexes: each once, in ascending order.
The members of a list of numbers below a number, in order.
The walk of the law Detects.
-/
import Derived.Test.YthcjmmicjbfpgaaJLo
import Derived.Test.YthcjmmicjbfpgaaJAl
import Derived.Test.YthcjmmicjbfpgaaJDe
namespace Go.Proofs.Ythcjmmicjbfpgaa.Rs
set_option linter.unusedVariables false
set_option linter.unusedSimpArgs false
open Go.RowKit Go.Proofs.Ythcjmmicjbfpgaa.Alg
set_option linter.unusedSimpArgs false

theorem srtL_mem {er : List Int} {x : Int} : x ∈ srtL er ↔ x ∈ er := List.mem_mergeSort
theorem srtL_sorted (er : List Int) : (srtL er).Pairwise (fun x y => x ≤ y) := by
  have := List.pairwise_mergeSort (le := fun x y : Int => decide (x ≤ y)) (fun a b c h1 h2 => by simp only [decide_eq_true_eq] at *; omega) (fun a b => by simp only [Bool.or_eq_true, decide_eq_true_eq]; omega) er
  exact this.imp (fun h => by simpa using h)
theorem get_mono {l : List Int} (h : l.Pairwise (fun x y => x ≤ y)) {i j : Nat} (hij : i ≤ j) (hj : j < l.length) : l.getD i 0 ≤ l.getD j 0 := by
  have hi : i < l.length := by omega
  rw [List.getD_eq_getElem?_getD, List.getD_eq_getElem?_getD, List.getElem?_eq_getElem hi, List.getElem?_eq_getElem hj]
  show l[i] ≤ l[j]
  by_cases e : i = j
  · subst e; exact Int.le_refl _
  · exact (List.pairwise_iff_getElem.mp h) i j hi hj (by omega)
theorem arr_get (l : List Int) {j : Nat} (hj : j < l.length) : l.toArray[j]! = l.getD j 0 := by
  rw [List.getD_eq_getElem?_getD, List.getElem?_eq_getElem hj]
  simp [hj]
theorem compact_inv {l : List Int} (h : l.Pairwise (fun x y => x ≤ y)) : ∀ m, m ≤ l.length → (Lib.compactUpTo l.toArray m).Pairwise (fun x y => x < y) ∧ (∀ x ∈ Lib.compactUpTo l.toArray m, 0 < m ∧ x ≤ l.getD (m - 1) 0) ∧ (∀ j, j < m → l.getD j 0 ∈ Lib.compactUpTo l.toArray m)
  | 0, _ => by
    have e : Lib.compactUpTo l.toArray 0 = [] := rfl
    rw [e]
    exact ⟨List.Pairwise.nil, fun x hx => absurd hx (by simp), fun j hj => absurd hj (by omega)⟩
  | m + 1, hm => by
    obtain ⟨i1, i2, i3⟩ := compact_inv h m (by omega)
    rw [Lib.compactUpTo_succ, arr_get l (show m < l.length by omega)]
    cases hk : Lib.keeps l.toArray m with
    | true =>
      rw [if_pos rfl]
      have hlt : ∀ x ∈ Lib.compactUpTo l.toArray m, x < l.getD m 0 := by
        intro x hx
        obtain ⟨h0, hx2⟩ := i2 x hx
        have hne : l.getD m 0 ≠ l.getD (m - 1) 0 := by
          have := hk
          unfold Lib.keeps at this
          simp only [decide_eq_true_eq] at this
          rcases this with e | e
          · omega
          · rw [arr_get l (by omega), arr_get l (by omega)] at e
            exact e
        have := get_mono h (show m - 1 ≤ m by omega) (by omega)
        omega
      refine ⟨List.pairwise_append.mpr ⟨i1, List.pairwise_singleton _ _, fun x hx y hy => ?_⟩, fun x hx => ?_, fun j hj => ?_⟩
      · rw [List.mem_singleton] at hy
        subst hy
        exact hlt x hx
      · refine ⟨by omega, ?_⟩
        rw [Nat.add_sub_cancel]
        rcases List.mem_append.mp hx with h1 | h1
        · exact Int.le_of_lt (hlt x h1)
        · rw [List.mem_singleton] at h1; omega
      · by_cases e : j = m
        · subst e; exact List.mem_append.mpr (Or.inr (by simp))
        · exact List.mem_append.mpr (Or.inl (i3 j (by omega)))
    | false =>
      rw [if_neg (by decide), List.append_nil]
      unfold Lib.keeps at hk
      simp only [decide_eq_false_iff_not, not_or, Decidable.not_not] at hk
      have hm0 : 0 < m := by omega
      have he : l.getD m 0 = l.getD (m - 1) 0 := by
        have := hk.2
        rw [arr_get l (by omega), arr_get l (by omega)] at this
        exact this
      refine ⟨i1, fun x hx => ⟨by omega, by rw [Nat.add_sub_cancel, he]; exact (i2 x hx).2⟩, fun j hj => ?_⟩
      by_cases e : j = m
      · subst e; rw [he]; exact i3 (j - 1) (by omega)
      · exact i3 j (by omega)
theorem lostL_sorted (er : List Int) : (lostL er).Pairwise (fun x y => x < y) := (compact_inv (srtL_sorted er) _ (Nat.le_refl _)).1
theorem lostL_nodup (er : List Int) : (lostL er).Nodup := (lostL_sorted er).imp (fun h e => by omega)
theorem lostL_iff {er : List Int} {x : Int} : x ∈ lostL er ↔ x ∈ er := by
  refine ⟨lostL_mem, fun h => ?_⟩
  have h2 := srtL_mem.mpr h
  obtain ⟨i, hi, rfl⟩ := List.getElem_of_mem h2
  have := (compact_inv (srtL_sorted er) _ (Nat.le_refl _)).2.2 i hi
  rw [List.getD_eq_getElem?_getD, List.getElem?_eq_getElem hi] at this
  exact this
/-- the first numbers, each once -/
def dl (er : List Int) : Nat → List Int
  | 0 => []
  | i + 1 => if er.getD i 0 ∈ dl er i then dl er i else dl er i ++ [er.getD i 0]
theorem dl_mem (er : List Int) : ∀ i, i ≤ er.length → ∀ x, x ∈ dl er i ↔ x ∈ er.take i
  | 0, _, x => by simp [dl]
  | i + 1, hi, x => by
    have ih := dl_mem er i (by omega) x
    rw [List.take_succ_eq_append_getElem (by omega)]
    have e : er.getD i 0 = er[i] := by rw [List.getD_eq_getElem?_getD, List.getElem?_eq_getElem (by omega)]; rfl
    unfold dl
    rw [e]
    by_cases h : er[i] ∈ dl er i
    · rw [if_pos h, List.mem_append, List.mem_singleton, ih]
      refine ⟨Or.inl, fun h2 => ?_⟩
      rcases h2 with h2 | h2
      · exact h2
      · subst h2; exact ih.mp h
    · rw [if_neg h, List.mem_append, List.mem_append, ih]
theorem dl_nodup (er : List Int) : ∀ i, (dl er i).Nodup
  | 0 => List.nodup_nil
  | i + 1 => by
    unfold dl
    by_cases h : er.getD i 0 ∈ dl er i
    · rw [if_pos h]; exact dl_nodup er i
    · rw [if_neg h]
      rw [List.nodup_append]
      exact ⟨dl_nodup er i, by simp, fun a ha b hb e => by rw [List.mem_singleton] at hb; subst hb; subst e; exact h ha⟩
theorem dl_length (er : List Int) : (dl er er.length).length = (lostL er).length := by
  have h1 : ∀ x, x ∈ dl er er.length ↔ x ∈ lostL er := fun x => by
    rw [dl_mem er _ (Nat.le_refl _), List.take_length, lostL_iff]
  exact Nat.le_antisymm ((dl_nodup er _).length_le_of_subset (fun x hx => (h1 x).mp hx)) ((lostL_nodup er).length_le_of_subset (fun x hx => (h1 x).mpr hx))
theorem dl_le (er : List Int) : ∀ i, (dl er i).length ≤ i
  | 0 => Nat.le_refl _
  | i + 1 => by
    have := dl_le er i
    unfold dl
    split
    · omega
    · simp; omega
end Go.Proofs.Ythcjmmicjbfpgaa.Rs

namespace Go.Proofs.Ythcjmmicjbfpgaa.Rs
set_option linter.unusedVariables false
set_option linter.unusedSimpArgs false
open Go.RowKit Go.Proofs.Ythcjmmicjbfpgaa.Alg

/-- the indexes of a list below a number, in order -/
def asc (D : List Int) : Nat → List Int
  | 0 => []
  | i + 1 => if (i : Int) ∈ D then asc D i ++ [(i : Int)] else asc D i
theorem asc_length (D : List Int) : ∀ i, (asc D i).length ≤ i
  | 0 => Nat.le_refl _
  | i + 1 => by
    have := asc_length D i
    unfold asc
    split
    · simp; omega
    · omega
theorem asc_mem (D : List Int) : ∀ n x, x ∈ asc D n ↔ x ∈ D ∧ ∃ j : Nat, j < n ∧ x = (j : Int)
  | 0, x => by simp [asc]
  | n + 1, x => by
    have ih := asc_mem D n x
    have key : (x ∈ D ∧ ∃ j : Nat, j < n + 1 ∧ x = (j : Int)) ↔ (x ∈ D ∧ ∃ j : Nat, j < n ∧ x = (j : Int)) ∨ (x ∈ D ∧ x = (n : Int)) := by
      constructor
      · rintro ⟨h1, j, h2, h3⟩
        by_cases e : j = n
        · subst e; exact Or.inr ⟨h1, h3⟩
        · exact Or.inl ⟨h1, j, by omega, h3⟩
      · rintro (⟨h1, j, h2, h3⟩ | ⟨h1, h2⟩)
        · exact ⟨h1, j, by omega, h3⟩
        · exact ⟨h1, n, by omega, h2⟩
    rw [key]
    unfold asc
    split
    · rename_i h
      rw [List.mem_append, List.mem_singleton, ih]
      constructor
      · rintro (h1 | h1)
        · exact Or.inl h1
        · exact Or.inr ⟨by rw [h1]; exact h, h1⟩
      · rintro (h1 | h1)
        · exact Or.inl h1
        · exact Or.inr h1.2
    · rename_i h
      rw [ih]
      constructor
      · exact Or.inl
      · rintro (h1 | h1)
        · exact h1
        · exact absurd (by rw [← h1.2]; exact h1.1) h
theorem asc_sorted (D : List Int) : ∀ n, (asc D n).Pairwise (fun x y => x < y)
  | 0 => List.Pairwise.nil
  | n + 1 => by
    unfold asc
    split
    · rw [List.pairwise_append]
      refine ⟨asc_sorted D n, List.pairwise_singleton _ _, fun a ha b hb => ?_⟩
      rw [List.mem_singleton] at hb
      obtain ⟨_, j, h1, h2⟩ := (asc_mem D n a).mp ha
      omega
    · exact asc_sorted D n
theorem sorted_ext : ∀ {l m : List Int}, l.Pairwise (fun x y => x < y) → m.Pairwise (fun x y => x < y) → (∀ x, x ∈ l ↔ x ∈ m) → l = m
  | [], [], _, _, _ => rfl
  | [], b :: m, _, _, h => absurd ((h b).mpr List.mem_cons_self) (by simp)
  | a :: l, [], _, _, h => absurd ((h a).mp List.mem_cons_self) (by simp)
  | a :: l, b :: m, h1, h2, h => by
    obtain ⟨ha, h1'⟩ := List.pairwise_cons.mp h1
    obtain ⟨hb, h2'⟩ := List.pairwise_cons.mp h2
    have e : a = b := by
      rcases List.mem_cons.mp ((h a).mp List.mem_cons_self) with e | e
      · exact e
      · rcases List.mem_cons.mp ((h b).mpr List.mem_cons_self) with e2 | e2
        · exact e2.symm
        · have := ha b e2; have := hb a e; omega
    subst e
    rw [sorted_ext h1' h2' (fun x => ?_)]
    constructor
    · intro hx
      rcases List.mem_cons.mp ((h x).mp (List.mem_cons_of_mem _ hx)) with e | e
      · subst e; have := ha x hx; omega
      · exact e
    · intro hx
      rcases List.mem_cons.mp ((h x).mpr (List.mem_cons_of_mem _ hx)) with e | e
      · subst e; have := hb x hx; omega
      · exact e
end Go.Proofs.Ythcjmmicjbfpgaa.Rs

namespace Go.Proofs.Ythcjmmicjbfpgaa.Rs
set_option linter.unusedVariables false
set_option linter.unusedSimpArgs false
open Go.RowKit Go.Proofs.Ythcjmmicjbfpgaa.Alg
open GF
set_option linter.unusedSimpArgs false

/-! rows of truth values -/
theorem Try.infoB : (Try.prog.info? 4).map (fun i => (i.zero, i.size, i.bytes)) = some (some (.bool false), 1, 1) := by kernel_rfl
/-- n times false -/
def falses (n : Nat) : Array Value := madeCells #[.bool false] n
theorem falses_size (n : Nat) : (falses n).size = n := size_madeCells _ _
theorem falses_toList (n : Nat) : (falses n).toList = List.replicate n (.bool false) := toList_madeCells_one _ _
theorem mk_bools {n : Nat} (hn : n ≤ 1000000) (w : World) : (Instr.makeSlice 43 (.int .i64 (n : Int)) (.int .i64 (n : Int))).run Try.prog w = .ok (.slice (some ⟨w.heap.size, 0, none⟩) n n) (w.alloc (.cells (falses n) 4)) := by
  obtain ⟨i0, hi, hz0, hz1, hz2⟩ := info_parts Try.infoB
  have := run_make (P := Try.prog) w 43 4 i0 (.bool false) Try.underlying43 hi hz0 .i64 .i64 n n (by omega) (Int.le_refl _) (by rw [hz2]; omega) (by omega)
  rw [hz1, Nat.mul_one] at this
  simp only [Int.toNat_natCast] at this
  exact this
/-- a row of truth values of the call's own -/
def OwnB (w : World) (B g n : Nat) (bs : List Bool) : Prop := w.ownsRow B 4 1 (.slice (some ⟨g, 0, none⟩) n n) n (bs.map Value.bool)
theorem OwnB.new {W : World} {n : Nat} (hn : n ≤ 1000000) : OwnB (W.alloc (.cells (falses n) 4)) W.heap.size W.heap.size n (List.replicate n false) := by
  have := World.ownsRow_lit (base := W.heap.size) (e := 4) (size := 1) W (falses n) n (Nat.le_refl _) (by simp [maxLen]; omega) (by rw [falses_size, Nat.mul_one])
  rw [falses_toList] at this
  unfold OwnB
  rw [List.map_replicate]
  exact this
theorem OwnB.below {w w1 : World} {B g n : Nat} {bs : List Bool} (h : OwnB w B g n bs) (hb : Below w.heap.size w w1) : OwnB w1 B g n bs := own_below h hb
theorem OwnB.cell {w : World} {B g n : Nat} {bs : List Bool} (h : OwnB w B g n bs) (hl : bs.length = n) {j : Nat} (hj : j < n) : w.cell? ⟨g, j, none⟩ = some (.bool (bs.getD j false)) ∧ w.frozen? ⟨g, j, none⟩ = false := by
  refine ⟨?_, World.ownsRow.frozenAt h j⟩
  have := World.ownsRow.cellAt h j (by omega)
  rw [this, List.getElem?_map, List.getElem?_eq_getElem (by omega), List.getD_eq_getElem?_getD, List.getElem?_eq_getElem (by omega)]
  rfl
theorem OwnB.put {w : World} {B g n : Nat} {bs : List Bool} (h : OwnB w B g n bs) (j : Nat) (b : Bool) : OwnB (w.setCell ⟨g, j, none⟩ (.bool b)) B g n (bs.set j b) := by
  have := (World.ownsRow.stored h j (.bool b)).1
  unfold OwnB
  rw [List.map_set]
  exact this

/-- which indexes are lost after some -/
def lb (er : List Int) (n i : Nat) : List Bool := (List.range n).map (fun j : Nat => decide ((j : Int) ∈ dl er i))
theorem lb_length (er : List Int) (n i : Nat) : (lb er n i).length = n := by simp [lb]
theorem lb_get {er : List Int} {n i j : Nat} (h : j < n) : (lb er n i).getD j false = decide ((j : Int) ∈ dl er i) := by
  unfold lb
  rw [List.getD_eq_getElem?_getD, List.getElem?_map, List.getElem?_range h]
  rfl
theorem lb_zero (er : List Int) (n : Nat) : lb er n 0 = List.replicate n false := by
  apply List.ext_getElem?
  intro j
  unfold lb
  rw [List.getElem?_map, List.getElem?_replicate]
  by_cases h : j < n
  · rw [List.getElem?_range h, if_pos h]; simp [dl]
  · rw [List.getElem?_eq_none (by simp; omega), if_neg h]; rfl
theorem lb_set {er : List Int} {n i x : Nat} (hx : er.getD i 0 = (x : Int)) : (lb er n i).set x true = lb er n (i + 1) := by
  apply List.ext_getElem?
  intro j
  by_cases h : j < n
  · unfold lb
    have key : decide ((j : Int) ∈ dl er (i + 1)) = (decide ((j : Int) ∈ dl er i) || decide (j = x)) := by
      have hdl : dl er (i + 1) = if er.getD i 0 ∈ dl er i then dl er i else dl er i ++ [er.getD i 0] := rfl
      rw [hdl, hx]
      by_cases h1 : (x : Int) ∈ dl er i
      · rw [if_pos h1]
        by_cases e : j = x
        · subst e; simp [h1]
        · simp [e]
      · rw [if_neg h1]
        by_cases e : j = x
        · subst e; simp
        · have : ¬ (j : Int) = (x : Int) := by omega
          simp [e, this]
    by_cases e : j = x
    · subst e
      rw [List.getElem?_set_self (by simp; exact h), List.getElem?_map, List.getElem?_range h]
      simp [key]
    · rw [List.getElem?_set_ne (fun h => e h.symm), List.getElem?_map, List.getElem?_map, List.getElem?_range h]
      simp [key, e]
  · rw [List.getElem?_eq_none (by simp [lb]; omega), List.getElem?_eq_none (by simp [lb]; omega)]
theorem dl_succ_mem {er : List Int} {i : Nat} (h : er.getD i 0 ∈ dl er i) : dl er (i + 1) = dl er i := by
  conv => lhs; unfold dl
  rw [if_pos h]
theorem dl_succ_new {er : List Int} {i : Nat} (h : ¬ er.getD i 0 ∈ dl er i) : (dl er (i + 1)).length = (dl er i).length + 1 := by
  conv => lhs; unfold dl
  rw [if_neg h]; simp

section
variable {K : Type} [GF K]
theorem chgL_pre (word out : List K) : ∀ i d, ∃ r, chgL word out (i + d) = chgL word out i ++ r
  | i, 0 => ⟨[], by simp⟩
  | i, d + 1 => by
    obtain ⟨r, hr⟩ := chgL_pre word out i d
    show ∃ r, chgL word out (i + d + 1) = _
    conv => congr; ext r; lhs; unfold chgL
    by_cases h : atl word (i + d) ≠ atl out (i + d)
    · exact ⟨r ++ [((i + d : Nat) : Int)], by rw [if_pos h, hr, List.append_assoc]⟩
    · exact ⟨r, by rw [if_neg h, hr]⟩
theorem chgL_at {word out : List K} {i n : Nat} (hi : i < n) (h : atl word i ≠ atl out i) : (chgL word out i).length < (chgL word out n).length ∧ (chgL word out n).getD (chgL word out i).length 0 = (i : Int) := by
  obtain ⟨r, hr⟩ := chgL_pre word out (i + 1) (n - (i + 1))
  rw [show i + 1 + (n - (i + 1)) = n by omega] at hr
  have e : chgL word out (i + 1) = chgL word out i ++ [(i : Int)] := by
    conv => lhs; unfold chgL
    rw [if_pos h]
  rw [hr, e]
  refine ⟨by simp <;> omega, ?_⟩
  rw [List.getD_eq_getElem?_getD, List.getElem?_append_left (by simp), List.getElem?_append_right (Nat.le_refl _)]
  simp
end

/-- Decode at any numbers -/
theorem dec_all (c s p par fst : Int) (A A2 : Option Addr) (cp c2 : Nat) (xs er : List Int) (hl : xs.length ≤ 100000) (hl2 : er.length ≤ 100000) :
    (∃ E : Int, E ≠ 0 ∧ ∀ w, RdI w A xs → RdI w A2 er → Calls Try.prog 24 #[.agg #[.int .i64 c, .int .i64 s, .int .i64 p, .int .i64 par, .int .i64 fst], .slice A xs.length cp, .slice A2 er.length c2] w fun e w' => e = .returned (.tuple #[.agg #[.slice none 0 0, .slice none 0 0], .int .i64 E]) ∧ Below w.heap.size w w') ∨
    (∃ (K : Type) (_ : GF K) (pr fs : Nat) (ws out : List K), c = ((ch K : Nat) : Int) ∧ s = ((sz K : Nat) : Int) ∧ p = ((po K : Nat) : Int) ∧ par = (pr : Int) ∧ fst = (fs : Int) ∧ 1 ≤ pr ∧ pr ≤ sz K - 2 ∧ fs ≤ sz K - 2 ∧ ints ws = xs ∧ pr < xs.length ∧ xs.length < sz K ∧ anyOut xs.length er = false ∧ decL fs pr ws (lostL er) = some out ∧
      ∀ w, RdI w A xs → RdI w A2 er → Calls Try.prog 24 #[.agg #[.int .i64 c, .int .i64 s, .int .i64 p, .int .i64 par, .int .i64 fst], .slice A xs.length cp, .slice A2 er.length c2] w fun e w' => ∃ v1 v2, e = .returned (.tuple #[.agg #[v1, v2], .int .i64 0]) ∧ As (OwnK w' w.heap.size v1 out) ∧ As (OwnI w' w.heap.size v2 (chgL ws out xs.length)) ∧ Below w.heap.size w w') := by
  cases hv0 : vldB c s p par fst xs with
  | false => exact Or.inl ⟨1, by decide, fun w hr hr2 => decode_bad c s p par fst A A2 cp c2 xs er w hr hr2 hl hl2 (Or.inl hv0)⟩
  | true =>
    cases ha0 : anyOut xs.length er with
    | true => exact Or.inl ⟨1, by decide, fun w hr hr2 => decode_bad c s p par fst A A2 cp c2 xs er w hr hr2 hl hl2 (Or.inr ⟨hv0, ha0⟩)⟩
    | false =>
      cases hf : (decide (par < (xs.length : Int)) && decide ((xs.length : Int) < s)) with
      | false => exact Or.inl ⟨7, by decide, fun w hr hr2 => decode_length c s p par fst A A2 cp c2 xs er w hr hr2 hl hl2 hv0 ha0 hf⟩
      | true =>
        have hv := hv0
        rw [vldB_eq, Bool.and_eq_true] at hv
        have hc : CI c s p par fst := by
          have := hv.1
          unfold ciB at this
          simpa using this
        have ha : anyOut s xs = false := by simpa using hv.2
        obtain ⟨hvi, h1, h2, h3, h4⟩ := hc
        obtain ⟨K, i, rfl, rfl, rfl⟩ := field_at hvi
        have hs2 := sz_two (K := K)
        rw [Bool.and_eq_true, decide_eq_true_eq, decide_eq_true_eq] at hf
        obtain ⟨pr, rfl⟩ : ∃ n : Nat, par = n := ⟨par.toNat, by omega⟩
        obtain ⟨fs, rfl⟩ : ∃ n : Nat, fst = n := ⟨fst.toNat, by omega⟩
        obtain ⟨ws, rfl⟩ := lift_ints (K := K) ha
        have hwl : ws.length = (ints ws).length := by rw [ints_length]
        have key := fun w hr hr2 => decodeK (K := K) pr fs (by omega) (by omega) (by omega) A A2 cp c2 (ints ws).length er.length ws er hwl (by omega) (by omega) rfl hl2 ha0 w (rdI_K hr) hr2
        cases hd : decL fs pr ws (lostL er) with
        | none =>
          refine Or.inl ⟨17, by decide, fun w hr hr2 => (key w hr hr2).mono ?_⟩
          rintro e w' ⟨h, hb⟩
          rcases h with ⟨_, he⟩ | ⟨o, v1, v2, hd2, _⟩
          · exact ⟨he, hb⟩
          · have := hd2.out
            rw [hd] at this
            cases this
        | some out =>
          refine Or.inr ⟨K, i, pr, fs, ws, out, rfl, rfl, rfl, rfl, rfl, by omega, by omega, by omega, rfl, by omega, by omega, rfl, hd, fun w hr hr2 => (key w hr hr2).mono ?_⟩
          rintro e w' ⟨h, hb⟩
          rcases h with ⟨hd2, _⟩ | ⟨o, v1, v2, hd2, he, o1, o2⟩
          · have := hd2.out
            rw [hd] at this
            cases this
          · have := hd2.out
            rw [hd] at this
            cases this
            exact ⟨v1, v2, he, o1, o2, hb⟩
theorem finL_some {K : Type} [GF K] {fst par m : Nat} {word out : List K} {lost : List Int} {R : Option (List K × Nat)} (h : finL fst par m word lost R = some out) : ∃ f, R = some (out, f) ∧ witB fst par word out lost = true := by
  cases R with
  | none => cases h
  | some p =>
    obtain ⟨o, f⟩ := p
    unfold finL at h
    simp only at h
    by_cases hh : f + 1 = m ∧ witB fst par word o lost = true
    · rw [if_pos hh] at h
      cases h
      exact ⟨f, rfl, hh.2⟩
    · rw [if_neg hh] at h
      cases h
theorem decL_within {K : Type} [GF K] {fst par : Nat} {word out : List K} {lost : List Int} (h : decL fst par word lost = some out) : out.length = word.length ∧ witB fst par word out lost = true := by
  unfold decL at h
  split at h
  · cases h
  · split at h
    · cases h
    · obtain ⟨f, h1, h2⟩ := finL_some h
      exact ⟨(corS_length h1).1, h2⟩
end Go.Proofs.Ythcjmmicjbfpgaa.Rs
