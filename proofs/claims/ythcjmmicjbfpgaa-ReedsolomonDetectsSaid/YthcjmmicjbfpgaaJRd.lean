/-
The lost indexes: each once, in ascending order.
The walk of the law Detects.
The walk of the law Detects.
-/
import Derived.Test.YthcjmmicjbfpgaaJLo
import Derived.Test.YthcjmmicjbfpgaaJRb
import Derived.Test.YthcjmmicjbfpgaaJDe
namespace Go.Proofs.Ythcjmmicjbfpgaa.Rs
set_option linter.unusedVariables false
set_option linter.unusedSimpArgs false
open Go.RowKit Go.Proofs.Ythcjmmicjbfpgaa.Alg
set_option linter.unusedSimpArgs false

theorem srtL_mem {er : List Int} {x : Int} : x ∈ srtL er ↔ x ∈ er := List.mem_mergeSort
theorem srtL_sorted (er : List Int) : (srtL er).Pairwise (fun x y => x ≤ y) := by
  have := List.pairwise_mergeSort (le := fun x y : Int => decide (x ≤ y)) (fun a b c h1 h2 => by simp only [decide_eq_true_eq] at *; omega) (fun a b => by simp only [Bool.or_eq_true, decide_eq_true_eq]; omega) er
  exact this.imp (fun h => by simpa using h)
theorem get_mono {l : List Int} (h : l.Pairwise (fun x y => x ≤ y)) {i j : Nat} (hij : i ≤ j) (hj : j < l.length) : l.getD i 0 ≤ l.getD j 0 := by
  have hi : i < l.length := by omega
  rw [List.getD_eq_getElem?_getD, List.getD_eq_getElem?_getD, List.getElem?_eq_getElem hi, List.getElem?_eq_getElem hj]
  show l[i] ≤ l[j]
  by_cases e : i = j
  · subst e; exact Int.le_refl _
  · exact (List.pairwise_iff_getElem.mp h) i j hi hj (by omega)
theorem arr_get (l : List Int) {j : Nat} (hj : j < l.length) : l.toArray[j]! = l.getD j 0 := by
  rw [List.getD_eq_getElem?_getD, List.getElem?_eq_getElem hj]
  simp [hj]
theorem compact_inv {l : List Int} (h : l.Pairwise (fun x y => x ≤ y)) : ∀ m, m ≤ l.length → (Lib.compactUpTo l.toArray m).Pairwise (fun x y => x < y) ∧ (∀ x ∈ Lib.compactUpTo l.toArray m, 0 < m ∧ x ≤ l.getD (m - 1) 0) ∧ (∀ j, j < m → l.getD j 0 ∈ Lib.compactUpTo l.toArray m)
  | 0, _ => by
    have e : Lib.compactUpTo l.toArray 0 = [] := rfl
    rw [e]
    exact ⟨List.Pairwise.nil, fun x hx => absurd hx (by simp), fun j hj => absurd hj (by omega)⟩
  | m + 1, hm => by
    obtain ⟨i1, i2, i3⟩ := compact_inv h m (by omega)
    rw [Lib.compactUpTo_succ, arr_get l (show m < l.length by omega)]
    cases hk : Lib.keeps l.toArray m with
    | true =>
      rw [if_pos rfl]
      have hlt : ∀ x ∈ Lib.compactUpTo l.toArray m, x < l.getD m 0 := by
        intro x hx
        obtain ⟨h0, hx2⟩ := i2 x hx
        have hne : l.getD m 0 ≠ l.getD (m - 1) 0 := by
          have := hk
          unfold Lib.keeps at this
          simp only [decide_eq_true_eq] at this
          rcases this with e | e
          · omega
          · rw [arr_get l (by omega), arr_get l (by omega)] at e
            exact e
        have := get_mono h (show m - 1 ≤ m by omega) (by omega)
        omega
      refine ⟨List.pairwise_append.mpr ⟨i1, List.pairwise_singleton _ _, fun x hx y hy => ?_⟩, fun x hx => ?_, fun j hj => ?_⟩
      · rw [List.mem_singleton] at hy
        subst hy
        exact hlt x hx
      · refine ⟨by omega, ?_⟩
        rw [Nat.add_sub_cancel]
        rcases List.mem_append.mp hx with h1 | h1
        · exact Int.le_of_lt (hlt x h1)
        · rw [List.mem_singleton] at h1; omega
      · by_cases e : j = m
        · subst e; exact List.mem_append.mpr (Or.inr (by simp))
        · exact List.mem_append.mpr (Or.inl (i3 j (by omega)))
    | false =>
      rw [if_neg (by decide), List.append_nil]
      unfold Lib.keeps at hk
      simp only [decide_eq_false_iff_not, not_or, Decidable.not_not] at hk
      have hm0 : 0 < m := by omega
      have he : l.getD m 0 = l.getD (m - 1) 0 := by
        have := hk.2
        rw [arr_get l (by omega), arr_get l (by omega)] at this
        exact this
      refine ⟨i1, fun x hx => ⟨by omega, by rw [Nat.add_sub_cancel, he]; exact (i2 x hx).2⟩, fun j hj => ?_⟩
      by_cases e : j = m
      · subst e; rw [he]; exact i3 (j - 1) (by omega)
      · exact i3 j (by omega)
theorem lostL_sorted (er : List Int) : (lostL er).Pairwise (fun x y => x < y) := (compact_inv (srtL_sorted er) _ (Nat.le_refl _)).1
theorem lostL_nodup (er : List Int) : (lostL er).Nodup := (lostL_sorted er).imp (fun h e => by omega)
theorem lostL_iff {er : List Int} {x : Int} : x ∈ lostL er ↔ x ∈ er := by
  refine ⟨lostL_mem, fun h => ?_⟩
  have h2 := srtL_mem.mpr h
  obtain ⟨i, hi, rfl⟩ := List.getElem_of_mem h2
  have := (compact_inv (srtL_sorted er) _ (Nat.le_refl _)).2.2 i hi
  rw [List.getD_eq_getElem?_getD, List.getElem?_eq_getElem hi] at this
  exact this
/-- the first numbers, each once -/
def dl (er : List Int) : Nat → List Int
  | 0 => []
  | i + 1 => if er.getD i 0 ∈ dl er i then dl er i else dl er i ++ [er.getD i 0]
theorem dl_mem (er : List Int) : ∀ i, i ≤ er.length → ∀ x, x ∈ dl er i ↔ x ∈ er.take i
  | 0, _, x => by simp [dl]
  | i + 1, hi, x => by
    have ih := dl_mem er i (by omega) x
    rw [List.take_succ_eq_append_getElem (by omega)]
    have e : er.getD i 0 = er[i] := by rw [List.getD_eq_getElem?_getD, List.getElem?_eq_getElem (by omega)]; rfl
    unfold dl
    rw [e]
    by_cases h : er[i] ∈ dl er i
    · rw [if_pos h, List.mem_append, List.mem_singleton, ih]
      refine ⟨Or.inl, fun h2 => ?_⟩
      rcases h2 with h2 | h2
      · exact h2
      · subst h2; exact ih.mp h
    · rw [if_neg h, List.mem_append, List.mem_append, ih]
theorem dl_nodup (er : List Int) : ∀ i, (dl er i).Nodup
  | 0 => List.nodup_nil
  | i + 1 => by
    unfold dl
    by_cases h : er.getD i 0 ∈ dl er i
    · rw [if_pos h]; exact dl_nodup er i
    · rw [if_neg h]
      rw [List.nodup_append]
      exact ⟨dl_nodup er i, by simp, fun a ha b hb e => by rw [List.mem_singleton] at hb; subst hb; subst e; exact h ha⟩
theorem dl_length (er : List Int) : (dl er er.length).length = (lostL er).length := by
  have h1 : ∀ x, x ∈ dl er er.length ↔ x ∈ lostL er := fun x => by
    rw [dl_mem er _ (Nat.le_refl _), List.take_length, lostL_iff]
  exact Nat.le_antisymm ((dl_nodup er _).length_le_of_subset (fun x hx => (h1 x).mp hx)) ((lostL_nodup er).length_le_of_subset (fun x hx => (h1 x).mpr hx))
theorem dl_le (er : List Int) : ∀ i, (dl er i).length ≤ i
  | 0 => Nat.le_refl _
  | i + 1 => by
    have := dl_le er i
    unfold dl
    split
    · omega
    · simp; omega
end Go.Proofs.Ythcjmmicjbfpgaa.Rs

namespace Go.Proofs.Ythcjmmicjbfpgaa.Rs
set_option linter.unusedVariables false
set_option linter.unusedSimpArgs false
open Go.RowKit Go.Proofs.Ythcjmmicjbfpgaa.Alg
open GF
set_option linter.unusedSimpArgs false

/-! rows of truth values -/
theorem Try.infoB : (Try.prog.info? 4).map (fun i => (i.zero, i.size, i.bytes)) = some (some (.bool false), 1, 1) := by kernel_rfl
/-- n times false -/
def falses (n : Nat) : Array Value := madeCells #[.bool false] n
theorem falses_size (n : Nat) : (falses n).size = n := size_madeCells _ _
theorem falses_toList (n : Nat) : (falses n).toList = List.replicate n (.bool false) := toList_madeCells_one _ _
theorem mk_bools {n : Nat} (hn : n ≤ 1000000) (w : World) : (Instr.makeSlice 43 (.int .i64 (n : Int)) (.int .i64 (n : Int))).run Try.prog w = .ok (.slice (some ⟨w.heap.size, 0, none⟩) n n) (w.alloc (.cells (falses n) 4)) := by
  obtain ⟨i0, hi, hz0, hz1, hz2⟩ := info_parts Try.infoB
  have := run_make (P := Try.prog) w 43 4 i0 (.bool false) Try.underlying43 hi hz0 .i64 .i64 n n (by omega) (Int.le_refl _) (by rw [hz2]; omega) (by omega)
  rw [hz1, Nat.mul_one] at this
  simp only [Int.toNat_natCast] at this
  exact this
/-- a row of truth values of the call's own -/
def OwnB (w : World) (B g n : Nat) (bs : List Bool) : Prop := w.ownsRow B 4 1 (.slice (some ⟨g, 0, none⟩) n n) n (bs.map Value.bool)
theorem OwnB.new {W : World} {n : Nat} (hn : n ≤ 1000000) : OwnB (W.alloc (.cells (falses n) 4)) W.heap.size W.heap.size n (List.replicate n false) := by
  have := World.ownsRow_lit (base := W.heap.size) (e := 4) (size := 1) W (falses n) n (Nat.le_refl _) (by simp [maxLen]; omega) (by rw [falses_size, Nat.mul_one])
  rw [falses_toList] at this
  unfold OwnB
  rw [List.map_replicate]
  exact this
theorem OwnB.below {w w1 : World} {B g n : Nat} {bs : List Bool} (h : OwnB w B g n bs) (hb : Below w.heap.size w w1) : OwnB w1 B g n bs := own_below h hb
theorem OwnB.cell {w : World} {B g n : Nat} {bs : List Bool} (h : OwnB w B g n bs) (hl : bs.length = n) {j : Nat} (hj : j < n) : w.cell? ⟨g, j, none⟩ = some (.bool (bs.getD j false)) ∧ w.frozen? ⟨g, j, none⟩ = false := by
  refine ⟨?_, World.ownsRow.frozenAt h j⟩
  have := World.ownsRow.cellAt h j (by omega)
  rw [this, List.getElem?_map, List.getElem?_eq_getElem (by omega), List.getD_eq_getElem?_getD, List.getElem?_eq_getElem (by omega)]
  rfl
theorem OwnB.put {w : World} {B g n : Nat} {bs : List Bool} (h : OwnB w B g n bs) (j : Nat) (b : Bool) : OwnB (w.setCell ⟨g, j, none⟩ (.bool b)) B g n (bs.set j b) := by
  have := (World.ownsRow.stored h j (.bool b)).1
  unfold OwnB
  rw [List.map_set]
  exact this

/-- which indexes are lost after some -/
def lb (er : List Int) (n i : Nat) : List Bool := (List.range n).map (fun j : Nat => decide ((j : Int) ∈ dl er i))
theorem lb_length (er : List Int) (n i : Nat) : (lb er n i).length = n := by simp [lb]
theorem lb_get {er : List Int} {n i j : Nat} (h : j < n) : (lb er n i).getD j false = decide ((j : Int) ∈ dl er i) := by
  unfold lb
  rw [List.getD_eq_getElem?_getD, List.getElem?_map, List.getElem?_range h]
  rfl
theorem lb_zero (er : List Int) (n : Nat) : lb er n 0 = List.replicate n false := by
  apply List.ext_getElem?
  intro j
  unfold lb
  rw [List.getElem?_map, List.getElem?_replicate]
  by_cases h : j < n
  · rw [List.getElem?_range h, if_pos h]; simp [dl]
  · rw [List.getElem?_eq_none (by simp; omega), if_neg h]; rfl
theorem lb_set {er : List Int} {n i x : Nat} (hx : er.getD i 0 = (x : Int)) : (lb er n i).set x true = lb er n (i + 1) := by
  apply List.ext_getElem?
  intro j
  by_cases h : j < n
  · unfold lb
    have key : decide ((j : Int) ∈ dl er (i + 1)) = (decide ((j : Int) ∈ dl er i) || decide (j = x)) := by
      have hdl : dl er (i + 1) = if er.getD i 0 ∈ dl er i then dl er i else dl er i ++ [er.getD i 0] := rfl
      rw [hdl, hx]
      by_cases h1 : (x : Int) ∈ dl er i
      · rw [if_pos h1]
        by_cases e : j = x
        · subst e; simp [h1]
        · simp [e]
      · rw [if_neg h1]
        by_cases e : j = x
        · subst e; simp
        · have : ¬ (j : Int) = (x : Int) := by omega
          simp [e, this]
    by_cases e : j = x
    · subst e
      rw [List.getElem?_set_self (by simp; exact h), List.getElem?_map, List.getElem?_range h]
      simp [key]
    · rw [List.getElem?_set_ne (fun h => e h.symm), List.getElem?_map, List.getElem?_map, List.getElem?_range h]
      simp [key, e]
  · rw [List.getElem?_eq_none (by simp [lb]; omega), List.getElem?_eq_none (by simp [lb]; omega)]
theorem dl_succ_mem {er : List Int} {i : Nat} (h : er.getD i 0 ∈ dl er i) : dl er (i + 1) = dl er i := by
  conv => lhs; unfold dl
  rw [if_pos h]
theorem dl_succ_new {er : List Int} {i : Nat} (h : ¬ er.getD i 0 ∈ dl er i) : (dl er (i + 1)).length = (dl er i).length + 1 := by
  conv => lhs; unfold dl
  rw [if_neg h]; simp

section
variable {K : Type} [GF K]
theorem chgL_pre (word out : List K) : ∀ i d, ∃ r, chgL word out (i + d) = chgL word out i ++ r
  | i, 0 => ⟨[], by simp⟩
  | i, d + 1 => by
    obtain ⟨r, hr⟩ := chgL_pre word out i d
    show ∃ r, chgL word out (i + d + 1) = _
    conv => congr; ext r; lhs; unfold chgL
    by_cases h : atl word (i + d) ≠ atl out (i + d)
    · exact ⟨r ++ [((i + d : Nat) : Int)], by rw [if_pos h, hr, List.append_assoc]⟩
    · exact ⟨r, by rw [if_neg h, hr]⟩
theorem chgL_at {word out : List K} {i n : Nat} (hi : i < n) (h : atl word i ≠ atl out i) : (chgL word out i).length < (chgL word out n).length ∧ (chgL word out n).getD (chgL word out i).length 0 = (i : Int) := by
  obtain ⟨r, hr⟩ := chgL_pre word out (i + 1) (n - (i + 1))
  rw [show i + 1 + (n - (i + 1)) = n by omega] at hr
  have e : chgL word out (i + 1) = chgL word out i ++ [(i : Int)] := by
    conv => lhs; unfold chgL
    rw [if_pos h]
  rw [hr, e]
  refine ⟨by simp <;> omega, ?_⟩
  rw [List.getD_eq_getElem?_getD, List.getElem?_append_left (by simp), List.getElem?_append_right (Nat.le_refl _)]
  simp
end

/-- Decode at any numbers -/
theorem dec_all (c s p par fst : Int) (A A2 : Option Addr) (cp c2 : Nat) (xs er : List Int) (hl : xs.length ≤ 100000) (hl2 : er.length ≤ 100000) :
    (∃ E : Int, E ≠ 0 ∧ ∀ w, RdI w A xs → RdI w A2 er → Calls Try.prog 24 #[.agg #[.int .i64 c, .int .i64 s, .int .i64 p, .int .i64 par, .int .i64 fst], .slice A xs.length cp, .slice A2 er.length c2] w fun e w' => e = .returned (.tuple #[.agg #[.slice none 0 0, .slice none 0 0], .int .i64 E]) ∧ Below w.heap.size w w') ∨
    (∃ (K : Type) (_ : GF K) (pr fs : Nat) (ws out : List K), c = ((ch K : Nat) : Int) ∧ s = ((sz K : Nat) : Int) ∧ p = ((po K : Nat) : Int) ∧ par = (pr : Int) ∧ fst = (fs : Int) ∧ 1 ≤ pr ∧ pr ≤ sz K - 2 ∧ fs ≤ sz K - 2 ∧ ints ws = xs ∧ pr < xs.length ∧ xs.length < sz K ∧ anyOut xs.length er = false ∧ decL fs pr ws (lostL er) = some out ∧
      ∀ w, RdI w A xs → RdI w A2 er → Calls Try.prog 24 #[.agg #[.int .i64 c, .int .i64 s, .int .i64 p, .int .i64 par, .int .i64 fst], .slice A xs.length cp, .slice A2 er.length c2] w fun e w' => ∃ v1 v2, e = .returned (.tuple #[.agg #[v1, v2], .int .i64 0]) ∧ As (OwnK w' w.heap.size v1 out) ∧ As (OwnI w' w.heap.size v2 (chgL ws out xs.length)) ∧ Below w.heap.size w w') := by
  cases hv0 : vldB c s p par fst xs with
  | false => exact Or.inl ⟨1, by decide, fun w hr hr2 => decode_bad c s p par fst A A2 cp c2 xs er w hr hr2 hl hl2 (Or.inl hv0)⟩
  | true =>
    cases ha0 : anyOut xs.length er with
    | true => exact Or.inl ⟨1, by decide, fun w hr hr2 => decode_bad c s p par fst A A2 cp c2 xs er w hr hr2 hl hl2 (Or.inr ⟨hv0, ha0⟩)⟩
    | false =>
      cases hf : (decide (par < (xs.length : Int)) && decide ((xs.length : Int) < s)) with
      | false => exact Or.inl ⟨7, by decide, fun w hr hr2 => decode_length c s p par fst A A2 cp c2 xs er w hr hr2 hl hl2 hv0 ha0 hf⟩
      | true =>
        have hv := hv0
        rw [vldB_eq, Bool.and_eq_true] at hv
        have hc : CI c s p par fst := by
          have := hv.1
          unfold ciB at this
          simpa using this
        have ha : anyOut s xs = false := by simpa using hv.2
        obtain ⟨hvi, h1, h2, h3, h4⟩ := hc
        obtain ⟨K, i, rfl, rfl, rfl⟩ := field_at hvi
        have hs2 := sz_two (K := K)
        rw [Bool.and_eq_true, decide_eq_true_eq, decide_eq_true_eq] at hf
        obtain ⟨pr, rfl⟩ : ∃ n : Nat, par = n := ⟨par.toNat, by omega⟩
        obtain ⟨fs, rfl⟩ : ∃ n : Nat, fst = n := ⟨fst.toNat, by omega⟩
        obtain ⟨ws, rfl⟩ := lift_ints (K := K) ha
        have hwl : ws.length = (ints ws).length := by rw [ints_length]
        have key := fun w hr hr2 => decodeK (K := K) pr fs (by omega) (by omega) (by omega) A A2 cp c2 (ints ws).length er.length ws er hwl (by omega) (by omega) rfl hl2 ha0 w (rdI_K hr) hr2
        cases hd : decL fs pr ws (lostL er) with
        | none =>
          refine Or.inl ⟨17, by decide, fun w hr hr2 => (key w hr hr2).mono ?_⟩
          rintro e w' ⟨h, hb⟩
          rcases h with ⟨_, he⟩ | ⟨o, v1, v2, hd2, _⟩
          · exact ⟨he, hb⟩
          · have := hd2.out
            rw [hd] at this
            cases this
        | some out =>
          refine Or.inr ⟨K, i, pr, fs, ws, out, rfl, rfl, rfl, rfl, rfl, by omega, by omega, by omega, rfl, by omega, by omega, rfl, hd, fun w hr hr2 => (key w hr hr2).mono ?_⟩
          rintro e w' ⟨h, hb⟩
          rcases h with ⟨hd2, _⟩ | ⟨o, v1, v2, hd2, he, o1, o2⟩
          · have := hd2.out
            rw [hd] at this
            cases this
          · have := hd2.out
            rw [hd] at this
            cases this
            exact ⟨v1, v2, he, o1, o2, hb⟩
theorem finL_some {K : Type} [GF K] {fst par m : Nat} {word out : List K} {lost : List Int} {R : Option (List K × Nat)} (h : finL fst par m word lost R = some out) : ∃ f, R = some (out, f) ∧ witB fst par word out lost = true := by
  cases R with
  | none => cases h
  | some p =>
    obtain ⟨o, f⟩ := p
    unfold finL at h
    simp only at h
    by_cases hh : f + 1 = m ∧ witB fst par word o lost = true
    · rw [if_pos hh] at h
      cases h
      exact ⟨f, rfl, hh.2⟩
    · rw [if_neg hh] at h
      cases h
theorem decL_within {K : Type} [GF K] {fst par : Nat} {word out : List K} {lost : List Int} (h : decL fst par word lost = some out) : out.length = word.length ∧ witB fst par word out lost = true := by
  unfold decL at h
  split at h
  · cases h
  · split at h
    · cases h
    · obtain ⟨f, h1, h2⟩ := finL_some h
      exact ⟨(corS_length h1).1, h2⟩
end Go.Proofs.Ythcjmmicjbfpgaa.Rs

namespace Go.Proofs.Ythcjmmicjbfpgaa.Rs
set_option linter.unusedVariables false
set_option linter.unusedSimpArgs false
open Go.RowKit Go.Proofs.Ythcjmmicjbfpgaa.Alg
open GF
set_option linter.unusedSimpArgs false

set_option maxRecDepth 100000 in
set_option maxHeartbeats 12800000 in
theorem detects_any (c s p par fst : Int) (A1 A2 : Option Addr) (c1 c2 : Nat) (xs er : List Int) (w : World) (hx : RdI w A1 xs) (he : RdI w A2 er) :
    Calls Try.prog 7 #[.agg #[.int .i64 c, .int .i64 s, .int .i64 p, .int .i64 par, .int .i64 fst, .slice A1 xs.length c1, .slice A2 er.length c2]] w fun e w' => e = .returned (.bool true) ∧ Below w.heap.size w w' := by
  have HX := As.mk hx
  have HE := As.mk he
  have HK := As.mk (AskI.new (w := w) (c := c) (s := s) (p := p) (par := par) (fst := fst) (A1 := A1) (n1 := xs.length) (c1 := c1) (A2 := A2) (n2 := er.length) (c2 := c2) (t := 36))
  have HS := As.mk (small_any c s p par fst A1 A2 xs.length c1 er.length c2)
  clear hx he
  cases hsm : smB par xs.length er.length with
  | false =>
    rw [hsm] at HS
    clear hsm
    go_enter Try.func7, Try.ntmps7
    go_wp2_with fail
    refine (HS.out _).mono ?_
    rintro e w1 ⟨rfl, hb⟩
    go_wp2_with fail
    refine (alive_any _).mono ?_
    rintro e w3 ⟨rfl, hb3⟩
    go_wp2
    go_ret
    exact ⟨rfl, bl_then hb3 (bl_then hb (bl_alloc (bl_refl _)))⟩
  | true =>
    rw [hsm] at HS
    have hx4 : xs.length ≤ 400 ∧ er.length ≤ 400 := by
      unfold smB at hsm
      simp only [Bool.and_eq_true, decide_eq_true_eq] at hsm
      exact ⟨hsm.1.2, hsm.2⟩
    have hd := dec_all c s p par fst A1 A2 c1 c2 xs er (by omega) (by omega)
    clear hsm
    rcases hd with ⟨E, hE, hd⟩ | ⟨K, _, pr, fs, ws, out, rfl, rfl, rfl, rfl, rfl, h1, h2, h3, rfl, hp1, hp2, hin, hdl, hd⟩
    · have HD := As.mk hd
      have g3 : (E == 0) = false := beq_eq_false_iff_ne.mpr hE
      have g4 : (E != 0) = true := by rw [bne, g3]; rfl
      obtain ⟨n, hn⟩ : ∃ n, xs.length = n := ⟨_, rfl⟩
      obtain ⟨m, hm⟩ : ∃ m, er.length = m := ⟨_, rfl⟩
      rw [hn, hm] at HD HS HK ⊢
      clear hd hE hn hm hx4
      go_enter Try.func7, Try.ntmps7
      go_wp2_with fail
      refine (HS.out _).mono ?_
      rintro e w1 ⟨rfl, hb⟩
      have HB1 : As (Below w.heap.size w w1) := ⟨bl_then hb (bl_alloc (bl_refl _))⟩
      have HK1 := As.mk (HK.out.below hb)
      clear hb HK HS
      have d0 := HK1.out.b.c0
      have d1 := HK1.out.b.c1
      have d2 := HK1.out.b.c2
      have d3 := HK1.out.b.c3
      have d4 := HK1.out.b.c4
      have d5 := HK1.out.c5
      have d6 := HK1.out.c6
      go_wp2_with fail
      refine (HD.out _ (HX.out.below HB1.out) (HE.out.below HB1.out)).mono ?_
      rintro e w2 ⟨rfl, hb⟩
      have HB2 : As (Below w.heap.size w w2) := ⟨bl_then hb HB1.out⟩
      clear hb HB1 HK1 HD d0 d1 d2 d3 d4 d5 d6
      go_wp2_with fail
      refine (alive_any _).mono ?_
      rintro e w3 ⟨rfl, hb3⟩
      go_wp2
      go_ret
      exact ⟨rfl, bl_then hb3 (bl_alloc HB2.out)⟩
    · have HD := As.mk hd
      have hs2 := sz_two (K := K)
      have hs3 := sz_max (K := K)
      obtain ⟨hol, hwit⟩ := decL_within hdl
      obtain ⟨n, hn⟩ : ∃ n, (ints ws).length = n := ⟨_, rfl⟩
      obtain ⟨m, hm⟩ : ∃ m, er.length = m := ⟨_, rfl⟩
      have hwn : ws.length = n := by rw [← hn, ints_length]
      rw [hn] at HD HS HK hx4 hp1 hp2 hin ⊢
      rw [hm] at HD HS HK hx4 ⊢
      have HWN := As.mk hwn
      have HON : As (out.length = n) := ⟨hol.trans hwn⟩
      have HMN := As.mk hm
      unfold witB at hwit
      rw [Bool.and_eq_true, decide_eq_true_eq, decide_eq_true_eq, hwn] at hwit
      have HZ0 := As.mk hwit.1
      have HCAP := As.mk hwit.2
      have HIN := As.mk (fun (i : Nat) (hi : i < er.length) => (by
        unfold anyOut at hin
        have h2 := List.any_eq_false.mp hin (er.getD i 0) (by rw [List.getD_eq_getElem?_getD, List.getElem?_eq_getElem hi]; exact List.getElem_mem hi)
        unfold outB at h2
        simp only [Bool.or_eq_true, decide_eq_true_eq] at h2
        exact ⟨(er.getD i 0).toNat, by omega, by omega⟩ : ∃ x : Nat, er.getD i 0 = (x : Int) ∧ x < n))
      have hpr : pr < n := by omega
      have hsz : n < sz K := by omega
      have HSY := As.mk (fun w' B1 k1 hr' => syndromesC (K := K) pr fs h1 h2 h3 B1 k1 out (by rw [HON.out]; exact hpr) (by rw [HON.out]; exact hsz) w' hr')
      rw [HON.out] at HSY
      obtain ⟨sy, hsy⟩ : ∃ sy, synL fs pr out = sy := ⟨_, rfl⟩
      rw [hsy] at HSY HZ0
      have HSL : As (sy.length = pr) := ⟨by rw [← hsy]; exact synL_length _ _ _⟩
      have g4 : ((n : Int) == (n : Int)) = true := by simp
      have g5 : ((n : Int) != (n : Int)) = false := by simp
      have g6 : ((pr : Int) == (pr : Int)) = true := by simp
      have g7 : ((pr : Int) != (pr : Int)) = false := by simp
      have hmk := fun w => mk_bools (n := n) (by omega) w
      clear hd hol hwit hin hdl hn hm hwn hsy hp1 hp2
      go_enter Try.func7, Try.ntmps7
      go_wp2_with fail
      refine (HS.out _).mono ?_
      rintro e w1 ⟨rfl, hb⟩
      have HB1 : As (Below w.heap.size w w1) := ⟨bl_then hb (bl_alloc (bl_refl _))⟩
      have HK1 := As.mk (HK.out.below hb)
      clear hb HK HS
      have d0 := HK1.out.b.c0
      have d1 := HK1.out.b.c1
      have d2 := HK1.out.b.c2
      have d3 := HK1.out.b.c3
      have d4 := HK1.out.b.c4
      have d5 := HK1.out.c5
      have d6 := HK1.out.c6
      go_wp2_with fail
      refine (HD.out _ (HX.out.below HB1.out) (HE.out.below HB1.out)).mono ?_
      rintro e w2 ⟨v1, v2, rfl, ho1, ho2, hb⟩
      obtain ⟨q, hq⟩ : ∃ q, n = q + 1 := ⟨n - 1, by omega⟩
      obtain ⟨B1, k1, hv1, _⟩ := ho1.out.shape (HON.out.trans hq)
      rw [← hq] at hv1
      subst hv1
      obtain ⟨B2, k2, hv2, _, hr2, _⟩ := ho2.out.read
      subst hv2
      obtain ⟨kc, hkc⟩ : ∃ kc, (chgL ws out n).length = kc := ⟨_, rfl⟩
      have HKC := As.mk hkc
      rw [hkc]
      have HB2 : As (Below w.heap.size w w2) := ⟨bl_then hb HB1.out⟩
      have HR2 := As.mk hr2
      have HO := As.mk ho1.out.rd
      have HRP := As.mk (rep_new w2 (.slice (some ⟨B1, 0, none⟩) n k1) (.slice B2 kc k2))
      have HKa := As.mk ((HK1.out.below hb).below (bl_alloc (o := .cells #[.slice (some ⟨B1, 0, none⟩) n k1, .slice B2 kc k2] 47) (bl_refl _)))
      clear hb HB1 HK1 HD ho1 ho2 hr2 hkc hq d0 d1 d2 d3 d4 d5 d6
      have d0 := HKa.out.b.c0
      have d1 := HKa.out.b.c1
      have d2 := HKa.out.b.c2
      have d3 := HKa.out.b.c3
      have d4 := HKa.out.b.c4
      go_wp2_with fail
      refine (HSY.out _ _ _ (HO.out.below (bl_alloc (bl_refl _)))).mono ?_
      rintro e w3 ⟨v3, rfl, hs3', hb⟩
      obtain ⟨q, hq⟩ : ∃ q, pr = q + 1 := ⟨pr - 1, by omega⟩
      obtain ⟨gs, cs, hv3, _⟩ := hs3'.out.shape (HSL.out.trans hq)
      rw [← hq] at hv3
      subst hv3
      have HB3 : As (Below w.heap.size w w3) := ⟨bl_then hb (bl_alloc HB2.out)⟩
      have HS3 := As.mk hs3'.out
      have HK3 := As.mk (HKa.out.below hb)
      have HRP3 := As.mk (HRP.out.below hb)
      have HR3 := As.mk ((HR2.out.below (bl_alloc (bl_refl _))).below hb)
      have HO3 := As.mk ((HO.out.below (bl_alloc (bl_refl _))).below hb)
      have HE3 := As.mk (HE.out.below HB3.out)
      have HX3 := As.mk (HX.out.below HB3.out)
      obtain ⟨Zr, hZr⟩ : ∃ Zr, w2.heap.size = Zr := ⟨_, rfl⟩
      rw [hZr] at HRP3 ⊢
      clear hb HB2 hs3' HKa HRP HR2 HO HSY hq d0 d1 d2 d3 d4 HX HE hZr
      have d3 := HK3.out.b.c3
      have d5 := HK3.out.c5
      have d6 := HK3.out.c6
      have r0 := HRP3.out.1
      have r1 := HRP3.out.2
      go_wp2
      go_loop [71] (fun x => ∃ i : Nat, x = .int .i64 i ∧ i ≤ pr) (fun x => pr - (intOf x).toNat)
      case atStart => exact ⟨0, rfl, by omega⟩
      case round =>
        obtain ⟨i, rfl, hi⟩ := hrel
        by_cases hlt : i < pr
        · have hd : decide (i < pr) = true := decide_eq_true hlt
          have hcell := (HS3.out.cell HSL.out hlt).1
          rw [HZ0.out i hlt, val_zero] at hcell
          go_wp2
          go_round
          case rel => exact ⟨i + 1, by go_num, by omega⟩
          case measure => simp [intOf]; omega
        · have hd : decide (i < pr) = false := decide_eq_false hlt
          have HOB := As.mk (OwnB.new (W := w3) (n := n) (by omega))
          rw [← lb_zero er] at HOB
          obtain ⟨L, hL⟩ : ∃ L, w3.heap.size = L := ⟨_, rfl⟩
          rw [hL] at HOB
          have HL := As.mk hL
          have HBA : As (Below w3.heap.size w3 (w3.alloc (.cells (falses n) 4))) := ⟨bl_alloc (bl_refl _)⟩
          have e6 := (HK3.out.below HBA.out).c6
          go_wp2
          try rw [HL.out]
          clear hL hmk e6 d3 d5 d6 r0 r1 hd
          go_loopw [9, 87] (fun ct x wr => ∃ j : Nat, x = .int .i64 j ∧ ct = .int .i64 (dl er j).length ∧ j ≤ m ∧ As (OwnB wr L L n (lb er n j)) ∧ As (Below w3.heap.size w3 wr)) (fun _ x _ => m - (intOf x).toNat)
          case atStart => exact ⟨0, rfl, rfl, by omega, HOB, HBA⟩
          case round =>
            clear HOB HBA
            obtain ⟨j, rfl, rfl, hj, hO, hB⟩ := hrel
            have hdle := dl_le er j
            obtain ⟨ct, hct⟩ : ∃ ct, (dl er j).length = ct := ⟨_, rfl⟩
            have HCT := As.mk hct
            rw [hct] at hdle ⊢
            clear hct
            by_cases hltj : j < m
            · have hdj : decide (j < m) = true := decide_eq_true hltj
              obtain ⟨x, hxe, hxn⟩ := HIN.out j (by rw [HMN.out]; exact hltj)
              have HXE := As.mk hxe
              obtain ⟨b, o, rfl, hc⟩ := (HE3.out.below hB.out) j (by rw [HMN.out]; exact hltj)
              rw [hxe] at hc
              obtain ⟨hc1, hf1⟩ := hO.out.cell (lb_length _ _ _) hxn
              rw [lb_get hxn] at hc1
              have e6 := (HK3.out.below hB.out).c6
              have g8 : decide ((x : Int) < 0) = false := decide_eq_false (by omega)
              have g9 : decide (n ≤ x) = false := decide_eq_false (by omega)
              clear hxe
              by_cases hmem : (x : Int) ∈ dl er j
              · rw [decide_eq_true hmem] at hc1
                have HN1 : As ((dl er (j + 1)).length = ct) := ⟨by rw [dl_succ_mem (by rw [HXE.out]; exact hmem), HCT.out]⟩
                clear hmem
                go_wp2
                go_roundw
                case rel => exact ⟨j + 1, by go_num, by rw [HN1.out], by omega, ⟨by rw [← lb_set HXE.out]; exact hO.out.put x true⟩, ⟨bl_set (by have := HL.out; show w3.heap.size ≤ L; omega) hB.out⟩⟩
                case measure => simp [intOf]; omega
              · rw [decide_eq_false hmem] at hc1
                have HN1 : As ((dl er (j + 1)).length = ct + 1) := ⟨by rw [dl_succ_new (by rw [HXE.out]; exact hmem), HCT.out]⟩
                have f1 : IntKind.i64.wrap ((ct : Int) + 1) = (ct : Int) + 1 := in64 (by omega) (by omega)
                clear hmem
                go_wp2
                go_roundw
                case rel => exact ⟨j + 1, by go_num, by rw [HN1.out]; rfl, by omega, ⟨by rw [← lb_set HXE.out]; exact hO.out.put x true⟩, ⟨bl_set (by have := HL.out; show w3.heap.size ≤ L; omega) hB.out⟩⟩
                case measure => simp [intOf]; omega
            · have hdj : decide (j < m) = false := decide_eq_false hltj
              obtain rfl : j = m := by omega
              have HCT2 : As (ct = (lostL er).length) := ⟨by rw [← HCT.out, ← HMN.out, dl_length]⟩
              obtain ⟨wz, hwz⟩ : ∃ wz, wr = wz := ⟨_, rfl⟩
              rw [hwz] at hO hB ⊢
              have HBz : As (Below w.heap.size w wz) := ⟨bl_then hB.out HB3.out⟩
              have HKz := As.mk (HK3.out.below hB.out)
              have HRPz := As.mk (HRP3.out.below hB.out)
              have HRz := As.mk (HR3.out.below hB.out)
              have HOz := As.mk (HO3.out.below hB.out)
              have HXz := As.mk (HX3.out.below hB.out)
              have r0 := HRPz.out.1
              clear hwz hB HK3 HRP3 HR3 HO3 HX3 HE3 HB3 HS3 HIN
              go_wp2
              clear r0
              go_loopw [9, 11, 128] (fun cn kk x wr => ∃ i2 : Nat, x = .int .i64 i2 ∧ kk = .int .i64 (chgL ws out i2).length ∧ cn = .int .i64 ((ct + 2 * cntD ws out (lostL er) i2 : Nat) : Int) ∧ i2 ≤ n ∧ As (Below wz.heap.size wz wr)) (fun _ _ x _ => n - (intOf x).toNat)
              case atStart => exact ⟨0, rfl, rfl, rfl, by omega, ⟨bl_refl _⟩⟩
              case round =>
                obtain ⟨i2, rfl, rfl, rfl, hi2, hB⟩ := hrel
                have hcl := chgL_length ws out i2
                have hcd := cntD_le ws out (lostL er) i2
                obtain ⟨kk, hkk⟩ : ∃ kk, (chgL ws out i2).length = kk := ⟨_, rfl⟩
                obtain ⟨cd, hcdd⟩ : ∃ cd, cntD ws out (lostL er) i2 = cd := ⟨_, rfl⟩
                have HKK := As.mk hkk
                have HCD := As.mk hcdd
                rw [hkk] at hcl ⊢
                rw [hcdd] at hcd ⊢
                obtain ⟨cc, hcc⟩ : ∃ cc, ct + 2 * cd = cc := ⟨_, rfl⟩
                have HCC := As.mk hcc
                rw [hcc]
                have hccb : cc ≤ 2000 := by omega
                clear hkk hcdd hcc
                by_cases hlt2 : i2 < n
                · have hd2 : decide (i2 < n) = true := decide_eq_true hlt2
                  obtain ⟨b, o, rfl, hc1⟩ := (HXz.out.below hB.out) i2 (by rw [ints_length, HWN.out]; exact hlt2)
                  rw [ints_getD _ (by rw [HWN.out]; exact hlt2)] at hc1
                  have hc2 := rd0 (HOz.out.below hB.out) (i := i2) (by rw [HON.out]; exact hlt2)
                  have r0 := (HRPz.out.below hB.out).1
                  have r1 := (HRPz.out.below hB.out).2
                  have d5 := (HKz.out.below hB.out).c5
                  obtain ⟨x, hx⟩ : ∃ x, val (atl ws i2) = x := ⟨_, rfl⟩
                  obtain ⟨y, hy⟩ : ∃ y, val (atl out i2) = y := ⟨_, rfl⟩
                  rw [hx] at hc1
                  rw [hy] at hc2
                  by_cases hxy : x = y
                  · have hat : atl ws i2 = atl out i2 := val_inj (by rw [hx, hy]; exact hxy)
                    have hn1 : chgL ws out (i2 + 1) = chgL ws out i2 := by
                      conv => lhs; unfold chgL
                      rw [if_neg (fun h => h hat)]
                    have hn2 : cntD ws out (lostL er) (i2 + 1) = cntD ws out (lostL er) i2 := by
                      conv => lhs; unfold cntD
                      rw [if_neg (fun h => h.1 hat)]; rfl
                    have HN1 := As.mk hn1
                    have HN2 := As.mk hn2
                    clear hn1 hn2
                    have q1 : ((y : Int) == (x : Int)) = true := beq_iff_eq.mpr (by omega)
                    have q2 : ((y : Int) != (x : Int)) = false := by rw [bne, q1]; rfl
                    clear hx hy hat
                    go_wp2
                    refine wp_region_chain (fun w' => Below wr.heap.size wr w') [10] (by kernel_rfl) (by kernel_rfl) (by kernel_rfl) (by kernel_rfl) rfl (by kernel_rfl) (bl_drew (bl_refl _)) ?_
                    iterate 10 (apply OblH.val rfl; · (intro w' hS; have p1 := cell_below hS hc1; have p2 := cell_below hS hc2; have p3 := cell_below hS r0; have p4 := cell_below hS d5; go_simp; rfl))
                    refine OblH.skip rfl ?_
                    refine OblH.done (Chain.last rfl ?_)
                    go_wp2
                    refine onlyN.last rfl ?_
                    go_wp2
                    go_roundw
                    case rel => exact ⟨i2 + 1, by go_num, by rw [HN1.out, HKK.out], by rw [HN2.out, HCD.out, HCC.out], by omega, ⟨bl_drew hB.out⟩⟩
                    case measure => simp [intOf]; omega
                  · have hat : atl ws i2 ≠ atl out i2 := fun h => hxy (by rw [← hx, ← hy, h])
                    have HN1 : As ((chgL ws out (i2 + 1)).length = kk + 1) := ⟨by
                      conv => lhs; unfold chgL
                      rw [if_pos hat, List.length_append, HKK.out]
                      rfl⟩
                    obtain ⟨hlt3, hget⟩ := chgL_at (n := n) hlt2 hat
                    rw [HKC.out, HKK.out] at hlt3
                    rw [HKK.out] at hget
                    obtain ⟨b3, o3, rfl, hc3⟩ := (HRz.out.below hB.out) kk (by rw [HKC.out]; exact hlt3)
                    rw [hget] at hc3
                    have q1 : ((y : Int) == (x : Int)) = false := beq_eq_false_iff_ne.mpr (by omega)
                    have q2 : ((y : Int) != (x : Int)) = true := by rw [bne, q1]; rfl
                    have q3 : decide (kc ≤ kk) = false := decide_eq_false (by omega)
                    have q4 : ((i2 : Int) == (i2 : Int)) = true := by simp
                    have q5 : ((i2 : Int) != (i2 : Int)) = false := by simp
                    have f1 : IntKind.i64.wrap ((kk : Int) + 1) = (kk : Int) + 1 := in64 (by omega) (by omega)
                    obtain ⟨hcb, _⟩ := (hO.out.below hB.out).cell (lb_length _ _ _) hlt2
                    rw [lb_get hlt2] at hcb
                    have hmem : decide ((i2 : Int) ∈ dl er j) = (lostL er).contains (i2 : Int) := by
                      rw [← HMN.out]
                      by_cases hmm : (i2 : Int) ∈ lostL er
                      · rw [List.contains_iff_mem.mpr hmm]
                        exact decide_eq_true ((dl_mem er _ (Nat.le_refl _) _).mpr (by rw [List.take_length]; exact lostL_iff.mp hmm))
                      · rw [Bool.eq_false_iff.mpr (fun h => hmm (List.contains_iff_mem.mp h))]
                        refine decide_eq_false (fun h => hmm (lostL_iff.mpr ?_))
                        have := (dl_mem er _ (Nat.le_refl _) _).mp h
                        rw [List.take_length] at this
                        exact this
                    rw [hmem] at hcb
                    obtain ⟨lo, hlo⟩ : ∃ lo, (lostL er).contains (i2 : Int) = lo := ⟨_, rfl⟩
                    rw [hlo] at hcb
                    have HN2 : As (cntD ws out (lostL er) (i2 + 1) = cd + (if lo = false then 1 else 0)) := ⟨by
                      conv => lhs; unfold cntD
                      rw [HCD.out, hlo]
                      cases lo
                      · rw [if_pos ⟨hat, rfl⟩, if_pos rfl]
                      · rw [if_neg (fun h => by cases h.2), if_neg (fun h => by cases h)]⟩
                    clear hx hy hat hmem hlo hget
                    cases lo with
                    | true =>
                      go_wp2
                      refine wp_region_chain (fun w' => Below wr.heap.size wr w') [10] (by kernel_rfl) (by kernel_rfl) (by kernel_rfl) (by kernel_rfl) rfl (by kernel_rfl) (bl_drew (bl_refl _)) ?_
                      iterate 10 (apply OblH.val rfl; · (intro w' hS; have p1 := cell_below hS hc1; have p2 := cell_below hS hc2; have p3 := cell_below hS r0; have p4 := cell_below hS d5; go_simp; rfl))
                      refine OblH.skip rfl ?_
                      refine OblH.done (Chain.last rfl ?_)
                      go_wp2
                      refine onlyN.last rfl ?_
                      go_wp2
                      go_roundw
                      case rel => exact ⟨i2 + 1, by go_num, by rw [HN1.out]; rfl, by rw [HN2.out, if_neg (by decide), Nat.add_zero, HCC.out], by omega, ⟨bl_drew hB.out⟩⟩
                      case measure => simp [intOf]; omega
                    | false =>
                      have f2 : IntKind.i64.wrap ((cc : Int) + 2) = (cc : Int) + 2 := in64 (by omega) (by omega)
                      have HC2 : As (ct + 2 * cntD ws out (lostL er) (i2 + 1) = cc + 2) := ⟨by rw [HN2.out, if_pos rfl]; have := HCC.out; omega⟩
                      go_wp2
                      refine wp_region_chain (fun w' => Below wr.heap.size wr w') [10] (by kernel_rfl) (by kernel_rfl) (by kernel_rfl) (by kernel_rfl) rfl (by kernel_rfl) (bl_drew (bl_refl _)) ?_
                      iterate 10 (apply OblH.val rfl; · (intro w' hS; have p1 := cell_below hS hc1; have p2 := cell_below hS hc2; have p3 := cell_below hS r0; have p4 := cell_below hS d5; go_simp; rfl))
                      refine OblH.skip rfl ?_
                      refine OblH.done (Chain.last rfl ?_)
                      go_wp2
                      refine onlyN.last rfl ?_
                      go_wp2
                      go_roundw
                      case rel => exact ⟨i2 + 1, by go_num, by rw [HN1.out]; rfl, by rw [HC2.out]; rfl, by omega, ⟨bl_drew hB.out⟩⟩
                      case measure => simp [intOf]; omega
                · have hd2 : decide (i2 < n) = false := decide_eq_false hlt2
                  obtain rfl : i2 = n := by omega
                  have hke : kk = kc := by rw [← HKK.out]; exact HKC.out
                  subst hke
                  have q1 : ((kk : Int) == (kk : Int)) = true := by simp
                  have hcap : cc ≤ pr := by
                    have := HCAP.out
                    rw [HCD.out, ← HCT2.out] at this
                    have := HCC.out
                    omega
                  have q2 : decide (cc ≤ pr) = true := decide_eq_true hcap
                  have r1 := (HRPz.out.below hB.out).2
                  have d3 := (HKz.out.below hB.out).b.c3
                  go_wp2_with fail
                  refine (alive_any _).mono ?_
                  rintro e w9 ⟨rfl, hb9⟩
                  go_wp2
                  go_ret
                  exact ⟨rfl, bl_then hb9 (bl_then hB.out HBz.out)⟩
end Go.Proofs.Ythcjmmicjbfpgaa.Rs
