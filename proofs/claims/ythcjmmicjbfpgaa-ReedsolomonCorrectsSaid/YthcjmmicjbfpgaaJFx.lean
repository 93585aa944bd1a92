/-
What Decode comes to at a word within the capacity of a codeword: that codeword.
-/
import Derived.Test.YthcjmmicjbfpgaaJRl
import Derived.Test.YthcjmmicjbfpgaaJAb
namespace Go.Proofs.Ythcjmmicjbfpgaa.Rs
set_option linter.unusedVariables false
set_option linter.unusedSimpArgs false
open Go.RowKit Go.Proofs.Ythcjmmicjbfpgaa.Alg
open GF Fld

section
variable {K : Type} [GF K]
/-- the element that belongs to an index -/
noncomputable def pl (K : Type) [GF K] (n : Nat) (i : Int) : K := gz ((n : Int) - 1 - i)
theorem pl_bk (n i : Nat) : pl K n (i : Int) * bk K n i = 1 := gz_neg _
theorem pl_inj {n i j : Nat} (hn : n < sz K) (hi : i < n) (hj : j < n) (h : pl K n (i : Int) = pl K n (j : Int)) : i = j := by
  unfold pl at h
  rw [show (n : Int) - 1 - (i : Int) = ((n - 1 - i : Nat) : Int) by omega, show (n : Int) - 1 - (j : Int) = ((n - 1 - j : Nat) : Int) by omega] at h
  have := gz_inj (K := K) (i := n - 1 - i) (j := n - 1 - j) (by omega) (by omega) h
  omega
theorem pl_ne (n : Nat) (i : Int) : pl K n i ≠ 0 := gz_ne _
theorem atl_fac (a : K) : atl [1, 0 - a] = loc [a] := by
  funext i
  match i with
  | 0 => exact (loc_0 [a]).symm
  | 1 =>
    show 0 - a = ml a (loc []) 1
    show 0 - a = loc [] 1 - a * loc [] 0
    rw [loc_0, mul_one]
    rw [loc_supp [] 1 (by simp)]
  | i + 2 => rw [atl_out (by simp), loc_supp [a] (i + 2) (by simp)]
theorem atl_gamL (n : Nat) (l : List Int) : atl (gamL K n l) = loc (l.map (pl K n)) := by
  unfold gamL
  suffices ∀ (l : List Int) (p t : List K), 1 ≤ p.length → atl p = loc t → atl (l.foldl (fun p i => mulL p [1, 0 - gz ((n : Int) - 1 - i)]) p) = loc (t ++ l.map (pl K n)) from this l [1] [] (by simp) atl_one
  intro l
  induction l with
  | nil => intro p t _ h; simpa using h
  | cons i l ih =>
    intro p t hp h
    rw [List.foldl_cons, ih _ (t ++ [pl K n i]) (by rw [mulL_length]; simp) (by
      rw [atl_mulL _ _ hp, h, atl_fac, conv_loc]; rfl)]
    rw [List.append_assoc]; rfl
theorem dis_congr {C : Nat → K} {L : Nat} {s s' : Nat → K} {j : Nat} (h : ∀ i, i ≤ j → s i = s' i) : dis C L s j = dis C L s' j := by
  unfold dis
  exact S_congr (fun i _ => by rw [h _ (Nat.sub_le _ _)])
theorem recur_congr {C : Nat → K} {L n : Nat} {s s' : Nat → K} (h : ∀ i, i < n → s i = s' i) (hr : recur C L s n) : recur C L s' n := fun j h1 h2 => by
  rw [← dis_congr (fun i hi => h i (by omega))]
  exact hr j h1 h2
theorem inv_congr {s s' : Nat → K} {n : Nat} {C B : Nat → K} {L m : Nat} {b : K} (h : ∀ i, i < n → s i = s' i) (hi : Inv s n C B L m b) : Inv s' n C B L m b := by
  have hmp := hi.mpos
  refine ⟨hi.c0, hi.cs, hi.ln, recur_congr h hi.cg, hi.bne, hi.mpos, ?_⟩
  rcases hi.back with ⟨h0, h1, h2, h3⟩ | ⟨hm, M, a1, a2, a3, a4, a5, a6⟩
  · exact Or.inl ⟨h0, h1, h2, fun j hj => by rw [← h j hj]; exact h3 j hj⟩
  · refine Or.inr ⟨hm, M, a1, a2, a3, recur_congr (fun i hi => h i (by omega)) a4, ?_, a6⟩
    rw [← dis_congr (fun i hi => h i (by omega))]
    exact a5
theorem conv_congr {f f' g : Nat → K} {k : Nat} (h : ∀ i, i ≤ k → f i = f' i) : conv f g k = conv f' g k := by
  unfold conv
  exact S_congr (fun i hi => by rw [h i (by omega)])
theorem trm_top {xs : List K} {e : Nat} (h0 : atl xs e ≠ 0) (h1 : ∀ k, e < k → atl xs k = 0) : ∀ n, e < n → trm xs n = e + 1
  | n + 1, h => by
    unfold trm
    by_cases c : e = n
    · subst c; rw [if_neg h0]
    · rw [if_pos (h1 n (by omega)), trm_top h0 h1 n (by omega)]
theorem sig_loc {s l : List K} (h1 : (runB s s.length).l = l.length) (h2 : atl (runB s s.length).c = loc l) (hne : ∀ a, a ∈ l → a ≠ 0) :
    (sigL s).length = l.length + 1 ∧ atl (sigL s) = loc l ∧ sizL s = l.length := by
  have h3 : atl (runB s s.length).c l.length ≠ 0 := by rw [h2]; exact loc_last hne
  have h4 : l.length < (runB s s.length).c.length := by
    apply Classical.byContradiction
    intro h
    exact h3 (atl_out (by omega))
  have h5 : trm (runB s s.length).c (runB s s.length).c.length = l.length + 1 := trm_top h3 (fun k hk => by rw [h2]; exact loc_supp _ _ hk) _ h4
  refine ⟨by rw [sigL_length, h5], ?_, h1⟩
  funext i
  unfold sigL
  rw [h5]
  by_cases h : i < l.length + 1
  · rw [atl_take h, h2]
  · rw [atl_out (by rw [List.length_take]; omega), loc_supp _ _ (by omega)]

/-! a locator that has all its zeros at indexes -/
theorem roo_loc {lc t : List K} (hl : lc.length = t.length + 1) (ha : atl lc = loc t) (n i : Nat) : roo lc n i ↔ pl K n (i : Int) ∈ t := by
  unfold roo
  rw [hl, ha, ev_loc_zero]
  have hx := pl_bk (K := K) n i
  have hb : bk K n i ≠ 0 := gz_ne _
  constructor
  · rintro ⟨a, h1, h2⟩
    have : a = pl K n (i : Int) := mul_left_cancel hb (by rw [mul_comm, h2, mul_comm, hx])
    rw [← this]; exact h1
  · exact fun h => ⟨_, h, hx⟩
theorem slo_loc {lc t : List K} (hl : lc.length = t.length + 1) (ha : atl lc = loc t) {n i : Nat} (hm : pl K n (i : Int) ∈ t) : slo lc n i = -(pl K n (i : Int) * ev t.length (loc (t.erase (pl K n (i : Int)))) (bk K n i)) := by
  rw [← slope_at hm (pl_bk n i)]
  unfold slo
  rw [derL_length, hl, Nat.add_sub_cancel]
  unfold ev
  refine S_congr (fun j hj => ?_)
  unfold derL
  rw [atl_map_range _ (by rw [hl]; omega), ha]
theorem slo_ne {lc t : List K} (hl : lc.length = t.length + 1) (ha : atl lc = loc t) (hnd : t.Nodup) {n i : Nat} (hm : pl K n (i : Int) ∈ t) : slo lc n i ≠ 0 := by
  rw [slo_loc hl ha hm]
  exact neg_ne (mul_ne_zero (pl_ne _ _) (ev_loc_erase_ne hnd hm (pl_bk n i)))
theorem valE_eq {lc t om : List K} (hl : lc.length = t.length + 1) (ha : atl lc = loc t) (hnd : t.Nodup) {fst n i : Nat} (hm : pl K n (i : Int) ∈ t) {W : K} (hW : ev om.length (atl om) (bk K n i) = W * ev t.length (loc (t.erase (pl K n (i : Int)))) (bk K n i)) :
    valE fst om lc n i = -(gz (-(((n : Int) - 1 - (i : Int)) * (fst : Int))) * W) := by
  have hP := ev_loc_erase_ne hnd hm (pl_bk n i)
  unfold valE
  rw [slo_loc hl ha hm, hW, Int.mul_sub, Int.mul_one, Int.sub_eq_add_neg, gz_add]
  show pl K n (i : Int) * _ * _ * _ = _
  have hX := pl_ne (K := K) n (i : Int)
  generalize pl K n (i : Int) = X at hX hP ⊢
  generalize ev t.length (loc (t.erase X)) (bk K n i) = P at hP ⊢
  generalize (gz (-(((n : Int) - 1 - (i : Int)) * (fst : Int))) : K) = Y
  have hXP : -(X * P) ≠ 0 := neg_ne (mul_ne_zero hX hP)
  have e : X * Y * (W * P) = -(Y * W) * -(X * P) := by
    rw [neg_mul, mul_neg, neg_neg]; ac_rfl
  rw [e, mul_assoc, mul_inv _ hXP, mul_one]
/-- what corS makes with such a locator -/
theorem corS_gen {lc t : List K} (hl : lc.length = t.length + 1) (ha : atl lc = loc t) (hnd : t.Nodup) (fst : Nat) (om word : List K) {n : Nat} (hw : word.length = n) : ∀ i, i ≤ n →
    ∃ out f, corS fst om lc n word i = some (out, f) ∧ out.length = n ∧ (∀ j, atl out j = if j < i ∧ pl K n (j : Int) ∈ t then atl word j + valE fst om lc n j else atl word j) ∧ f = ((List.range i).filter (fun j : Nat => decide (pl K n (j : Int) ∈ t))).length
  | 0, _ => ⟨word, 0, rfl, hw, fun j => by rw [if_neg (by omega)], rfl⟩
  | i + 1, hi => by
    obtain ⟨out, f, h1, h2, h3, h4⟩ := corS_gen hl ha hnd fst om word hw i (by omega)
    have hf : ((List.range (i + 1)).filter (fun j : Nat => decide (pl K n (j : Int) ∈ t))).length = f + (if pl K n (i : Int) ∈ t then 1 else 0) := by
      rw [List.range_succ, List.filter_append, List.length_append, ← h4]
      by_cases hm : pl K n (i : Int) ∈ t
      · rw [if_pos hm]; simp [hm]
      · rw [if_neg hm]; simp [hm]
    unfold corS
    rw [h1]
    simp only
    by_cases hm : pl K n (i : Int) ∈ t
    · rw [if_pos ((roo_loc hl ha n i).mpr hm), if_neg (slo_ne hl ha hnd hm)]
      refine ⟨_, _, rfl, by rw [List.length_set]; exact h2, fun j => ?_, by rw [hf, if_pos hm]⟩
      by_cases e : j = i
      · subst e
        rw [atl_set_self (by omega), if_pos ⟨by omega, hm⟩, h3, if_neg (by omega)]
      · rw [atl_set_ne (fun h => e h.symm), h3]
        by_cases c : j < i ∧ pl K n (j : Int) ∈ t
        · rw [if_pos c, if_pos ⟨by omega, c.2⟩]
        · rw [if_neg c, if_neg (fun h => c ⟨by omega, h.2⟩)]
    · rw [if_neg (fun h => hm ((roo_loc hl ha n i).mp h))]
      refine ⟨_, _, rfl, h2, fun j => ?_, by rw [hf, if_neg hm]; rfl⟩
      rw [h3]
      by_cases c : j < i ∧ pl K n (j : Int) ∈ t
      · rw [if_pos c, if_pos ⟨by omega, c.2⟩]
      · rw [if_neg c, if_neg (fun h => c ⟨by
          by_cases e : j = i
          · subst e; exact absurd h.2 hm
          · omega, h.2⟩)]
theorem nodup_pl {n : Nat} (hn : n < sz K) {l : List Nat} (hl : l.Nodup) (hb : ∀ i ∈ l, i < n) : (l.map (fun i : Nat => pl K n (i : Int))).Nodup := by
  rw [List.Nodup, List.pairwise_map]
  refine List.Pairwise.imp_of_mem ?_ hl
  intro i j hi hj hne e
  exact hne (pl_inj hn (hb i hi) (hb j hj) e)
theorem cnt_places {n : Nat} (hn : n < sz K) {t : List K} (hnd : t.Nodup) (hsub : ∀ x ∈ t, ∃ j : Nat, j < n ∧ pl K n (j : Int) = x) : ((List.range n).filter (fun j : Nat => decide (pl K n (j : Int) ∈ t))).length = t.length := by
  have h1 := nodup_pl hn (List.nodup_range.filter (fun j : Nat => decide (pl K n (j : Int) ∈ t))) (n := n) (fun i hi => by
    have := (List.mem_filter.mp hi).1
    exact List.mem_range.mp this)
  have e : (((List.range n).filter (fun j : Nat => decide (pl K n (j : Int) ∈ t))).map (fun i : Nat => pl K n (i : Int))).length = ((List.range n).filter (fun j : Nat => decide (pl K n (j : Int) ∈ t))).length := List.length_map _
  rw [← e]
  refine Nat.le_antisymm (h1.length_le_of_subset ?_) (hnd.length_le_of_subset ?_)
  · intro x hx
    obtain ⟨i, hi, rfl⟩ := List.mem_map.mp hx
    simpa using (List.mem_filter.mp hi).2
  · intro x hx
    obtain ⟨j, hj, rfl⟩ := hsub x hx
    exact List.mem_map.mpr ⟨j, List.mem_filter.mpr ⟨List.mem_range.mpr hj, by simpa using hx⟩, rfl⟩
theorem cntD_filter (v w : List K) (lost : List Int) : ∀ n, cntD v w lost n = ((List.range n).filter (fun i : Nat => decide (atl v i ≠ atl w i ∧ lost.contains (i : Int) = false))).length
  | 0 => rfl
  | n + 1 => by
    rw [List.range_succ, List.filter_append, List.length_append, ← cntD_filter v w lost n]
    show cntD v w lost n + (if atl v n ≠ atl w n ∧ lost.contains (n : Int) = false then 1 else 0) = _
    by_cases h : atl v n ≠ atl w n ∧ lost.contains (n : Int) = false
    · rw [if_pos h, List.filter_cons_of_pos (by simpa using h)]; rfl
    · rw [if_neg h, List.filter_cons_of_neg (by simpa using h)]; rfl

theorem pows_syn {fst par n : Nat} {v w : List K} (hv : v.length = n) (hwl : w.length = n) (hw : ∀ k, k < par → wv w (gz ((fst : Int) + (k : Int))) = 0) {j : Nat} (hj : j < par) :
    atl (synL fst par v) j = pows n (fun i : Nat => pl K n (i : Int)) (fun i => (atl v i - atl w i) * gz (((n : Int) - 1 - (i : Int)) * (fst : Int))) j := by
  rw [syn_at v hj, ← sub_zero (wv v _), ← hw j hj]
  unfold wv pows
  rw [hv, hwl, ← S_sub]
  refine S_congr (fun i hi => ?_)
  rw [← sub_mul, mul_assoc]
  congr 1
  unfold pl
  rw [← gz_mul, ← gz_mul, ← gz_add]
  congr 1
  rw [show ((n - 1 - i : Nat) : Int) = (n : Int) - 1 - (i : Int) by omega, Int.add_mul, Int.mul_comm (fst : Int), Int.mul_comm (j : Int)]

theorem decL_ok {fst par n : Nat} {v w : List K} {lost : List Int} (h0 : 0 < par) (hv : v.length = n) (hwl : w.length = n) (hn : n < sz K) (hw : ∀ k, k < par → wv w (gz ((fst : Int) + (k : Int))) = 0)
    (hnd : lost.Nodup) (hin : ∀ x ∈ lost, ∃ j : Nat, j < n ∧ x = (j : Int)) (hcap : 2 * cntD v w lost n + lost.length ≤ par) : decL fst par v lost = some w := by
  -- the places
  obtain ⟨G, hG⟩ : ∃ G, lost.map (pl K n) = G := ⟨_, rfl⟩
  have hGl : G.length = lost.length := by rw [← hG]; exact List.length_map _
  have hGm : ∀ j : Nat, j < n → (pl K n (j : Int) ∈ G ↔ (j : Int) ∈ lost) := by
    intro j hj
    rw [← hG, List.mem_map]
    constructor
    · rintro ⟨x, hx, e⟩
      obtain ⟨i, hi, rfl⟩ := hin x hx
      have := pl_inj hn hi hj e
      rw [← this]; exact hx
    · exact fun h => ⟨_, h, rfl⟩
  have hGs : ∀ x ∈ G, ∃ j : Nat, j < n ∧ (j : Int) ∈ lost ∧ pl K n (j : Int) = x := by
    intro x hx
    rw [← hG] at hx
    obtain ⟨y, hy, rfl⟩ := List.mem_map.mp hx
    obtain ⟨i, hi, rfl⟩ := hin y hy
    exact ⟨i, hi, hy, rfl⟩
  have hGn : G.Nodup := by
    rw [← hG, List.Nodup, List.pairwise_map]
    refine List.Pairwise.imp_of_mem ?_ hnd
    intro x y hx hy hne e
    obtain ⟨i, hi, rfl⟩ := hin x hx
    obtain ⟨j, hj, rfl⟩ := hin y hy
    exact hne (by rw [pl_inj hn hi hj e])
  obtain ⟨E, hE⟩ : ∃ E, ((List.range n).filter (fun i : Nat => decide (atl v i ≠ atl w i ∧ lost.contains (i : Int) = false))).map (fun i : Nat => pl K n (i : Int)) = E := ⟨_, rfl⟩
  have hEl : E.length = cntD v w lost n := by rw [← hE, List.length_map, cntD_filter]
  have hEs : ∀ x, x ∈ E ↔ ∃ i : Nat, i < n ∧ atl v i ≠ atl w i ∧ ¬ (i : Int) ∈ lost ∧ pl K n (i : Int) = x := by
    intro x
    rw [← hE, List.mem_map]
    constructor
    · rintro ⟨i, hi, rfl⟩
      obtain ⟨h1, h2⟩ := List.mem_filter.mp hi
      have h3 := of_decide_eq_true h2
      refine ⟨i, List.mem_range.mp h1, h3.1, fun h => ?_, rfl⟩
      have := List.contains_iff_mem.mpr h
      rw [h3.2] at this
      cases this
    · rintro ⟨i, h1, h2, h3, rfl⟩
      refine ⟨i, List.mem_filter.mpr ⟨List.mem_range.mpr h1, decide_eq_true ⟨h2, Bool.eq_false_iff.mpr (fun h => h3 (List.contains_iff_mem.mp h))⟩⟩, rfl⟩
  have hEn : E.Nodup := by
    rw [← hE]
    exact nodup_pl hn (List.nodup_range.filter _) (fun i hi => List.mem_range.mp (List.mem_filter.mp hi).1)
  have hdj : (E ++ G).Nodup := by
    rw [List.nodup_append]
    refine ⟨hEn, hGn, fun a ha b hb e => ?_⟩
    subst e
    obtain ⟨i, h1, h2, h3, rfl⟩ := (hEs a).mp ha
    exact h3 ((hGm i h1).mp hb)
  -- the syndromes
  have hs := fun j (hj : j < par) => pows_syn (K := K) (fst := fst) hv hwl hw hj
  obtain ⟨W, hWd⟩ : ∃ W : Nat → K, (fun i : Nat => (atl v i - atl w i) * gz (((n : Int) - 1 - (i : Int)) * (fst : Int))) = W := ⟨_, rfl⟩
  obtain ⟨X, hXd⟩ : ∃ X : Nat → K, (fun i : Nat => pl K n (i : Int)) = X := ⟨_, rfl⟩
  rw [hWd, hXd] at hs
  have hWi : ∀ i, W i = (atl v i - atl w i) * gz (((n : Int) - 1 - (i : Int)) * (fst : Int)) := fun i => by rw [← hWd]
  have hXi : ∀ i : Nat, X i = pl K n (i : Int) := fun i => by rw [← hXd]
  have hW0 : ∀ i, W i ≠ 0 ↔ atl v i ≠ atl w i := by
    intro i
    rw [hWi]
    constructor
    · exact fun h e => h (by rw [e, sub_self, zero_mul])
    · exact fun h => mul_ne_zero (fun e => h (sub_eq_zero e)) (gz_ne _)
  have hXinj : ∀ i j, i < n → j < n → X i = X j → i = j := fun i j h1 h2 e => by
    rw [hXi, hXi] at e
    exact pl_inj hn h1 h2 e
  have hsl : (synL fst par v).length = par := synL_length _ _ _
  obtain ⟨s, hsd⟩ : ∃ s, synL fst par v = s := ⟨_, rfl⟩
  rw [hsd] at hs hsl
  have hgl : (gamL K n lost).length = G.length + 1 := by rw [gamL_length, hGl]
  have hga : atl (gamL K n lost) = loc G := by rw [atl_gamL, hG]
  obtain ⟨gm, hgm⟩ : ∃ gm, gamL K n lost = gm := ⟨_, rfl⟩
  rw [hgm] at hgl hga
  -- the modified syndromes
  have hml : (modL s gm).length = par - G.length := by rw [modL_length (by omega), hsl, hgl, Nat.add_sub_cancel]
  have hma : ∀ j, j < par - G.length → atl (modL s gm) j = pows n X (fun i => W i * rv G.length (loc G) (X i)) j := by
    intro j hj
    unfold modL
    rw [atl_drop, hgl, Nat.add_sub_cancel, hsl, atl_take (by omega), atl_mulL _ _ (by omega), hga, Nat.add_comm, ← modified]
    exact conv_congr (fun i hi => hs i (by omega))
  obtain ⟨m, hm⟩ : ∃ m, modL s gm = m := ⟨_, rfl⟩
  rw [hm] at hml hma
  have hinv := inv_congr (s' := pows n X (fun i => W i * rv G.length (loc G) (X i))) (fun i hi => hma i (by omega)) (runB_inv m m.length).inv
  have hfind := finds hXinj hEn (fun x => by
    rw [hEs]
    constructor
    · rintro ⟨i, h1, h2, h3, e⟩
      refine ⟨i, h1, mul_ne_zero ((hW0 i).mpr h2) (fun h => h3 ((hGm i h1).mp ?_)), by rw [hXi]; exact e⟩
      rw [← hXi]
      exact rv_loc_zero.mp h
    · rintro ⟨i, h1, h2, e⟩
      refine ⟨i, h1, (hW0 i).mp (fun h => h2 (by rw [h, zero_mul])), fun h => h2 ?_, by rw [← hXi]; exact e⟩
      rw [rv_loc_zero.mpr (by rw [hXi]; exact (hGm i h1).mpr h), mul_zero]) (by omega) hinv
  obtain ⟨g1, g2, g3⟩ := sig_loc hfind.1 hfind.2 (fun a ha => by
    obtain ⟨i, _, _, _, rfl⟩ := (hEs a).mp ha
    exact pl_ne _ _)
  -- the locator
  have hll : (mulL (sigL m) gm).length = (E ++ G).length + 1 := by rw [mulL_length, g1, hgl, List.length_append]; omega
  have hla : atl (mulL (sigL m) gm) = loc (E ++ G) := by rw [atl_mulL _ _ (by omega), g2, hga, conv_loc]
  obtain ⟨lc, hlc⟩ : ∃ lc, mulL (sigL m) gm = lc := ⟨_, rfl⟩
  rw [hlc] at hll hla
  have htp : (E ++ G).length ≤ par := by rw [List.length_append]; omega
  have hol : ((mulL s lc).take par).length = par := by rw [List.length_take, mulL_length, hsl, hll]; omega
  have hoa : ∀ j, j < par → atl ((mulL s lc).take par) j = conv (pows n X W) (loc (E ++ G)) j := by
    intro j hj
    rw [atl_take hj, atl_mulL _ _ (by omega), hla]
    exact conv_congr (fun i hi => hs i (by omega))
  obtain ⟨om, hom⟩ : ∃ om, (mulL s lc).take par = om := ⟨_, rfl⟩
  rw [hom] at hol hoa
  have htX : ∀ i, i < n → W i ≠ 0 → X i ∈ E ++ G := by
    intro i h1 h2
    rw [hXi, List.mem_append]
    by_cases c : (i : Int) ∈ lost
    · exact Or.inr ((hGm i h1).mpr c)
    · exact Or.inl ((hEs _).mpr ⟨i, h1, (hW0 i).mp h2, c, rfl⟩)
  have hval : ∀ i, i < n → pl K n (i : Int) ∈ E ++ G → valE fst om lc n i = -(atl v i - atl w i) := by
    intro i h1 h2
    have e1 : ev om.length (atl om) (bk K n i) = W i * ev (E ++ G).length (loc ((E ++ G).erase (pl K n (i : Int)))) (bk K n i) := by
      rw [← hXi, ← omega_at hXinj hdj htX htp i h1 (by rw [hXi]; exact h2) (by rw [hXi]; exact pl_bk n i), hol]
      unfold ev
      exact S_congr (fun j hj => by rw [hoa j hj])
    rw [valE_eq hll hla hdj h2 e1, hWi]
    congr 1
    rw [mul_left_comm, mul_comm (gz _), gz_neg, mul_one]
  obtain ⟨out, f, c1, c2, c3, c4⟩ := corS_gen hll hla hdj fst om v hv n (Nat.le_refl _)
  have hout : out = w := by
    refine atl_ext (by rw [c2, hwl]) (fun i hi => ?_)
    rw [c2] at hi
    rw [c3]
    by_cases c : pl K n (i : Int) ∈ E ++ G
    · rw [if_pos ⟨hi, c⟩, hval i hi c, neg_sub, add_comm, sub_add_cancel]
    · rw [if_neg (fun h => c h.2)]
      apply Classical.byContradiction
      intro hne
      exact c (by have := htX i hi ((hW0 i).mpr hne); rw [hXi] at this; exact this)
  subst hout
  have hf : f + 1 = lc.length := by
    rw [c4, cnt_places hn hdj (fun x hx => ?_), hll]
    rcases List.mem_append.mp hx with h | h
    · obtain ⟨i, h1, _, _, e⟩ := (hEs x).mp h
      exact ⟨i, h1, e⟩
    · obtain ⟨i, h1, _, e⟩ := hGs x h
      exact ⟨i, h1, e⟩
  have hwit : witB fst par v out lost = true := by
    unfold witB
    rw [hv, Bool.and_eq_true, decide_eq_true_eq, decide_eq_true_eq]
    exact ⟨fun k hk => by rw [syn_at _ hk]; exact hw k hk, hcap⟩
  unfold decL
  rw [hv, hsd, hgm, hm, hlc, hom, g1, g3, if_neg (by omega), if_neg (by omega), c1]
  show (if f + 1 = lc.length ∧ witB fst par v out lost = true then some out else none) = some out
  rw [if_pos ⟨hf, hwit⟩]
end
end Go.Proofs.Ythcjmmicjbfpgaa.Rs
