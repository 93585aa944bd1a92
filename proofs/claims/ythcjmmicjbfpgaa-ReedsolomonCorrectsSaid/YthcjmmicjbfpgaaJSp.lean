/-
The walk of spoilt.
The walk of the law Corrects.
-/
import Derived.Test.YthcjmmicjbfpgaaJRl
import Derived.Test.YthcjmmicjbfpgaaJRf
import Derived.Test.YthcjmmicjbfpgaaJFx
import Derived.StillTailTactics
import Derived.Test.YthcjmmicjbfpgaaJRc
namespace Go.Proofs.Ythcjmmicjbfpgaa.Rs
set_option linter.unusedVariables false
set_option linter.unusedSimpArgs false
open Go.RowKit Go.Proofs.Ythcjmmicjbfpgaa.Alg
open GF

/-- a row of changes that came in -/
def RdC (w : World) (A : Option Addr) (cs : List (Int × Int)) : Prop := ∀ i, i < cs.length → ∃ b o, A = some ⟨b, o, none⟩ ∧ w.cell? ⟨b, o + i * 2, none⟩ = some (.int .i64 (cs.getD i (0, 0)).1) ∧ w.cell? ⟨b, o + i * 2 + 1, none⟩ = some (.int .i64 (cs.getD i (0, 0)).2)
theorem RdC.below {w w1 : World} {A : Option Addr} {cs : List (Int × Int)} (h : RdC w A cs) (hb : Below w.heap.size w w1) : RdC w1 A cs := fun i hi => by
  obtain ⟨b, o, e, hc, hd⟩ := h i hi
  exact ⟨b, o, e, cell_below hb hc, cell_below hb hd⟩

section
variable {K : Type} [GF K]
/-- one change -/
def chS (K : Type) [GF K] (n : Nat) (out : List K) (c : Int × Int) : List K := if 0 ≤ c.1 ∧ c.1 < (n : Int) ∧ isB (sz K : Int) c.2 = true then out.set c.1.toNat (atl out c.1.toNat + of c.2.toNat) else out
/-- the first changes -/
def spL (n : Nat) (cs : List (Int × Int)) (out : List K) : Nat → List K
  | 0 => out
  | i + 1 => chS K n (spL n cs out i) (cs.getD i (0, 0))
theorem spL_length (n : Nat) (cs : List (Int × Int)) (out : List K) : ∀ i, (spL n cs out i).length = out.length
  | 0 => rfl
  | i + 1 => by
    unfold spL chS
    split
    · rw [List.length_set, spL_length n cs out i]
    · exact spL_length n cs out i
/-- the first erased indexes that are inside, each once -/
def dr (er : List Int) (n : Nat) : Nat → List Int
  | 0 => []
  | i + 1 => if 0 ≤ er.getD i 0 ∧ er.getD i 0 < (n : Int) ∧ ¬ er.getD i 0 ∈ dr er n i then dr er n i ++ [er.getD i 0] else dr er n i
theorem dr_le (er : List Int) (n : Nat) : ∀ i, (dr er n i).length ≤ i
  | 0 => Nat.le_refl _
  | i + 1 => by
    have := dr_le er n i
    unfold dr
    split
    · simp; omega
    · omega
theorem dr_nodup (er : List Int) (n : Nat) : ∀ i, (dr er n i).Nodup
  | 0 => List.nodup_nil
  | i + 1 => by
    unfold dr
    split
    · rename_i h
      rw [List.nodup_append]
      exact ⟨dr_nodup er n i, by simp, fun a ha b hb e => by rw [List.mem_singleton] at hb; subst hb; subst e; exact h.2.2 ha⟩
    · exact dr_nodup er n i
theorem dr_in (er : List Int) (n : Nat) : ∀ i, ∀ x ∈ dr er n i, ∃ j : Nat, j < n ∧ x = (j : Int)
  | 0, x, h => absurd h (by simp [dr])
  | i + 1, x, h => by
    unfold dr at h
    split at h
    · rename_i c
      rcases List.mem_append.mp h with h | h
      · exact dr_in er n i x h
      · rw [List.mem_singleton] at h
        subst h
        exact ⟨(er.getD i 0).toNat, by omega, by omega⟩
    · exact dr_in er n i x h
/-- which indexes are in a list -/
def lbD (D : List Int) (n : Nat) : List Bool := (List.range n).map (fun j : Nat => decide ((j : Int) ∈ D))
theorem lbD_length (D : List Int) (n : Nat) : (lbD D n).length = n := by simp [lbD]
theorem lbD_get {D : List Int} {n j : Nat} (h : j < n) : (lbD D n).getD j false = decide ((j : Int) ∈ D) := by
  unfold lbD
  rw [List.getD_eq_getElem?_getD, List.getElem?_map, List.getElem?_range h]
  rfl
theorem lbD_nil (n : Nat) : lbD [] n = List.replicate n false := by
  apply List.ext_getElem?
  intro j
  unfold lbD
  rw [List.getElem?_map, List.getElem?_replicate]
  by_cases h : j < n
  · rw [List.getElem?_range h, if_pos h]; simp
  · rw [List.getElem?_eq_none (by simp; omega), if_neg h]; rfl
theorem lbD_set {D : List Int} {n x : Nat} : (lbD D n).set x true = lbD (D ++ [(x : Int)]) n := by
  apply List.ext_getElem?
  intro j
  by_cases h : j < n
  · unfold lbD
    by_cases e : j = x
    · subst e
      rw [List.getElem?_set_self (by simp; exact h), List.getElem?_map, List.getElem?_range h]
      simp
    · rw [List.getElem?_set_ne (fun h => e h.symm), List.getElem?_map, List.getElem?_map, List.getElem?_range h]
      have : ¬ (j : Int) = (x : Int) := by omega
      simp [this]
  · rw [List.getElem?_eq_none (by simp [lbD]; omega), List.getElem?_eq_none (by simp [lbD]; omega)]

set_option maxRecDepth 100000 in
set_option maxHeartbeats 12800000 in
theorem spoiltK (n m k : Nat) (word : List K) (cs : List (Int × Int)) (er : List Int) (hn : word.length = n) (h0 : 0 < n) (hn1 : n ≤ 5000) (hm : cs.length = m) (hm1 : m ≤ 5000) (hk : er.length = k) (hk1 : k ≤ 5000) (A1 A2 A3 : Option Addr) (c1 c2 c3 : Nat) (w : World)
    (hA1 : RdK w A1 word) (hA2 : RdC w A2 cs) (hA3 : RdI w A3 er) :
    Calls Try.prog 23 #[.agg #[.int .i64 (ch K), .int .i64 (sz K), .int .i64 (po K)], .slice A1 n c1, .slice A2 m c2, .slice A3 k c3] w fun e w' =>
      ∃ v g2, e = .returned (.tuple #[v, .slice (some ⟨g2, 0, none⟩) n n, .int .i64 (cntD (spL n cs word m) word (dr er n k) n), .int .i64 (dr er n k).length]) ∧ As (OwnK w' w.heap.size v (spL n cs word m)) ∧ As (OwnB w' w.heap.size g2 n (lbD (dr er n k) n)) ∧ Below w.heap.size w w' := by
  have HN := As.mk hn
  have HM := As.mk hm
  have HK := As.mk hk
  have H1 := As.mk hA1
  have H2 := As.mk hA2
  have H3 := As.mk hA3
  clear hA1 hA2 hA3 hn hm hk
  have HX := As.mk (Box3.new (w := w) (x := .int .i64 (ch K)) (y := .int .i64 (sz K)) (z := .int .i64 (po K)) (t := 23))
  have HB : As (Below w.heap.size w (w.alloc (.cells #[.int .i64 (ch K), .int .i64 (sz K), .int .i64 (po K)] 23))) := ⟨bl_alloc (bl_refl _)⟩
  have HOW : As (OwnK ((w.alloc (.cells #[.int .i64 (ch K), .int .i64 (sz K), .int .i64 (po K)] 23)).alloc (.cells #[] 3)) (w.heap.size + 1) (.slice (some ⟨w.heap.size + 1, 0, none⟩) 0 0) ([] : List K)) := ⟨by
    have h := World.ownsRow_made (base := w.heap.size + 1) (e := 3) (size := 1) (w.alloc (.cells #[.int .i64 (ch K), .int .i64 (sz K), .int .i64 (po K)] 23)) #[] 0 (by simp) (by decide) rfl
    rw [show (w.alloc (.cells #[.int .i64 (ch K), .int .i64 (sz K), .int .i64 (po K)] 23)).heap.size = w.heap.size + 1 by simp] at h
    exact h⟩
  have HH := fun ops Q o rest a hgd s x ho hs hx h => appL (K := K) (ops := ops) (Q := Q) (o := o) (rest := rest) (a := a) ((w.alloc (.cells #[.int .i64 (ch K), .int .i64 (sz K), .int .i64 (po K)] 23)).alloc (.cells #[] 3)) hgd s x ho (w.heap.size + 1) (.slice (some ⟨w.heap.size + 1, 0, none⟩) 0 0) [] hs HOW.out A1 n c1 word hx (H1.out.below (bl_alloc (bl_alloc (bl_refl _)))) HN.out h0 (by have := HN.out; simp; omega) (by simp) h
  go_enter Try.func23, Try.ntmps23
  go_wp2_with (at_builtin; refine HH _ _ _ _ _ rfl _ _ rfl rfl rfl ?_; intro v' wa hown hb)
  rw [List.nil_append] at hown
  obtain ⟨q, hq⟩ : ∃ q, n = q + 1 := ⟨n - 1, by omega⟩
  obtain ⟨gp, cap, hv', hgp⟩ := hown.shape (HN.out.trans hq)
  rw [← hq] at hv'
  subst hv'
  clear hq q HH HOW
  obtain ⟨w0, hw0⟩ : ∃ w0, (w.alloc (.cells #[.int .i64 (ch K), .int .i64 (sz K), .int .i64 (po K)] 23)) = w0 := ⟨_, rfl⟩
  rw [hw0] at HX HB hb
  have hs0 : w0.heap.size = w.heap.size + 1 := by rw [← hw0]; simp
  have HW0 : As (Below w0.heap.size w0 wa) := ⟨(bl_alloc (bl_refl _)).trans (by rw [hs0]; exact hb)⟩
  have HGP : As (w0.heap.size ≤ gp) := ⟨by omega⟩
  have HS0 := As.mk hs0
  have HOW : As (OwnK wa (w.heap.size + 1) (.slice (some ⟨gp, 0, none⟩) n cap) (spL n cs word 0)) := ⟨hown⟩
  clear hown hb hw0 hs0 hgp
  have HA2 := As.mk (H2.out.below HB.out)
  have HA1 := As.mk (H1.out.below HB.out)
  have HA3 := As.mk (H3.out.below HB.out)
  go_loopw [24] (fun x wr => ∃ i : Nat, x = .int .i64 i ∧ i ≤ m ∧ As (OwnK wr (w.heap.size + 1) (.slice (some ⟨gp, 0, none⟩) n cap) (spL n cs word i)) ∧ As (Below w0.heap.size w0 wr)) (fun x _ => m - (intOf x).toNat)
  case atStart => exact ⟨0, rfl, by omega, HOW, HW0⟩
  case round =>
    clear HOW HW0
    obtain ⟨i, rfl, hi, hO, hB⟩ := hrel
    by_cases hlt : i < m
    · have hd : decide (i < m) = true := decide_eq_true hlt
      obtain ⟨b, o, rfl, k1, k2⟩ := (HA2.out.below hB.out) i (by rw [HM.out]; exact hlt)
      obtain ⟨u, hu⟩ : ∃ u, cs.getD i (0, 0) = u := ⟨_, rfl⟩
      obtain ⟨at', by'⟩ := u
      rw [hu] at k1 k2
      simp only at k1 k2
      have HU := As.mk hu
      clear hu
      by_cases h1 : 0 ≤ at'
      · by_cases h2 : at' < (n : Int)
        · obtain ⟨j, rfl⟩ : ∃ j : Nat, at' = (j : Int) := ⟨at'.toNat, by omega⟩
          have hjn : j < n := by omega
          have g1 : decide (0 ≤ (j : Int)) = true := decide_eq_true h1
          have g2 : decide ((j : Int) < (n : Int)) = true := decide_eq_true h2
          have g2' : decide (j < n) = true := decide_eq_true hjn
          have f0 := (HX.out.below hB.out).c0
          have f1 := (HX.out.below hB.out).c1
          have f2 := (HX.out.below hB.out).c2
          clear h1 h2
          have HC := As.mk (fun w' => is4_any (ch K) (sz K) (po K) by' w')
          obtain ⟨r, hr⟩ : ∃ r, isB (sz K) by' = r := ⟨_, rfl⟩
          rw [hr] at HC
          have HR := As.mk hr
          clear hr
          go_wp2
          go_still_tail 23, (by kernel_rfl)
          change wpList _ _ _ _ _ wr.drew
          go_wp2_with fail
          refine (HC.out _).mono ?_
          rintro e w1 ⟨rfl, hb⟩
          have HB1 : As (Below w0.heap.size w0 w1) := ⟨bl_then hb (bl_drew hB.out)⟩
          have HO1 := As.mk ((hO.out.below (bl_drew (bl_refl _))).below hb)
          have HBr : As (Below wr.heap.size wr w1) := ⟨bl_then hb (bl_drew (bl_refl _))⟩
          clear hb
          cases r with
          | false =>
            have HN1 : As (spL n cs word (i + 1) = spL n cs word i) := ⟨by
              show chS K n _ _ = _
              rw [HU.out]
              unfold chS
              rw [if_neg (fun h => by rw [HR.out] at h; cases h.2.2)]⟩
            go_wp2
            go_roundw
            case rel => exact ⟨i + 1, by go_num, by omega, ⟨by rw [HN1.out]; exact HO1.out⟩, HB1⟩
            case measure => simp [intOf]; omega
          | true =>
            obtain ⟨y, rfl⟩ : ∃ y : K, by' = ((val y : Nat) : Int) := by
              have h := HR.out
              unfold isB at h
              simp only [Bool.and_eq_true, decide_eq_true_eq] at h
              exact ⟨of by'.toNat, by rw [val_of _ (by omega)]; omega⟩
            have HN1 : As (spL n cs word (i + 1) = (spL n cs word i).set j (atl (spL n cs word i) j + y)) := ⟨by
              show chS K n _ _ = _
              rw [HU.out]
              unfold chS
              rw [if_pos ⟨Int.natCast_nonneg _, by omega, HR.out⟩]
              simp only [Int.toNat_natCast, of_val]⟩
            have HLL : As ((spL n cs word i).length = n) := ⟨by rw [spL_length]; exact HN.out⟩
            obtain ⟨zs, hzs⟩ : ∃ zs, spL n cs word i = zs := ⟨_, rfl⟩
            rw [hzs] at HO1 HLL HN1
            obtain ⟨z, hz⟩ : ∃ z, atl zs j = z := ⟨_, rfl⟩
            have hc := (HO1.out.cell HLL.out hjn).1
            rw [hz] at hc HN1
            have q1 := cell_below HBr.out k1
            have q2 := cell_below HBr.out k2
            have f0' := cell_below HBr.out f0
            have f1' := cell_below HBr.out f1
            have f2' := cell_below HBr.out f2
            clear hO hB HBr k1 k2 f0 f1 f2 hzs hz HC g1 g2
            have g2 : ((j : Int) < (n : Int)) := by omega
            go_wp2
            refine wp_region_chain (fun w' => Below w1.heap.size w1 w') [20, 21, 22] (by kernel_rfl) (by kernel_rfl) (by kernel_rfl) (by kernel_rfl) rfl (by kernel_rfl) (bl_drew (bl_refl _)) ?_
            iterate 20 (apply OblH.val rfl; · (intro w' hS; have p0 := cell_below hS f0'; have p1 := cell_below hS f1'; have p2 := cell_below hS f2'; have p3 := cell_below hS q1; have p4 := cell_below hS q2; have p5 := cell_below hS hc; go_simp; rfl))
            iterate 3 (refine OblH.skip rfl ?_)
            refine OblH.done (Chain.step rfl ?_)
            go_wp2_with fail
            refine (plus4K (K := K) z y _).mono ?_
            rintro e w2 ⟨rfl, hb⟩
            have HB2 : As (Below w0.heap.size w0 w2) := ⟨bl_then hb (bl_drew HB1.out)⟩
            have HO2 := As.mk ((HO1.out.below (bl_drew (bl_refl _))).below hb)
            have hb2 := bl_then hb (bl_drew (bl_refl w1))
            clear hb HB1 HO1
            go_wp2
            refine onlyN.next rfl hb2 (Chain.step rfl ?_)
            go_wp2
            refine onlyN.next rfl hb2 (Chain.last rfl ?_)
            have hc2 := (HO2.out.cell HLL.out hjn).1
            have hf2 := (HO2.out.cell HLL.out hjn).2
            go_wp2
            refine onlyN.last rfl ?_
            go_wp2
            go_roundw
            case rel => exact ⟨i + 1, by go_num, by omega, ⟨by rw [HN1.out]; exact HO2.out.put HLL.out j _⟩, ⟨bl_set (by have := HGP.out; show w0.heap.size ≤ gp; omega) HB2.out⟩⟩
            case measure => simp [intOf]; omega
        · have g1 : decide (0 ≤ at') = true := decide_eq_true h1
          have g2 : decide (at' < (n : Int)) = false := decide_eq_false h2
          have HN1 : As (spL n cs word (i + 1) = spL n cs word i) := ⟨by
            show chS K n _ _ = _
            rw [HU.out]
            unfold chS
            rw [if_neg (fun h => h2 h.2.1)]⟩
          clear h1 h2
          go_wp2
          go_quiet (fail)
          go_wp2
          go_roundw
          case rel => exact ⟨i + 1, by go_num, by omega, ⟨by rw [HN1.out]; exact hO.out.below (bl_drewN (bl_refl _))⟩, ⟨bl_drewN hB.out⟩⟩
          case measure => simp [intOf]; omega
      · have g1 : decide (0 ≤ at') = false := decide_eq_false h1
        have HN1 : As (spL n cs word (i + 1) = spL n cs word i) := ⟨by
          show chS K n _ _ = _
          rw [HU.out]
          unfold chS
          rw [if_neg (fun h => h1 h.1)]⟩
        clear h1
        go_wp2
        go_quiet (fail)
        go_wp2
        go_roundw
        case rel => exact ⟨i + 1, by go_num, by omega, ⟨by rw [HN1.out]; exact hO.out.below (bl_drewN (bl_refl _))⟩, ⟨bl_drewN hB.out⟩⟩
        case measure => simp [intOf]; omega
    · have hd : decide (i < m) = false := decide_eq_false hlt
      obtain rfl : i = m := by omega
      obtain ⟨wz, hwz⟩ : ∃ wz, wr = wz := ⟨_, rfl⟩
      rw [hwz] at hO hB ⊢
      have hmk := fun w => mk_bools (n := n) (by omega) w
      have HOB := As.mk (OwnB.new (W := wz) (n := n) (by omega))
      rw [← lbD_nil] at HOB
      obtain ⟨L, hL⟩ : ∃ L, wz.heap.size = L := ⟨_, rfl⟩
      rw [hL] at HOB
      have HL := As.mk hL
      have HBA : As (Below wz.heap.size wz (wz.alloc (.cells (falses n) 4))) := ⟨bl_alloc (bl_refl _)⟩
      have HOL : As ((spL n cs word i).length = n) := ⟨by rw [spL_length]; exact HN.out⟩
      obtain ⟨outL, hout⟩ : ∃ outL, spL n cs word i = outL := ⟨_, rfl⟩
      rw [hout] at hO HOL
      have HOUT := As.mk hout
      clear hwz hout
      go_wp2
      try rw [HL.out]
      clear hL hmk hd
      go_loopw [16, 80] (fun ct x wr => ∃ j : Nat, x = .int .i64 j ∧ ct = .int .i64 (dr er n j).length ∧ j ≤ k ∧ As (OwnB wr L L n (lbD (dr er n j) n)) ∧ As (Below wz.heap.size wz wr)) (fun _ x _ => k - (intOf x).toNat)
      case atStart => exact ⟨0, rfl, rfl, by omega, HOB, HBA⟩
      case round =>
        clear HOB HBA
        obtain ⟨j, rfl, rfl, hj, hOb, hBb⟩ := hrel
        have hdle := dr_le er n j
        have hnx : dr er n (j + 1) = if 0 ≤ er.getD j 0 ∧ er.getD j 0 < (n : Int) ∧ ¬ er.getD j 0 ∈ dr er n j then dr er n j ++ [er.getD j 0] else dr er n j := rfl
        obtain ⟨D, hD⟩ : ∃ D, dr er n j = D := ⟨_, rfl⟩
        rw [hD] at hOb hnx hdle ⊢
        have HD := As.mk hD
        obtain ⟨ct, hct⟩ : ∃ ct, D.length = ct := ⟨_, rfl⟩
        have HCT := As.mk hct
        rw [hct] at hdle ⊢
        clear hct hD
        by_cases hltj : j < k
        · have hdj : decide (j < k) = true := decide_eq_true hltj
          obtain ⟨b, o, rfl, hc⟩ := ((HA3.out.below hB.out).below hBb.out) j (by rw [HK.out]; exact hltj)
          obtain ⟨x, hx⟩ : ∃ x, er.getD j 0 = x := ⟨_, rfl⟩
          rw [hx] at hc hnx
          have HNX := As.mk hnx
          clear hnx hx
          by_cases h1 : 0 ≤ x
          · by_cases h2 : x < (n : Int)
            · obtain ⟨y, rfl⟩ : ∃ y : Nat, x = (y : Int) := ⟨x.toNat, by omega⟩
              have hyn : y < n := by omega
              obtain ⟨hc1, hf1⟩ := hOb.out.cell (lbD_length _ _) hyn
              rw [lbD_get hyn] at hc1
              have g1 : decide (0 ≤ (y : Int)) = true := decide_eq_true h1
              have g2 : decide ((y : Int) < (n : Int)) = true := decide_eq_true h2
              have g3 : decide (y < n) = true := decide_eq_true hyn
              clear h1 h2
              by_cases hm' : (y : Int) ∈ D
              · rw [decide_eq_true hm'] at hc1
                have HN1 : As (dr er n (j + 1) = D) := ⟨by rw [HNX.out, if_neg (fun h => h.2.2 hm')]⟩
                clear hm'
                go_wp2
                go_roundw
                case rel => exact ⟨j + 1, by go_num, by rw [HN1.out, HCT.out], by omega, ⟨by rw [HN1.out]; exact hOb.out⟩, hBb⟩
                case measure => simp [intOf]; omega
              · rw [decide_eq_false hm'] at hc1
                have HN1 : As (dr er n (j + 1) = D ++ [(y : Int)]) := ⟨by rw [HNX.out, if_pos ⟨Int.natCast_nonneg _, by omega, hm'⟩]⟩
                have f1 : IntKind.i64.wrap ((ct : Int) + 1) = (ct : Int) + 1 := in64 (by omega) (by omega)
                clear hm'
                go_wp2
                go_roundw
                case rel => exact ⟨j + 1, by go_num, by rw [HN1.out, List.length_append, HCT.out]; rfl, by omega, ⟨by rw [HN1.out, ← lbD_set]; exact hOb.out.put y true⟩, ⟨bl_set (by have := HL.out; show wz.heap.size ≤ L; omega) hBb.out⟩⟩
                case measure => simp [intOf]; omega
            · have g1 : decide (0 ≤ x) = true := decide_eq_true h1
              have g2 : decide (x < (n : Int)) = false := decide_eq_false h2
              have HN1 : As (dr er n (j + 1) = D) := ⟨by rw [HNX.out, if_neg (fun h => h2 h.2.1)]⟩
              clear h1 h2
              go_wp2
              go_roundw
              case rel => exact ⟨j + 1, by go_num, by rw [HN1.out, HCT.out], by omega, ⟨by rw [HN1.out]; exact hOb.out⟩, hBb⟩
              case measure => simp [intOf]; omega
          · have g1 : decide (0 ≤ x) = false := decide_eq_false h1
            have HN1 : As (dr er n (j + 1) = D) := ⟨by rw [HNX.out, if_neg (fun h => h1 h.1)]⟩
            clear h1
            go_wp2
            go_roundw
            case rel => exact ⟨j + 1, by go_num, by rw [HN1.out, HCT.out], by omega, ⟨by rw [HN1.out]; exact hOb.out⟩, hBb⟩
            case measure => simp [intOf]; omega
        · have hdj : decide (j < k) = false := decide_eq_false hltj
          obtain rfl : j = k := by omega
          clear hnx
          obtain ⟨wy, hwy⟩ : ∃ wy, wr = wy := ⟨_, rfl⟩
          rw [hwy] at hOb hBb ⊢
          have HA1y := As.mk ((HA1.out.below hB.out).below hBb.out)
          have HOy := As.mk (hO.out.below hBb.out)
          have HBy : As (Below w.heap.size w wy) := ⟨bl_then hBb.out (bl_then hB.out HB.out)⟩
          have HLy := As.mk (show w.heap.size ≤ L by have := HB.out.size; have := hB.out.size; have := HL.out; omega)
          clear hwy
          go_wp2
          go_loopw [15, 118] (fun ce x wr => ∃ i2 : Nat, x = .int .i64 i2 ∧ ce = .int .i64 (cntD outL word D i2) ∧ i2 ≤ n ∧ As (Below wy.heap.size wy wr)) (fun _ x _ => n - (intOf x).toNat)
          case atStart => exact ⟨0, rfl, rfl, by omega, ⟨bl_refl _⟩⟩
          case round =>
            obtain ⟨i2, rfl, rfl, hi2, hB2⟩ := hrel
            have hcle := cntD_le outL word D i2
            have hnx : cntD outL word D (i2 + 1) = cntD outL word D i2 + (if atl outL i2 ≠ atl word i2 ∧ D.contains (i2 : Int) = false then 1 else 0) := rfl
            obtain ⟨ce, hce⟩ : ∃ ce, cntD outL word D i2 = ce := ⟨_, rfl⟩
            rw [hce] at hnx hcle ⊢
            have HNX := As.mk hnx
            have HCE := As.mk hce
            clear hnx hce
            by_cases hlt2 : i2 < n
            · have hd2 : decide (i2 < n) = true := decide_eq_true hlt2
              obtain ⟨b, o, rfl, hc1⟩ := (HA1y.out.below hB2.out) i2 (by rw [HN.out]; exact hlt2)
              have hc2 := ((HOy.out.below hB2.out).cell HOL.out hlt2).1
              have hc3 := ((hOb.out.below hB2.out).cell (lbD_length _ _) hlt2).1
              rw [lbD_get hlt2] at hc3
              obtain ⟨x, hx⟩ : ∃ x, val (atl outL i2) = x := ⟨_, rfl⟩
              obtain ⟨y, hy⟩ : ∃ y, val (atl word i2) = y := ⟨_, rfl⟩
              rw [hy] at hc1
              rw [hx] at hc2
              by_cases hxy : x = y
              · have g3 : ((x : Int) == (y : Int)) = true := beq_iff_eq.mpr (by omega)
                have g4 : ((x : Int) != (y : Int)) = false := by rw [bne, g3]; rfl
                have HN1 : As (cntD outL word D (i2 + 1) = ce) := ⟨by
                  rw [HNX.out, if_neg (fun h => h.1 (val_inj (by rw [hx, hy]; exact hxy)))]; rfl⟩
                clear hx hy
                go_wp2
                go_quiet (fail)
                go_wp2
                go_roundw
                case rel => exact ⟨i2 + 1, by go_num, by rw [HN1.out], by omega, ⟨bl_drewN hB2.out⟩⟩
                case measure => simp [intOf]; omega
              · have g3 : ((x : Int) == (y : Int)) = false := beq_eq_false_iff_ne.mpr (by omega)
                have g4 : ((x : Int) != (y : Int)) = true := by rw [bne, g3]; rfl
                have hne : atl outL i2 ≠ atl word i2 := fun h => hxy (by rw [← hx, ← hy, h])
                have hmem : decide ((i2 : Int) ∈ D) = D.contains (i2 : Int) := by
                  by_cases hmm : (i2 : Int) ∈ D
                  · rw [List.contains_iff_mem.mpr hmm]; exact decide_eq_true hmm
                  · rw [Bool.eq_false_iff.mpr (fun h => hmm (List.contains_iff_mem.mp h))]; exact decide_eq_false hmm
                rw [hmem] at hc3
                obtain ⟨lo, hlo⟩ : ∃ lo, D.contains (i2 : Int) = lo := ⟨_, rfl⟩
                rw [hlo] at hc3
                have HLO := As.mk hlo
                clear hx hy hlo hmem hxy
                cases lo with
                | true =>
                  have HN1 : As (cntD outL word D (i2 + 1) = ce) := ⟨by
                    rw [HNX.out, if_neg (fun h => by rw [HLO.out] at h; cases h.2)]; rfl⟩
                  clear hne
                  go_wp2
                  go_quiet (fail)
                  go_wp2
                  go_roundw
                  case rel => exact ⟨i2 + 1, by go_num, by rw [HN1.out], by omega, ⟨bl_drewN hB2.out⟩⟩
                  case measure => simp [intOf]; omega
                | false =>
                  have HN1 : As (cntD outL word D (i2 + 1) = ce + 1) := ⟨by
                    rw [HNX.out, if_pos ⟨hne, HLO.out⟩]⟩
                  have f1 : IntKind.i64.wrap ((ce : Int) + 1) = (ce : Int) + 1 := in64 (by omega) (by omega)
                  clear hne
                  go_wp2
                  go_quiet (fail)
                  go_wp2
                  go_roundw
                  case rel => exact ⟨i2 + 1, by go_num, by rw [HN1.out]; rfl, by omega, ⟨bl_drewN hB2.out⟩⟩
                  case measure => simp [intOf]; omega
            · have hd2 : decide (i2 < n) = false := decide_eq_false hlt2
              obtain rfl : i2 = n := by omega
              go_wp2
              refine bodyPost_ret (v := .tuple #[.slice (some ⟨gp, 0, none⟩) i2 cap, .slice (some ⟨L, 0, none⟩) i2 i2, .int .i64 ce, .int .i64 ct]) (by simp [results, Try.results23, go_sem]) rfl ?_
              rw [HOUT.out, HD.out, HCE.out, HCT.out]
              exact ⟨_, L, rfl, ⟨(HOy.out.below hB2.out).mono (by omega)⟩, ⟨World.ownsRow.mono (hOb.out.below hB2.out) HLy.out⟩, bl_then hB2.out HBy.out⟩
end
end Go.Proofs.Ythcjmmicjbfpgaa.Rs

namespace Go.Proofs.Ythcjmmicjbfpgaa.Rs
set_option linter.unusedVariables false
set_option linter.unusedSimpArgs false
open Go.RowKit Go.Proofs.Ythcjmmicjbfpgaa.Alg
open GF

set_option maxRecDepth 100000 in
set_option maxHeartbeats 6400000 in
theorem corrects_out (c s p par fst : Int) (hs : s < 9223372036854775808) (A1 A2 A3 : Option Addr) (c1 n2 c2 N m c3 : Nat) (w : World)
    (h : smB par N n2 = false ∨ ciB c s p par fst = false ∨ 100 < m ∨ 300 < N) :
    Calls Try.prog 6 #[.agg #[.int .i64 c, .int .i64 s, .int .i64 p, .int .i64 par, .int .i64 fst, .slice A1 N c1, .slice A2 n2 c2], .slice A3 m c3] w fun e w' => e = .returned (.bool true) ∧ Below w.heap.size w w' := by
  have HI := As.mk (AskI.new (w := w) (c := c) (s := s) (p := p) (par := par) (fst := fst) (A1 := A1) (n1 := N) (c1 := c1) (A2 := A2) (n2 := n2) (c2 := c2) (t := 36))
  have HS := As.mk (small_any c s p par fst A1 A2 N c1 n2 c2)
  have HV := As.mk (valid7_any c s p par fst hs)
  obtain ⟨b1, e1⟩ : ∃ b, smB par N n2 = b := ⟨_, rfl⟩
  obtain ⟨b2, e2⟩ : ∃ b, ciB c s p par fst = b := ⟨_, rfl⟩
  rw [e1] at HS h
  rw [e2] at HV h
  clear e1 e2 hs
  have c0 := HI.out.b.c0
  have c1 := HI.out.b.c1
  have c2 := HI.out.b.c2
  have c3 := HI.out.b.c3
  have c4 := HI.out.b.c4
  have c5 := HI.out.c5
  have c6 := HI.out.c6
  cases b1 with
  | false =>
    clear h
    go_enter Try.func6, Try.ntmps6
    go_wp2_with fail
    refine (HS.out _).mono ?_
    rintro e w1 ⟨rfl, hb⟩
    go_wp2_with fail
    refine (alive_any _).mono ?_
    rintro e w3 ⟨rfl, hb3⟩
    go_wp2
    go_ret
    exact ⟨rfl, bl_then hb3 (bl_then hb (bl_alloc (bl_refl _)))⟩
  | true =>
    go_enter Try.func6, Try.ntmps6
    go_wp2_with fail
    refine (HS.out _).mono ?_
    rintro e w1 ⟨rfl, hb⟩
    have hi := HI.out.below hb
    clear c0 c1 c2 c3 c4 c5 c6
    have c0 := hi.b.c0
    have c1 := hi.b.c1
    have c2 := hi.b.c2
    have c3 := hi.b.c3
    have c4 := hi.b.c4
    cases b2 with
    | false =>
      clear hi h
      go_wp2_with fail
      refine (HV.out _).mono ?_
      rintro e w2 ⟨rfl, hb2⟩
      go_wp2_with fail
      refine (alive_any _).mono ?_
      rintro e w3 ⟨rfl, hb3⟩
      go_wp2
      go_ret
      exact ⟨rfl, bl_then hb3 (bl_then hb2 (bl_then hb (bl_alloc (bl_refl _))))⟩
    | true =>
      go_wp2_with fail
      refine (HV.out _).mono ?_
      rintro e w2 ⟨rfl, hb2⟩
      have hi2 := hi.below hb2
      clear c0 c1 c2 c3 c4
      have c5 := hi2.c5
      clear hi hi2
      by_cases hm : 100 < m
      · have g1 : decide (100 < m) = true := decide_eq_true hm
        have g2 : decide ((100 : Int) < (m : Int)) = true := decide_eq_true (by omega)
        clear h hm
        go_wp2_with fail
        refine (alive_any _).mono ?_
        rintro e w3 ⟨rfl, hb3⟩
        go_wp2
        go_ret
        exact ⟨rfl, bl_then hb3 (bl_then hb2 (bl_then hb (bl_alloc (bl_refl _))))⟩
      · have hN : 300 < N := by
          rcases h with h | h | h | h
          · cases h
          · cases h
          · exact absurd h hm
          · exact h
        have g1 : decide (100 < m) = false := decide_eq_false hm
        have g2 : decide ((100 : Int) < (m : Int)) = false := decide_eq_false (by omega)
        have g3 : decide (300 < N) = true := decide_eq_true hN
        have g4 : decide ((300 : Int) < (N : Int)) = true := decide_eq_true (by omega)
        clear h hm hN
        go_wp2_with fail
        refine (alive_any _).mono ?_
        rintro e w3 ⟨rfl, hb3⟩
        go_wp2
        go_ret
        exact ⟨rfl, bl_then hb3 (bl_then hb2 (bl_then hb (bl_alloc (bl_refl _))))⟩

section
variable {K : Type} [GF K]
theorem cntD_mem (v w : List K) {l m : List Int} (h : ∀ x, x ∈ l ↔ x ∈ m) : ∀ n, cntD v w l n = cntD v w m n
  | 0 => rfl
  | n + 1 => by
    have e : l.contains (n : Int) = m.contains (n : Int) := by
      rw [Bool.eq_iff_iff, List.contains_iff_mem, List.contains_iff_mem]
      exact h _
    unfold cntD
    rw [cntD_mem v w h n, e]

/-- what Decode comes to at a word that spoilt made -/
theorem decL_spoilt {fst par n k : Nat} {v : List K} {ws : List K} {er : List Int} (h0 : 0 < par) (hv : v.length = n) (hwl : ws.length + par = n) (hn : n < sz K)
    (hcap : 2 * cntD v (encL (genL K fst par) par ws) (dr er n k) n + (dr er n k).length ≤ par) : decL fst par v (lostL (asc (dr er n k) n)) = some (encL (genL K fst par) par ws) := by
  have hmem : ∀ x, x ∈ lostL (asc (dr er n k) n) ↔ x ∈ dr er n k := fun x => by
    rw [lostL_iff, asc_mem]
    exact ⟨fun h => h.1, fun h => ⟨h, dr_in er n k x h⟩⟩
  have hlen : (lostL (asc (dr er n k) n)).length = (dr er n k).length :=
    Nat.le_antisymm ((lostL_nodup _).length_le_of_subset (fun x hx => (hmem x).mp hx)) ((dr_nodup er n k).length_le_of_subset (fun x hx => (hmem x).mpr hx))
  refine decL_ok h0 hv (by rw [encL_length]; exact hwl) hn (fun j hj => enc_wv ws hj) (lostL_nodup _) (fun x hx => dr_in er n k x ((hmem x).mp hx)) ?_
  rw [cntD_mem _ _ hmem, hlen]
  exact hcap
end
end Go.Proofs.Ythcjmmicjbfpgaa.Rs
