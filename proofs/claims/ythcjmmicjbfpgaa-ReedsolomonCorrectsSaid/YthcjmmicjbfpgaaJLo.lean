/-
The walk of the locator.
The walk of the program's Locator.
The walks of modified and derivative.
The walk of correct.
The walk of within.
Sort and Compact on a row of the call's own.
The walk of Decode at its edges.
What Decode comes to, told plainly.
-/
import Derived.Test.YthcjmmicjbfpgaaJSt
import Derived.Test.YthcjmmicjbfpgaaJWc
import Derived.Sort.OwnSortedInts
namespace Go.Proofs.Ythcjmmicjbfpgaa.Rs
open Go.RowKit Go.Proofs.Ythcjmmicjbfpgaa.Alg
open GF
set_option linter.unusedSimpArgs false

section
variable {K : Type} [GF K]
theorem RdK.take {w : World} {A : Option Addr} {xs : List K} (h : RdK w A xs) (n : Nat) : RdK w A (xs.take n) := fun i hi => by
  have h2 : i < n ∧ i < xs.length := by simpa [List.length_take, Nat.lt_min] using hi
  obtain ⟨b, o, e, hc⟩ := h i h2.2
  exact ⟨b, o, e, by rw [atl_take h2.1]; exact hc⟩

/-- the locator of syndromes -/
noncomputable def sigL (s : List K) : List K := (runB s s.length).c.take (trm (runB s s.length).c (runB s s.length).c.length)
theorem sigL_length (s : List K) : (sigL s).length = trm (runB s s.length).c (runB s s.length).c.length := by
  unfold sigL
  rw [List.length_take, Nat.min_eq_left (trm_le _ _)]
/-- its length -/
noncomputable def sizL (s : List K) : Nat := (runB s s.length).l

/-- the state's block and its rows -/
def StI (w : World) (g : Nat) (As0 : Option Addr) (cs : Nat) (s : List K) (Z n : Nat) : Prop := ∃ Ac Ab cc cb, As (w.heap[Z]? = some (stO g As0 s.length cs Ac (runB s n).c.length cc Ab (runB s n).b.length cb (runB s n).l (runB s n).m (val (runB s n).last))) ∧
      As (RdN w Z Ac (runB s n).c) ∧ As (RdN w Z Ab (runB s n).b) ∧ As ((runB s n).c.length ≤ cc ∧ (runB s n).b.length ≤ cb)

theorem StI.start {w : World} {g : Nat} {As0 : Option Addr} {cs : Nat} {s : List K} {t u : TypeId} (N : Nat) (hN : s.length = N) :
    StI (((w.alloc (.cells #[.int .i64 1] t)).alloc (.cells #[.int .i64 1] u)).alloc (.cells #[.pointer (some ⟨g, 0, none⟩), .slice As0 N cs, .slice (some ⟨w.heap.size, 0, none⟩) 1 1, .slice (some ⟨w.heap.size + 1, 0, none⟩) 1 1, .int .i64 0, .int .i64 1, .int .i64 1] 91)) g As0 cs s (w.heap.size + 2) 0 := by
  subst hN
  refine ⟨some ⟨w.heap.size, 0, none⟩, some ⟨w.heap.size + 1, 0, none⟩, 1, 1, ⟨?_⟩, ⟨?_⟩, ⟨?_⟩, ⟨Nat.le_refl _, Nat.le_refl _⟩⟩
  · have e : val (1 : K) = 1 := val_one
    show _ = some (stO g As0 s.length cs _ 1 1 _ 1 1 0 1 (val (1 : K)))
    rw [e]
    unfold stO
    have h := heap_alloc_new ((w.alloc (.cells #[.int .i64 1] t)).alloc (.cells #[.int .i64 1] u)) (.cells #[.pointer (some ⟨g, 0, none⟩), .slice As0 s.length cs, .slice (some ⟨w.heap.size, 0, none⟩) 1 1, .slice (some ⟨w.heap.size + 1, 0, none⟩) 1 1, .int .i64 0, .int .i64 1, .int .i64 1] 91)
    have hz : ((w.alloc (.cells #[.int .i64 1] t)).alloc (.cells #[.int .i64 1] u)).heap.size = w.heap.size + 2 := by simp
    rw [hz] at h
    exact h
  · intro i hi
    have : i = 0 := by simp [runB] at hi; omega
    subst this
    refine ⟨_, _, rfl, by omega, ?_⟩
    show _ = some (Value.int .i64 (val (1 : K)))
    rw [val_one]
    go_simp
  · intro i hi
    have : i = 0 := by simp [runB] at hi; omega
    subst this
    refine ⟨_, _, rfl, by omega, ?_⟩
    show _ = some (Value.int .i64 (val (1 : K)))
    rw [val_one]
    go_simp

set_option maxRecDepth 100000 in
set_option maxHeartbeats 1600000 in
theorem locatorK (g : Nat) (s : List K) (hs : s.length ≤ 5000) (As0 : Option Addr) (cs : Nat) (w : World) (hA : Arith K w g) (hrs : RdK w As0 s) :
    Calls Try.prog 45 #[.pointer (some ⟨g, 0, none⟩), .slice As0 s.length cs] w fun e w' => ∃ A cc, e = .returned (.tuple #[.slice A (sigL s).length cc, .int .i64 (sizL s)]) ∧ As (RdK w' A (sigL s)) ∧ As ((sigL s).length ≤ cc) ∧ Below w.heap.size w w' := by
  have HA := As.mk hA
  have HRS := As.mk hrs
  have HS := As.mk hs
  clear hA hrs
  obtain ⟨N, hN⟩ : ∃ N, s.length = N := ⟨_, rfl⟩
  have HN := As.mk hN
  rw [hN] at hs ⊢
  clear hN
  have H0 := As.mk (StI.start (w := w) (g := g) (As0 := As0) (cs := cs) (t := 3) (u := 3) N HN.out)
  have HB0 : As (Below w.heap.size w (((w.alloc (.cells #[.int .i64 1] 3)).alloc (.cells #[.int .i64 1] 3)).alloc (.cells #[.pointer (some ⟨g, 0, none⟩), .slice As0 N cs, .slice (some ⟨w.heap.size, 0, none⟩) 1 1, .slice (some ⟨w.heap.size + 1, 0, none⟩) 1 1, .int .i64 0, .int .i64 1, .int .i64 1] 91))) := ⟨bl_alloc (bl_alloc (bl_alloc (bl_refl _)))⟩
  go_enter Try.func45, Try.ntmps45
  go_wp2
  obtain ⟨wq, hwq⟩ : ∃ wq, ((w.alloc (.cells #[.int .i64 1] 3)).alloc (.cells #[.int .i64 1] 3)).alloc (.cells #[.pointer (some ⟨g, 0, none⟩), .slice As0 N cs, .slice (some ⟨w.heap.size, 0, none⟩) 1 1, .slice (some ⟨w.heap.size + 1, 0, none⟩) 1 1, .int .i64 0, .int .i64 1, .int .i64 1] 91) = wq := ⟨_, rfl⟩
  rw [hwq] at H0 HB0 ⊢
  clear hwq
  have H1 : As (StI wq g As0 cs s (w.heap.size + 1 + 1) 0) := H0
  obtain ⟨Z, hZ⟩ : ∃ Z, w.heap.size + 1 + 1 = Z := ⟨_, rfl⟩
  have HZ : As (w.heap.size ≤ Z) := ⟨by omega⟩
  rw [hZ] at H1 ⊢
  clear hZ H0
  go_loopw [19] (fun k wr => ∃ i : Nat, k = .int .i64 i ∧ i ≤ N ∧ As (StI wr g As0 cs s Z i) ∧ As (Below w.heap.size w wr)) (fun k _ => N - (intOf k).toNat)
  case atStart => exact ⟨0, rfl, by omega, H1, HB0⟩
  case round =>
    clear H1 HB0
    obtain ⟨i, rfl, hi, hS, hB⟩ := hrel
    by_cases hlt : i < N
    · have hd : decide (i < N) = true := decide_eq_true hlt
      have HCALL := As.mk (fun (Ac Ab : Option Addr) (cc cb : Nat) h1 h2 h3 (h4 : (runB s i).c.length ≤ cc ∧ (runB s i).b.length ≤ cb) => stepK (K := K) Z g s i (runB s i) (runB_inv s i) (by rw [HN.out]; exact hlt) HS.out As0 Ac Ab cs cc cb wr (HA.out.below hB.out) h1 (HRS.out.below hB.out) h2 h3 h4.1 h4.2)
      go_wp2_with fail
      obtain ⟨Ac, Ab, cc, cb, h1, h2, h3, h4⟩ := hS.out
      refine (HCALL.out Ac Ab cc cb h1.out h2.out h3.out h4.out).mono ?_
      rintro e w1 ⟨rfl, Ac', Ab', cc', cb', k1, k2, k3, k4, hb⟩
      have HS1 : As (StI w1 g As0 cs s Z (i + 1)) := ⟨Ac', Ab', cc', cb', k1, k2, k3, k4⟩
      have HB1 : As (Below w.heap.size w w1) := ⟨hB.out.trans (hb.mono HZ.out)⟩
      clear h1 h2 h3 h4 k1 k2 k3 k4 hb hS hB HCALL
      go_wp2
      go_roundw
      case rel => exact ⟨i + 1, by go_num, by omega, HS1, HB1⟩
      case measure => simp [intOf]; omega
    · have hd : decide (i < N) = false := decide_eq_false hlt
      have hiN : i = s.length := by have := HN.out; omega
      subst hiN
      obtain ⟨Ac, Ab, cc, cb, h1, h2, h3, h4⟩ := hS.out
      obtain ⟨z, hz⟩ : ∃ z, runB s s.length = z := ⟨_, rfl⟩
      rw [hz] at h1 h2 h3 h4
      have HZZ := As.mk hz
      have hst := h1.out
      unfold stO at hst
      have c2 := blk_cell hst 2
      have c4 := blk_cell hst 4
      simp only [List.getElem?_toArray, List.getElem?_cons_zero, List.getElem?_cons_succ] at c2 c4
      have hlc := (runB_inv s s.length).lc
      rw [hz] at hlc
      have HTR := As.mk (fun w' hr => trimK (K := K) Ac z.c cc w' hr (by have := HS.out; omega) h4.out.1)
      have HRD := As.mk h2.out.rd
      have HCC := As.mk h4.out.1
      clear h1 h2 h3 h4 hst hz hS
      go_wp2
      refine wp_region_chain (fun w' => Below wr.heap.size wr w') [4, 9, 10] (by kernel_rfl) (by kernel_rfl) (by kernel_rfl) (by kernel_rfl) rfl (by kernel_rfl) (bl_drew (bl_refl _)) ?_
      iterate 4 (apply OblH.val rfl; · (intro w' hS; have q0 := cell_below hS c2; go_simp; rfl))
      refine OblH.skip rfl ?_
      iterate 4 (apply OblH.val rfl; · (intro w' hS; have q0 := cell_below hS c4; go_simp; rfl))
      iterate 2 (refine OblH.skip rfl ?_)
      refine OblH.done (Chain.step rfl ?_)
      go_wp2_with fail
      refine (HTR.out _ (HRD.out.below (bl_drew (bl_refl _)))).mono ?_
      rintro e w1 ⟨rfl, rfl⟩
      go_wp2
      refine onlyN.next rfl (bl_drew (bl_refl _)) (Chain.step rfl ?_)
      go_wp2
      refine onlyN.next rfl (bl_drew (bl_refl _)) (Chain.last rfl ?_)
      go_wp2
      refine onlyN.last rfl ?_
      go_wp2
      go_ret2
      have e1 : (sigL s).length = trm z.c z.c.length := by rw [sigL_length, HZZ.out]
      have e2 : sizL s = z.l := by unfold sizL; rw [HZZ.out]
      have e3 : sigL s = z.c.take (trm z.c z.c.length) := by unfold sigL; rw [HZZ.out]
      rw [e1, e2]
      refine ⟨Ac, cc, rfl, ⟨?_⟩, ⟨?_⟩, bl_drew hB.out⟩
      · rw [e3]; exact (HRD.out.take _).below (bl_drew (bl_refl _))
      · exact Nat.le_trans (trm_le _ _) HCC.out
end
end Go.Proofs.Ythcjmmicjbfpgaa.Rs

namespace Go.Proofs.Ythcjmmicjbfpgaa.Rs
open Go.RowKit Go.Proofs.Ythcjmmicjbfpgaa.Alg
open GF
set_option linter.unusedSimpArgs false

/-- a field and syndromes that are taken -/
noncomputable def locB (c s p : Int) (xs : List Int) : Bool := viB c s p && !anyOut s xs

set_option maxRecDepth 100000 in
set_option maxHeartbeats 1600000 in
theorem locator_bad (c s p : Int) (A : Option Addr) (cp : Nat) (xs : List Int) (w : World) (hr : RdI w A xs) (hl : xs.length ≤ 100000) (h : locB c s p xs = false) :
    Calls Try.prog 20 #[.agg #[.int .i64 c, .int .i64 s, .int .i64 p], .slice A xs.length cp] w fun e w' => e = .returned (.tuple #[.slice none 0 0, .int .i64 1]) ∧ Below w.heap.size w w' := by
  have HV := As.mk (valid_any c s p)
  have HR := As.mk hr
  have HX := As.mk (Box3.new (w := w) (x := .int .i64 c) (y := .int .i64 s) (z := .int .i64 p) (t := 23))
  have HC := As.mk (fun w' hr' hc' => clocator_contains A cp xs s w.heap.size w' hr' (by omega) hc')
  clear hr
  unfold locB at h
  cases hv : viB c s p with
  | false =>
    rw [hv] at HV
    clear h hv
    go_enter Try.func20, Try.ntmps20
    go_wp2_with fail
    refine (HV.out _).mono ?_
    rintro e w1 ⟨rfl, hb⟩
    go_wp2
    go_ret2
    exact ⟨rfl, bl_then hb (bl_alloc (bl_refl _))⟩
  | true =>
    rw [hv] at HV h
    have ha : anyOut s xs = true := by simpa using h
    rw [ha] at HC
    clear h hv ha
    go_enter Try.func20, Try.ntmps20
    go_wp2_with fail
    refine (HV.out _).mono ?_
    rintro e w1 ⟨rfl, hb⟩
    go_wp2_with fail
    refine (HC.out _ ((HR.out.below (bl_alloc (bl_refl _))).below hb) (HX.out.below hb).c1).mono ?_
    rintro e w2 ⟨rfl, rfl⟩
    go_wp2
    go_ret2
    exact ⟨rfl, bl_then hb (bl_alloc (bl_refl _))⟩

section
variable {K : Type} [GF K]
set_option maxRecDepth 100000 in
set_option maxHeartbeats 1600000 in
theorem locatorC (A : Option Addr) (cp : Nat) (s : List K) (hl : s.length ≤ 4095) (w : World) (hr : RdK w A s) :
    Calls Try.prog 20 #[.agg #[.int .i64 (ch K), .int .i64 (sz K), .int .i64 (po K)], .slice A s.length cp] w fun e w' =>
      ∃ A' cc, e = .returned (.tuple #[.slice A' (sigL s).length cc, .int .i64 0]) ∧ As (RdK w' A' (sigL s)) ∧ Below w.heap.size w w' := by
  have HV := As.mk (valid_any (ch K : Int) (sz K : Int) (po K : Int))
  rw [vi_valid (K := K)] at HV
  have HR := As.mk hr
  have HX := As.mk (Box3.new (w := w) (x := .int .i64 (ch K)) (y := .int .i64 (sz K)) (z := .int .i64 (po K)) (t := 23))
  have hcc := fun w' hr' hc' => clocator_contains A cp (ints s) (sz K : Int) w.heap.size w' hr' (by rw [ints_length]; omega) hc'
  have HL := As.mk (fun g w' hA' hr' => locatorK (K := K) g s (by omega) A cp w' hA' hr')
  obtain ⟨N, hN⟩ : ∃ N, s.length = N := ⟨_, rfl⟩
  rw [ints_length, anyOut_K, hN] at hcc
  rw [hN] at HL hl ⊢
  have HC := As.mk hcc
  have g1 : decide (4095 < (N : Int)) = false := decide_eq_false (by omega)
  clear hr hcc hN
  go_enter Try.func20, Try.ntmps20
  go_wp2_with fail
  refine (HV.out _).mono ?_
  rintro e w1 ⟨rfl, hb⟩
  have HR1 := As.mk ((HR.out.below (bl_alloc (o := .cells #[.int .i64 (ch K), .int .i64 (sz K), .int .i64 (po K)] 23) (bl_refl _))).below hb)
  have HX1 := As.mk (HX.out.below hb)
  have HB1 : As (Below w.heap.size w w1) := ⟨bl_then hb (bl_alloc (bl_refl _))⟩
  have c0 := HX1.out.c0
  have c1 := HX1.out.c1
  have c2 := HX1.out.c2
  clear hb
  go_wp2_with fail
  refine (HC.out _ HR1.out.toI c1).mono ?_
  rintro e w2 ⟨rfl, rfl⟩
  go_wp2_with fail
  refine (tablesK (K := K) _).mono ?_
  rintro e w3 ⟨g, rfl, hAr, hb3⟩
  have HAr := As.mk hAr
  clear hAr
  go_wp2_with fail
  refine (HL.out g _ HAr.out (HR1.out.below hb3)).mono ?_
  rintro e w4 ⟨A', cc, rfl, h1, h2, hb4⟩
  go_wp2
  go_ret2
  exact ⟨_, _, rfl, h1, bl_then hb4 (bl_then hb3 HB1.out)⟩

end
end Go.Proofs.Ythcjmmicjbfpgaa.Rs

namespace Go.Proofs.Ythcjmmicjbfpgaa.Rs
open Go.RowKit Go.Proofs.Ythcjmmicjbfpgaa.Alg
open GF
set_option linter.unusedSimpArgs false

section
variable {K : Type} [GF K]
/-- the syndromes without what erasures contribute -/
def modL (s er : List K) : List K := ((mulL s er).take s.length).drop (er.length - 1)
theorem modL_length {s er : List K} (h : 0 < er.length) : (modL s er).length = s.length - (er.length - 1) := by
  unfold modL
  rw [List.length_drop, List.length_take, mulL_length, Nat.min_eq_left (by omega)]
theorem RdK.drop {w : World} {b o : Nat} {xs : List K} (h : RdK w (some ⟨b, o, none⟩) xs) (k : Nat) : RdK w (some ⟨b, o + k, none⟩) (xs.drop k) := fun i hi => by
  have h2 : k + i < xs.length := by rw [List.length_drop] at hi; omega
  obtain ⟨b', o', e, hc⟩ := h (k + i) h2
  cases e
  exact ⟨b, o + k, rfl, by rw [atl_drop, Nat.add_assoc]; exact hc⟩
theorem RdK.none {w : World} {A : Option Addr} : RdK w A ([] : List K) := fun i hi => absurd hi (by simp)

set_option maxRecDepth 100000 in
set_option maxHeartbeats 1600000 in
theorem modifiedK (g : Nat) (s er : List K) (n k : Nat) (hn : s.length = n) (hk : er.length = k + 1) (h0 : 0 < n) (hkn : k ≤ n) (hl : n ≤ 5000) (A1 A2 : Option Addr) (c1 c2 : Nat) (w : World) (hA : Arith K w g) (h1 : RdK w A1 s) (h2 : RdK w A2 er) :
    Calls Try.prog 52 #[.pointer (some ⟨g, 0, none⟩), .slice A1 n c1, .slice A2 (k + 1) c2] w fun e w' =>
      ∃ A c, e = .returned (.slice A (n - k) c) ∧ As (RdK w' A (modL s er)) ∧ Below w.heap.size w w' := by
  have HA := As.mk hA
  have H1 := As.mk h1
  have H2 := As.mk h2
  have HN := As.mk hn
  have HK := As.mk hk
  obtain ⟨P, hP⟩ : ∃ P, n + (k + 1) - 1 = P := ⟨_, rfl⟩
  have hpr := productL (K := K) g s er A1 A2 n (k + 1) c1 c2 w hA h1 h2 hn hk h0 (by omega) (by omega) (by omega)
  rw [hP] at hpr
  have HPR := As.mk hpr
  have e1 : n ≤ P := by omega
  have e2 : (n : Int) ≤ (P : Int) := by omega
  clear hA h1 h2 hn hk hpr hP
  go_enter Try.func52, Try.ntmps52
  go_wp2_with fail
  refine HPR.out.mono ?_
  rintro e wa ⟨L, rfl, hown, hb⟩
  have HRD := As.mk (hown.out.rd.take n)
  have HB := As.mk hb
  have HTL : As (((mulL s er).take n).length = n) := ⟨by rw [List.length_take, mulL_length, HN.out, HK.out]; omega⟩
  clear HPR hown hb
  go_wp2_with fail
  refine (cloneK (K := K) (some ⟨L, 0, none⟩) n P _ _ HRD.out HTL.out (by omega) h0).mono ?_
  rintro e wb ⟨v, rfl, hcl, hb2⟩
  obtain ⟨q, rfl⟩ : ∃ q, n = q + 1 := ⟨n - 1, by omega⟩
  obtain ⟨gp, cap, rfl, hgp⟩ := hcl.out.shape HTL.out
  have HR2 := As.mk hcl.out.rd
  have hcap := hcl.out.cap
  rw [HTL.out] at hcap
  have HB2 : As (Below w.heap.size w wb) := ⟨bl_then hb2 HB.out⟩
  have e3 : IntKind.i64.wrap (k : Int) = (k : Int) := in64 (by omega) (by omega)
  have e4 : (k : Int) ≤ (q : Int) + 1 := by omega
  have e5 : (q : Int) + 1 ≤ (cap : Int) := by omega
  clear hcl hb2 HRD HTL
  have HE : As (modL s er = ((mulL s er).take (q + 1)).drop k) := ⟨by unfold modL; rw [HN.out, HK.out, Nat.add_sub_cancel]⟩
  by_cases hck : cap = k
  · subst hck
    have hq : q + 1 = cap := by omega
    go_wp2
    go_ret
    refine ⟨some ⟨gp, 0, none⟩, 0, by rw [show q + 1 - cap = 0 by omega]; rfl, ⟨?_⟩, HB2.out⟩
    rw [HE.out, List.drop_eq_nil_of_le (by rw [List.length_take]; omega)]
    exact RdK.none
  · go_wp2
    go_ret
    refine ⟨_, _, rfl, ⟨?_⟩, HB2.out⟩
    rw [HE.out]
    have := HR2.out.drop k
    rw [Nat.zero_add] at this
    exact this

/-- the derivative -/
def derL (p : List K) : List K := (List.range (p.length - 1)).map (der (atl p))
theorem derL_length (p : List K) : (derL p).length = p.length - 1 := by simp [derL]

set_option maxRecDepth 100000 in
set_option maxHeartbeats 1600000 in
theorem derivativeK (g : Nat) (p : List K) (n : Nat) (hn : p.length = n) (hl : n ≤ 100000) (A : Option Addr) (cp : Nat) (w : World) (hA : Arith K w g) (hr : RdK w A p) :
    Calls Try.prog 78 #[.pointer (some ⟨g, 0, none⟩), .slice A n cp] w fun e w' => ∃ v, e = .returned v ∧ As (OwnK w' w.heap.size v (derL p)) ∧ Below w.heap.size w w' := by
  have HA := As.mk hA
  have HR := As.mk hr
  have HN := As.mk hn
  have hch := ch_two (K := K)
  clear hA hr hn
  obtain ⟨B0, hB0⟩ : ∃ B0, w.heap.size = B0 := ⟨_, rfl⟩
  have HB0 := As.mk hB0
  clear hB0
  go_enter Try.func78, Try.ntmps78
  go_wp2
  go_loopw [5, 10] (fun v k wr => ∃ i : Nat, k = .int .i64 i ∧ i ≤ n ∧ As (OwnK wr B0 v ((List.range (i - 1)).map (der (atl p)))) ∧ As (Below w.heap.size w wr)) (fun _ k _ => n - (intOf k).toNat)
  case atStart => exact ⟨0, rfl, by omega, ⟨World.ownsRow_nil _ _ _ _⟩, ⟨bl_refl _⟩⟩
  case round =>
    obtain ⟨i, rfl, hi, hV, hB⟩ := hrel
    by_cases hlt : i < n
    · have hd : decide (i < n) = true := decide_eq_true hlt
      obtain ⟨b, o, rfl, hcell⟩ := (HR.out.below hB.out) i (by rw [HN.out]; exact hlt)
      obtain ⟨Ae, Al, ce, cl, har⟩ := HA.out.below hB.out
      have k0 := har.c0
      clear har
      by_cases h0 : i = 0
      · have hg : decide (0 < i) = false := decide_eq_false (by omega)
        subst h0
        rw [Nat.add_zero] at hcell
        go_wp2
        go_roundw
        case rel => exact ⟨1, by go_num, by omega, hV, hB⟩
        case measure => simp [intOf]; omega
      · have hg : decide (0 < i) = true := decide_eq_true (by omega)
        have hm : As (((i % ch K : Nat) : Int) = ((val (nc i : K) : Nat) : Int)) := ⟨by rw [val_nc]⟩
        have f1 : ((ch K : Int) == 0) = false := beq_eq_false_iff_ne.mpr (by omega)
        have HLN : As (((List.range (i - 1)).map (der (atl p))).length < 1000000) := ⟨by simp; omega⟩
        have HM := As.mk (fun w' hA' => mulAK (K := K) g (atl p i) (nc i) w' hA')
        have hcst : ((i % ch K : Nat) : Int) = (i : Int) % (ch K : Int) := by first | exact Int.natCast_emod _ _ | exact Int.natCast_mod _ _ | exact Int.ofNat_emod _ _
        rw [val_nc, hcst] at HM
        clear hm hcst
        go_wp2_with fail
        refine (HM.out _ (HA.out.below hB.out)).mono ?_
        rintro e w1 ⟨rfl, hb⟩
        have hV1 := As.mk (hV.out.below hb)
        have hB1 : As (Below w.heap.size w w1) := ⟨bl_then hb hB.out⟩
        clear hb hV hB HM k0
        go_wp2_with (at_builtin; refine appK (K := K) _ rfl _ _ rfl B0 _ _ rfl (hV1.out.below (bl_alloc (bl_refl _))) w1.heap.size 1 (atl p i * nc i) rfl (by simp [go_sem]) HLN.out (by have := hB1.out.size; have := HB0.out; simp; omega) ?_; intro v' w2 hown hb2)
        go_roundw
        case rel => exact ⟨i + 1, by go_num, by omega, ⟨by
          obtain ⟨j, rfl⟩ : ∃ j, i = j + 1 := ⟨i - 1, by omega⟩
          rw [Nat.add_sub_cancel, nth_snoc]
          exact hown⟩, ⟨(bl_alloc hB1.out).trans (by rw [HB0.out]; exact hb2)⟩⟩
        case measure => simp [intOf]; omega
    · have hd : decide (i < n) = false := decide_eq_false hlt
      have hin : As (i = n) := ⟨by omega⟩
      go_wp2
      go_ret
      exact ⟨_, rfl, ⟨by rw [HB0.out]; unfold derL; rw [HN.out, ← hin.out]; exact hV.out⟩, hB.out⟩
end
end Go.Proofs.Ythcjmmicjbfpgaa.Rs

namespace Go.Proofs.Ythcjmmicjbfpgaa.Rs
open Go.RowKit Go.Proofs.Ythcjmmicjbfpgaa.Alg
open GF
set_option linter.unusedSimpArgs false

section
variable {K : Type} [GF K]
/-- the inverse of what belongs to an index -/
noncomputable def bk (K : Type) [GF K] (n i : Nat) : K := gz (-((n : Int) - 1 - (i : Int)))
/-- the derivative's value there -/
noncomputable def slo (lc : List K) (n i : Nat) : K := ev (derL lc).length (atl (derL lc)) (bk K n i)
/-- the error value -/
noncomputable def valE (fst : Nat) (om lc : List K) (n i : Nat) : K := gz (((n : Int) - 1 - (i : Int)) * (1 - (fst : Int))) * ev om.length (atl om) (bk K n i) * Fld.inv (slo lc n i)
/-- is a locator zero there? -/
def roo (lc : List K) (n i : Nat) : Prop := ev lc.length (atl lc) (bk K n i) = 0
noncomputable instance (lc : List K) (n i : Nat) : Decidable (roo lc n i) := by unfold roo; infer_instance
/-- the first indexes have been corrected -/
noncomputable def corS (fst : Nat) (om lc : List K) (n : Nat) (word : List K) : Nat → Option (List K × Nat)
  | 0 => some (word, 0)
  | i + 1 => match corS fst om lc n word i with
    | none => none
    | some (out, f) => if roo lc n i then (if slo lc n i = 0 then none else some (out.set i (atl out i + valE fst om lc n i), f + 1)) else some (out, f)
theorem corS_none {fst : Nat} {om lc : List K} {n : Nat} {word : List K} {i j : Nat} (h : corS fst om lc n word i = none) (hij : i ≤ j) : corS fst om lc n word j = none := by
  induction j with
  | zero => rw [← Nat.le_zero.mp hij]; exact h
  | succ j ih =>
    by_cases e : i = j + 1
    · rw [← e]; exact h
    · unfold corS; rw [ih (by omega)]
theorem corS_length {fst : Nat} {om lc : List K} {n : Nat} {word : List K} : ∀ {i : Nat} {out : List K} {f : Nat}, corS fst om lc n word i = some (out, f) → out.length = word.length ∧ f ≤ i
  | 0, out, f, h => by
    have : (word, 0) = (out, f) := Option.some.inj h
    cases this
    exact ⟨rfl, Nat.le_refl _⟩
  | i + 1, out, f, h => by
    unfold corS at h
    cases hc : corS fst om lc n word i with
    | none => rw [hc] at h; cases h
    | some p =>
      obtain ⟨o, g⟩ := p
      rw [hc] at h
      have ih := corS_length hc
      simp only at h
      by_cases h1 : roo lc n i
      · rw [if_pos h1] at h
        by_cases h2 : slo lc n i = 0
        · rw [if_pos h2] at h; cases h
        · rw [if_neg h2] at h
          cases h
          exact ⟨by rw [List.length_set]; exact ih.1, by omega⟩
      · rw [if_neg h1] at h
        cases h
        exact ⟨ih.1, by omega⟩

set_option maxRecDepth 100000 in
set_option maxHeartbeats 6400000 in
theorem correctK (g : Nat) (par fst n m : Nat) (hpar : par ≤ 5000) (hp0 : 0 < par) (hfst : fst ≤ 5000) (word s lc : List K) (hn : word.length = n) (hn0 : 0 < n) (hn1 : n ≤ 5000) (hs : s.length = par) (hm : lc.length = m) (hm0 : 0 < m) (hm1 : m ≤ 20000) (A1 A2 A3 : Option Addr) (c1 c2 c3 : Nat) (w : World)
    (hA : Arith K w g) (h1 : RdK w A1 word) (h2 : RdK w A2 s) (h3 : RdK w A3 lc) :
    Calls Try.prog 53 #[.pointer (some ⟨g, 0, none⟩), .agg #[.int .i64 (ch K), .int .i64 (sz K), .int .i64 (po K), .int .i64 par, .int .i64 fst], .slice A1 n c1, .slice A2 par c2, .slice A3 m c3] w fun e w' =>
      ((∃ out f v, As (corS fst ((mulL s lc).take par) lc n word n = some (out, f)) ∧ e = .returned (.tuple #[v, .bool (decide (f + 1 = m))]) ∧ As (OwnK w' w.heap.size v out)) ∨
       (As (corS fst ((mulL s lc).take par) lc n word n = none) ∧ e = .returned (.tuple #[.slice none 0 0, .bool false]))) ∧ Below w.heap.size w w' := by
  have HA := As.mk hA
  have H1 := As.mk h1
  have H2 := As.mk h2
  have H3 := As.mk h3
  have HN := As.mk hn
  have HS := As.mk hs
  have HM := As.mk hm
  clear hA h1 h2 h3 hn hs hm
  obtain ⟨P, hP⟩ : ∃ P, par + m - 1 = P := ⟨_, rfl⟩
  have f1 : par ≤ P := by omega
  have hpr := fun w' hA' h2' h3' => productL (K := K) g s lc A2 A3 par m c2 c3 w' hA' h2' h3' HS.out HM.out hp0 hm0 (by omega) (by omega)
  rw [hP] at hpr
  have HPR := As.mk hpr
  clear hpr hP
  obtain ⟨om, hom⟩ : ∃ om, (mulL s lc).take par = om := ⟨_, rfl⟩
  have HOM := As.mk hom
  have HOL : As (om.length = par) := ⟨by rw [← hom, List.length_take, mulL_length, HS.out, HM.out]; omega⟩
  rw [hom]
  clear hom
  have HX := As.mk (Box5.new (w := w) (x := ch K) (y := sz K) (z := po K) (u := par) (v := fst) (t := 25))
  have HB : As (Below w.heap.size w (w.alloc (.cells #[.int .i64 (ch K), .int .i64 (sz K), .int .i64 (po K), .int .i64 par, .int .i64 fst] 25))) := ⟨bl_alloc (bl_refl _)⟩
  go_enter Try.func53, Try.ntmps53
  go_wp2_with fail
  refine (HPR.out _ (HA.out.below HB.out) (H2.out.below HB.out) (H3.out.below HB.out)).mono ?_
  rintro e wb ⟨L, rfl, hown, hb⟩
  have HBb : As (Below w.heap.size w wb) := ⟨bl_then hb HB.out⟩
  have HXb := As.mk (HX.out.below hb)
  have HRO : As (RdK wb (some ⟨L, 0, none⟩) om) := ⟨by rw [← HOM.out]; exact hown.out.rd.take par⟩
  have HAb := As.mk (HA.out.below HBb.out)
  have HRL := As.mk (H3.out.below HBb.out)
  have HRW := As.mk (H1.out.below HBb.out)
  clear HPR hown hb HX HB
  go_wp2_with fail
  refine (cloneK (K := K) A1 n c1 word _ HRW.out HN.out (by omega) hn0).mono ?_
  rintro e wc ⟨v, rfl, hcl, hb2⟩
  obtain ⟨q, hq⟩ : ∃ q, n = q + 1 := ⟨n - 1, by omega⟩
  have hqn := hq
  obtain ⟨gp, cap, rfl, hgp⟩ := hcl.out.shape (HN.out.trans hq)
  have HCL : As (OwnK wc wb.heap.size (.slice (some ⟨gp, 0, none⟩) n cap) word) := ⟨by rw [hq]; exact hcl.out⟩
  have HB2 : As (Below wb.heap.size wb wc) := ⟨hb2⟩
  have HGP : As (wb.heap.size ≤ gp) := ⟨hgp⟩
  rw [← hq]
  clear hq hqn hcl hb2 hgp
  obtain ⟨B0, hB0⟩ : ∃ B0, wb.heap.size = B0 := ⟨_, rfl⟩
  have HB0 := As.mk hB0
  rw [hB0] at HCL HGP
  clear hB0
  have f2 : IntKind.i64.wrap ((n : Int) - 1) = (n : Int) - 1 := in64 (by omega) (by omega)
  go_wp2
  go_loopw [15, 33] (fun fo k wr => ∃ i f : Nat, k = .int .i64 i ∧ fo = .int .i64 f ∧ i ≤ n ∧ As (∃ out, corS fst om lc n word i = some (out, f) ∧ OwnK wr B0 (.slice (some ⟨gp, 0, none⟩) n cap) out) ∧ As (Below wb.heap.size wb wr)) (fun _ k _ => n - (intOf k).toNat)
  case atStart => exact ⟨0, 0, rfl, rfl, by omega, ⟨word, rfl, HCL.out⟩, HB2⟩
  case round =>
    clear HCL HB2
    obtain ⟨i, f, rfl, rfl, hi, hO, hB⟩ := hrel
    obtain ⟨out, hcs, hown⟩ := hO.out
    have hlen := corS_length hcs
    by_cases hlt : i < n
    · have hd : decide (i < n) = true := decide_eq_true hlt
      have HCS := As.mk hcs
      have HOW := As.mk hown
      have HLN : As (out.length = n) := ⟨hlen.1.trans HN.out⟩
      have hfi := hlen.2
      clear hcs hown hO hlen
      have f3 : IntKind.i64.wrap ((n : Int) - 1 - (i : Int)) = (n : Int) - 1 - (i : Int) := in64 (by omega) (by omega)
      have f4 : IntKind.i64.wrap (-((n : Int) - 1 - (i : Int))) = -((n : Int) - 1 - (i : Int)) := in64 (by omega) (by omega)
      go_wp2_with fail
      refine (powerK (K := K) g _ _ (HAb.out.below hB.out)).mono ?_
      rintro e w1 ⟨rfl, hb⟩
      have HB1 : As (Below wb.heap.size wb w1) := ⟨bl_then hb hB.out⟩
      have HOW1 := As.mk (HOW.out.below hb)
      clear hb hB HOW
      obtain ⟨x, hx⟩ : ∃ x : K, gz (-((n : Int) - 1 - (i : Int))) = x := ⟨_, rfl⟩
      have HXX : As (bk K n i = x) := ⟨hx⟩
      rw [hx]
      clear hx
      have HEV := As.mk (fun w' hA' hr' => evalK (K := K) g lc x A3 c3 w' hA' hr' (by have := HM.out; omega))
      obtain ⟨r, hr⟩ : ∃ r, ev lc.length (atl lc) x = r := ⟨_, rfl⟩
      rw [hr, HM.out] at HEV
      have HRR := As.mk hr
      clear hr
      go_wp2_with fail
      refine (HEV.out _ (HAb.out.below HB1.out) (HRL.out.below HB1.out)).mono ?_
      rintro e w2 ⟨rfl, hb⟩
      have HB2 : As (Below wb.heap.size wb w2) := ⟨bl_then hb HB1.out⟩
      have HOW2 := As.mk (HOW1.out.below hb)
      clear hb HB1 HOW1 HEV
      by_cases hr0 : r = 0
      · have hroo : As (roo lc n i) := ⟨by unfold roo; rw [HXX.out, HRR.out]; exact hr0⟩
        have hv : val r = 0 := by rw [hr0, val_zero]
        rw [hv]
        clear hr0 hv
        have f5 : IntKind.i64.wrap ((f : Int) + 1) = (f : Int) + 1 := in64 (by omega) (by omega)
        have HDV := As.mk (fun w' hA' hr' => derivativeK (K := K) g lc m HM.out (by omega) A3 c3 w' hA' hr')
        go_wp2_with fail
        refine (HDV.out _ (HAb.out.below HB2.out) (HRL.out.below HB2.out)).mono ?_
        rintro e w3 ⟨vd, rfl, hdv, hb⟩
        have HB3 : As (Below wb.heap.size wb w3) := ⟨bl_then hb HB2.out⟩
        have HOW3 := As.mk (HOW2.out.below hb)
        obtain ⟨Ad, cd, rfl, _, hrd, _⟩ := hdv.out.read
        have HRD := As.mk hdv.out.rd
        clear hdv hb HB2 HOW2 HDV hrd
        obtain ⟨sl, hsl⟩ : ∃ sl, slo lc n i = sl := ⟨_, rfl⟩
        have HSL := As.mk hsl
        have HEV := As.mk (fun w' hA' hr' => evalK (K := K) g (derL lc) x Ad cd w' hA' hr' (by rw [derL_length, HM.out]; omega))
        have hsl2 : ev (derL lc).length (atl (derL lc)) x = sl := by rw [← HXX.out]; exact hsl
        rw [hsl2] at HEV
        clear hsl hsl2
        go_wp2_with fail
        refine (HEV.out _ (HAb.out.below HB3.out) HRD.out).mono ?_
        rintro e w4 ⟨rfl, hb⟩
        have HB4 : As (Below wb.heap.size wb w4) := ⟨bl_then hb HB3.out⟩
        have HOW4 := As.mk (HOW3.out.below hb)
        clear hb HB3 HOW3 HEV HRD
        by_cases hs0 : sl = 0
        · have hv : val sl = 0 := by rw [hs0, val_zero]
          have hno : As (corS fst om lc n word n = none) := ⟨by
            refine corS_none (i := i + 1) ?_ (by omega)
            unfold corS
            rw [HCS.out]
            simp only
            rw [if_pos hroo.out, if_pos (by rw [HSL.out]; exact hs0)]⟩
          rw [hv]
          clear hs0 hv
          go_wp2
          go_ret2
          exact ⟨Or.inr ⟨hno, rfl⟩, bl_then HB4.out HBb.out⟩
        · have hv : val sl ≠ 0 := fun h => hs0 (val_eq_zero.mp h)
          obtain ⟨u, hu⟩ : ∃ u, val sl = u := ⟨_, rfl⟩
          have HU := As.mk hu
          rw [hu] at hv ⊢
          have g3 : ((u : Int) == 0) = false := beq_eq_false_iff_ne.mpr (by omega)
          clear hu hv
          have c4 := (HXb.out.below HB4.out).c4
          have f6 : IntKind.i64.wrap (1 - (fst : Int)) = 1 - (fst : Int) := in64 (by omega) (by omega)
          obtain ⟨z, hz⟩ : ∃ z : Int, ((n : Int) - 1 - (i : Int)) * (1 - (fst : Int)) = z := ⟨_, rfl⟩
          have HZ := As.mk hz
          have f7 : IntKind.i64.wrap (((n : Int) - 1 - (i : Int)) * (1 - (fst : Int))) = z := by
            rw [hz]
            have b1 : -(5000 * 5000) ≤ z ∧ z ≤ 5000 * 5000 := by
              have k1 : (0 : Int) ≤ (n : Int) - 1 - (i : Int) := by omega
              have k2 : (n : Int) - 1 - (i : Int) ≤ 5000 := by omega
              obtain ⟨a, ha⟩ : ∃ a : Nat, (n : Int) - 1 - (i : Int) = a := ⟨((n : Int) - 1 - (i : Int)).toNat, by omega⟩
              rw [ha] at hz k2
              have k3 : a * fst ≤ 5000 * 5000 := Nat.mul_le_mul (by omega) hfst
              have k4 : z = (a : Int) - ((a * fst : Nat) : Int) := by rw [← hz, Int.mul_sub, Int.mul_one, Int.natCast_mul]
              omega
            exact in64 (by omega) (by omega)
          clear hz
          have HVE : As (gz z * ev om.length (atl om) x * Fld.inv sl = valE fst om lc n i) := ⟨by unfold valE; rw [HZ.out, HXX.out, HSL.out]⟩
          have hev := fun w' hA' hr' => evalK (K := K) g om x (some ⟨L, 0, none⟩) P w' hA' hr' (by rw [HOL.out]; omega)
          rw [HOL.out] at hev HVE
          have HEV := As.mk hev
          obtain ⟨eo, heo⟩ : ∃ eo, ev par (atl om) x = eo := ⟨_, rfl⟩
          rw [heo] at HEV HVE
          clear hev heo
          go_wp2_with fail
          refine (powerK (K := K) g _ _ (HAb.out.below HB4.out)).mono ?_
          rintro e w5 ⟨rfl, hb⟩
          have HB5 : As (Below wb.heap.size wb w5) := ⟨bl_then hb HB4.out⟩
          have HOW5 := As.mk (HOW4.out.below hb)
          clear hb HOW4 HB4 c4
          go_wp2_with fail
          refine (HEV.out _ (HAb.out.below HB5.out) (HRO.out.below HB5.out)).mono ?_
          rintro e w6 ⟨rfl, hb⟩
          have HB6 : As (Below wb.heap.size wb w6) := ⟨bl_then hb HB5.out⟩
          have HOW6 := As.mk (HOW5.out.below hb)
          clear hb HOW5 HB5
          go_wp2_with fail
          refine (mulAK (K := K) g (gz z) eo _ (HAb.out.below HB6.out)).mono ?_
          rintro e w7 ⟨rfl, hb⟩
          have HB7 : As (Below wb.heap.size wb w7) := ⟨bl_then hb HB6.out⟩
          have HOW7 := As.mk (HOW6.out.below hb)
          clear hb HOW6 HB6
          have HDI := As.mk (fun w' hA' => divAK (K := K) g (gz z * eo) sl hs0 w' hA')
          rw [HU.out, HVE.out] at HDI
          go_wp2_with fail
          refine (HDI.out _ (HAb.out.below HB7.out)).mono ?_
          rintro e w8 ⟨rfl, hb⟩
          have HB8 : As (Below wb.heap.size wb w8) := ⟨bl_then hb HB7.out⟩
          have HOW8 := As.mk (HOW7.out.below hb)
          clear hb HOW7 HB7 HDI HVE
          obtain ⟨ve, hve⟩ : ∃ ve, valE fst om lc n i = ve := ⟨_, rfl⟩
          have HVX := As.mk hve
          rw [hve]
          clear hve
          have hc8 := (HOW8.out.cell HLN.out hlt).1
          go_wp2_with fail
          refine (addK (K := K) g (atl out i) ve _ (HAb.out.below HB8.out)).mono ?_
          rintro e w9 ⟨rfl, hb⟩
          have HB9 : As (Below wb.heap.size wb w9) := ⟨bl_then hb HB8.out⟩
          have HOW9 := As.mk (HOW8.out.below hb)
          obtain ⟨hc9, hf9⟩ := HOW9.out.cell HLN.out hlt
          have HNX : As (corS fst om lc n word (i + 1) = some (out.set i (atl out i + ve), f + 1)) := ⟨by
            unfold corS
            rw [HCS.out]
            simp only
            rw [if_pos hroo.out, if_neg (by rw [HSL.out]; exact hs0), HVX.out]⟩
          clear hb HOW8 HB8 hc8
          go_wp2
          go_roundw
          case rel => exact ⟨i + 1, f + 1, by go_num, by go_num, by omega, ⟨_, HNX.out, HOW9.out.put HLN.out i _⟩, ⟨bl_set (by have := HGP.out; have := HB0.out; show wb.heap.size ≤ gp; omega) HB9.out⟩⟩
          case measure => simp [intOf]; omega
      · have hroo : As (¬ roo lc n i) := ⟨fun h => by unfold roo at h; rw [HXX.out, HRR.out] at h; exact hr0 h⟩
        have hv : val r ≠ 0 := fun h => hr0 (val_eq_zero.mp h)
        obtain ⟨u, hu⟩ : ∃ u, val r = u := ⟨_, rfl⟩
        rw [hu] at hv ⊢
        have g3 : ((u : Int) == 0) = false := beq_eq_false_iff_ne.mpr (by omega)
        clear hu hv hr0
        have HNX : As (corS fst om lc n word (i + 1) = some (out, f)) := ⟨by
          unfold corS
          rw [HCS.out]
          simp only
          rw [if_neg hroo.out]⟩
        go_wp2
        go_roundw
        case rel => exact ⟨i + 1, f, by go_num, rfl, by omega, ⟨out, HNX.out, HOW2.out⟩, HB2⟩
        case measure => simp [intOf]; omega
    · have hd : decide (i < n) = false := decide_eq_false hlt
      obtain rfl : i = n := by omega
      have f8 : IntKind.i64.wrap ((m : Int) - 1) = (m : Int) - 1 := in64 (by omega) (by omega)
      have f9 : ((f : Int) == (m : Int) - 1) = decide (f + 1 = m) := by
        by_cases h : f + 1 = m
        · rw [decide_eq_true h]; exact beq_iff_eq.mpr (by omega)
        · rw [decide_eq_false h]; exact beq_eq_false_iff_ne.mpr (by omega)
      have HCS := As.mk hcs
      have HOW := As.mk hown
      clear hcs hown hO hlen
      go_wp2
      go_ret2
      exact ⟨Or.inl ⟨out, f, _, HCS, rfl, ⟨HOW.out.mono (by rw [← HB0.out]; exact HBb.out.size)⟩⟩, bl_then hB.out HBb.out⟩
end
end Go.Proofs.Ythcjmmicjbfpgaa.Rs

namespace Go.Proofs.Ythcjmmicjbfpgaa.Rs
open Go.RowKit Go.Proofs.Ythcjmmicjbfpgaa.Alg
open GF
set_option linter.unusedSimpArgs false

/-- slices.Contains -/
theorem containsI (A : Option Addr) (n c : Nat) (zs : List Int) (x : Int) (w : World) (h : RdI w A zs) (hn : zs.length = n) (hl : n ≤ 1000000) :
    Calls Try.prog 80 #[.slice A n c, .int .i64 x] w fun e w' => e = .returned (.bool (zs.contains x)) ∧ w' = w := by
  subst hn
  cases zs with
  | nil => exact Try.slices_Contains_int_empty A c x w
  | cons z zs =>
    obtain ⟨b, o, rfl⟩ := h.some (by simp)
    have := Try.slices_Contains_int b o (z :: zs).length c (z :: zs) x w (Nat.le_refl _) (by omega) h.cells
    rw [List.take_length] at this
    exact this

section
variable {K : Type} [GF K]
/-- how many symbols differ that are not lost -/
def cntD (word out : List K) (lost : List Int) : Nat → Nat
  | 0 => 0
  | i + 1 => cntD word out lost i + (if atl word i ≠ atl out i ∧ lost.contains (i : Int) = false then 1 else 0)
theorem cntD_le (word out : List K) (lost : List Int) : ∀ i, cntD word out lost i ≤ i
  | 0 => Nat.le_refl _
  | i + 1 => by
    have := cntD_le word out lost i
    unfold cntD
    split <;> omega
/-- a codeword within the capacity -/
noncomputable def witB (fst par : Nat) (word out : List K) (lost : List Int) : Bool := decide (∀ k, k < par → atl (synL fst par out) k = 0) && decide (2 * cntD word out lost word.length + lost.length ≤ par)

set_option maxRecDepth 100000 in
set_option maxHeartbeats 6400000 in
theorem withinK (g : Nat) (par fst n k : Nat) (hpar : par ≤ 5000) (hp0 : 0 < par) (hfst : fst ≤ 5000) (word out : List K) (lost : List Int) (hn : word.length = n) (ho : out.length = n) (hn0 : 0 < n) (hn1 : n ≤ 5000) (hk : lost.length = k) (hk1 : k ≤ 5000) (A1 A2 A3 : Option Addr) (c1 c2 c3 : Nat) (w : World)
    (hA : Arith K w g) (h1 : RdK w A1 word) (h2 : RdK w A2 out) (h3 : RdI w A3 lost) :
    Calls Try.prog 54 #[.pointer (some ⟨g, 0, none⟩), .agg #[.int .i64 (ch K), .int .i64 (sz K), .int .i64 (po K), .int .i64 par, .int .i64 fst], .slice A1 n c1, .slice A2 n c2, .slice A3 k c3] w fun e w' =>
      e = .returned (.bool (witB fst par word out lost)) ∧ Below w.heap.size w w' := by
  have HA := As.mk hA
  have H1 := As.mk h1
  have H2 := As.mk h2
  have H3 := As.mk h3
  have HN := As.mk hn
  have HO := As.mk ho
  have HK := As.mk hk
  clear hA h1 h2 h3 hn ho hk
  obtain ⟨q, rfl⟩ : ∃ q, par = q + 1 := ⟨par - 1, by omega⟩
  have HX := As.mk (Box5.new (w := w) (x := ch K) (y := sz K) (z := po K) (u := (q + 1 : Nat)) (v := fst) (t := 25))
  have HB : As (Below w.heap.size w (w.alloc (.cells #[.int .i64 (ch K), .int .i64 (sz K), .int .i64 (po K), .int .i64 (q + 1 : Nat), .int .i64 fst] 25))) := ⟨bl_alloc (bl_refl _)⟩
  obtain ⟨sy, hsy⟩ : ∃ sy, synL fst (q + 1) out = sy := ⟨_, rfl⟩
  have HSY := As.mk hsy
  have HSL : As (sy.length = q + 1) := ⟨by rw [← hsy]; exact synL_length _ _ _⟩
  clear hsy
  obtain ⟨R, hR⟩ : ∃ R, witB fst (q + 1) word out lost = R := ⟨_, rfl⟩
  have HR : As (R = (decide (∀ k, k < q + 1 → atl sy k = 0) && decide (2 * cntD word out lost n + k ≤ q + 1))) := ⟨by rw [← hR]; unfold witB; rw [HSY.out, HN.out, HK.out]⟩
  rw [hR]
  clear hR
  go_enter Try.func54, Try.ntmps54
  go_wp2_with fail
  refine (syndromesK (K := K) g (q + 1) fst hpar hfst A2 c2 n out HO.out hn0 (by omega) _ (HA.out.below HB.out) (H2.out.below HB.out)).mono ?_
  rintro e wb ⟨v, rfl, hown, hb⟩
  rw [HSY.out] at hown
  obtain ⟨gp, cap, rfl, _⟩ := hown.out.shape HSL.out
  have HBb : As (Below w.heap.size w wb) := ⟨bl_then hb HB.out⟩
  have HXb := As.mk (HX.out.below hb)
  have HS := As.mk hown.out
  clear hown hb HX HB
  go_wp2
  go_loop [20] (fun k => ∃ i : Nat, k = .int .i64 i ∧ i ≤ q + 1 ∧ As (∀ j, j < i → atl sy j = 0)) (fun k => q + 1 - (intOf k).toNat)
  case atStart => exact ⟨0, rfl, by omega, ⟨fun j h => absurd h (by omega)⟩⟩
  case round =>
    obtain ⟨i, rfl, hi, hI⟩ := hrel
    by_cases hlt : i < q + 1
    · have hd : decide (i < q + 1) = true := decide_eq_true hlt
      have hcell := (HS.out.cell HSL.out hlt).1
      obtain ⟨x, hx⟩ : ∃ x, atl sy i = x := ⟨_, rfl⟩
      rw [hx] at hcell
      have HXX := As.mk hx
      clear hx
      by_cases h0 : x = 0
      · have hv : val x = 0 := by rw [h0, val_zero]
        rw [hv] at hcell
        have HX0 := As.mk h0
        clear h0 hv
        go_wp2
        go_round
        case rel => exact ⟨i + 1, by go_num, by omega, ⟨fun j h => by
          by_cases e : j = i
          · rw [e, HXX.out, HX0.out]
          · exact hI.out j (by omega)⟩⟩
        case measure => simp [intOf]; omega
      · have hv : val x ≠ 0 := fun h => h0 (val_eq_zero.mp h)
        obtain ⟨u, hu⟩ : ∃ u, val x = u := ⟨_, rfl⟩
        rw [hu] at hv hcell
        have g3 : ((u : Int) == 0) = false := beq_eq_false_iff_ne.mpr (by omega)
        have HRF : As (R = false) := ⟨by
          rw [HR.out, decide_eq_false (show ¬ (∀ k, k < q + 1 → atl sy k = 0) from fun h => h0 (by rw [← HXX.out]; exact h i hlt))]
          rfl⟩
        clear hu hv h0
        go_wp2
        go_ret
        exact ⟨ret_bool HRF.out.symm, HBb.out⟩
    · have hd : decide (i < q + 1) = false := decide_eq_false hlt
      have HR2 : As (R = decide (2 * cntD word out lost n + k ≤ q + 1)) := ⟨by
        rw [HR.out, decide_eq_true (show (∀ k, k < q + 1 → atl sy k = 0) from fun j hj => hI.out j (by omega))]
        rfl⟩
      have HAc := As.mk (HA.out.below HBb.out)
      have HW := As.mk (H1.out.below HBb.out)
      have HOu := As.mk (H2.out.below HBb.out)
      have HLo := As.mk (H3.out.below HBb.out)
      clear HR HS hI
      go_wp2
      go_loopw [13, 29] (fun ct x wr => ∃ i : Nat, x = .int .i64 i ∧ ct = .int .i64 (cntD word out lost i) ∧ i ≤ n ∧ As (Below wb.heap.size wb wr)) (fun _ x _ => n - (intOf x).toNat)
      case atStart => exact ⟨0, rfl, rfl, by omega, ⟨bl_refl _⟩⟩
      case round =>
        obtain ⟨j, rfl, rfl, hj, hB⟩ := hrel
        have hct := cntD_le word out lost j
        have hnx : cntD word out lost (j + 1) = cntD word out lost j + (if atl word j ≠ atl out j ∧ lost.contains (j : Int) = false then 1 else 0) := rfl
        obtain ⟨ct, hctd⟩ : ∃ ct, cntD word out lost j = ct := ⟨_, rfl⟩
        rw [hctd] at hct hnx ⊢
        have HCT := As.mk hctd
        have HNX := As.mk hnx
        clear hctd hnx
        by_cases hltj : j < n
        · have hdj : decide (j < n) = true := decide_eq_true hltj
          obtain ⟨b, o, rfl, hc1⟩ := (HW.out.below hB.out) j (by rw [HN.out]; exact hltj)
          obtain ⟨b2, o2, rfl, hc2⟩ := (HOu.out.below hB.out) j (by rw [HO.out]; exact hltj)
          obtain ⟨x, hx⟩ : ∃ x, val (atl word j) = x := ⟨_, rfl⟩
          obtain ⟨y, hy⟩ : ∃ y, val (atl out j) = y := ⟨_, rfl⟩
          rw [hx] at hc1
          rw [hy] at hc2
          by_cases hxy : x = y
          · have g3 : ((x : Int) == (y : Int)) = true := beq_iff_eq.mpr (by omega)
            have HC2 : As (cntD word out lost (j + 1) = ct) := ⟨by
              rw [HNX.out, if_neg (fun h => h.1 (val_inj (by rw [hx, hy]; exact hxy)))]; rfl⟩
            clear hx hy HNX
            go_wp2
            go_quiet (fail)
            go_wp2
            go_roundw
            case rel => exact ⟨j + 1, by go_num, by rw [HC2.out], by omega, ⟨bl_drewN hB.out⟩⟩
            case measure => simp [intOf]; omega
          · have g3 : ((x : Int) == (y : Int)) = false := beq_eq_false_iff_ne.mpr (by omega)
            have g4 : ((x : Int) != (y : Int)) = true := by rw [bne, g3]; rfl
            have hne : atl word j ≠ atl out j := fun h => hxy (by rw [← hx, ← hy, h])
            have HCN := As.mk (fun w' (h : Below wr.heap.size wr w') => containsI A3 k c3 lost (j : Int) w' ((HLo.out.below hB.out).below h) HK.out (by omega))
            obtain ⟨r, hr⟩ : ∃ r, lost.contains (j : Int) = r := ⟨_, rfl⟩
            rw [hr] at HCN
            have HRR := As.mk hr
            clear hr
            cases r with
            | true =>
              have HC2 : As (cntD word out lost (j + 1) = ct) := ⟨by
                rw [HNX.out, if_neg (fun h => by rw [HRR.out] at h; cases h.2)]; rfl⟩
              clear hx hy HNX hne hxy
              go_wp2
              go_quiet (exact Calls.quiet_of_same (HCN.out _ (bl_drewN (bl_refl _))))
              go_wp2
              go_roundw
              case rel => exact ⟨j + 1, by go_num, by rw [HC2.out], by omega, ⟨bl_drewN hB.out⟩⟩
              case measure => simp [intOf]; omega
            | false =>
              have HC2 : As (cntD word out lost (j + 1) = ct + 1) := ⟨by
                rw [HNX.out, if_pos ⟨hne, HRR.out⟩]⟩
              have f1 : IntKind.i64.wrap ((ct : Int) + 1) = (ct : Int) + 1 := in64 (by omega) (by omega)
              clear hx hy HNX hne hxy
              go_wp2
              go_quiet (exact Calls.quiet_of_same (HCN.out _ (bl_drewN (bl_refl _))))
              go_wp2
              go_roundw
              case rel => exact ⟨j + 1, by go_num, by rw [HC2.out]; rfl, by omega, ⟨bl_drewN hB.out⟩⟩
              case measure => simp [intOf]; omega
        · have hdj : decide (j < n) = false := decide_eq_false hltj
          have hjn : j = n := by omega
          have HR3 : As (R = decide (2 * ct + k ≤ q + 1)) := ⟨by rw [HR2.out, ← hjn, HCT.out]⟩
          have c3 := (HXb.out.below hB.out).c3
          have f1 : IntKind.i64.wrap (2 * (ct : Int)) = 2 * (ct : Int) := in64 (by omega) (by omega)
          have f2 : IntKind.i64.wrap (2 * (ct : Int) + (k : Int)) = 2 * (ct : Int) + (k : Int) := in64 (by omega) (by omega)
          have f3 : decide (2 * (ct : Int) + (k : Int) ≤ (q : Int) + 1) = decide (2 * ct + k ≤ q + 1) := by
            by_cases h : 2 * ct + k ≤ q + 1
            · rw [decide_eq_true h]; exact decide_eq_true (by omega)
            · rw [decide_eq_false h]; exact decide_eq_false (by omega)
          go_wp2
          go_ret
          exact ⟨by rw [HR3.out]; rfl, bl_then hB.out HBb.out⟩
end
end Go.Proofs.Ythcjmmicjbfpgaa.Rs

namespace Go.Proofs.Ythcjmmicjbfpgaa.Rs
open Go.RowKit Go.Proofs.Ythcjmmicjbfpgaa.Alg
open GF
set_option linter.unusedSimpArgs false

/-- the numbers in ascending order -/
def srtL (xs : List Int) : List Int := xs.mergeSort fun x y => decide (x ≤ y)
theorem srtL_length (xs : List Int) : (srtL xs).length = xs.length := List.length_mergeSort xs

theorem sortI (B : Nat) (v : Value) (xs : List Int) (w : World) (h : OwnI w B v xs) (hl : xs.length ≤ 1000000) :
    Calls Try.prog 48 #[v] w fun e w' => e = .returned (.tuple #[]) ∧ As (OwnI w' B v (srtL xs)) ∧ Below B w w' := by
  rcases h.2 with ⟨h1, h2⟩ | ⟨g, cap, cur, h1, h2, h3, h4, h5, h6, h7⟩
  · have : xs = [] := List.length_eq_zero_iff.mp h2
    subst this
    subst h1
    refine (Try.slices_Sort_int_none none 0 w).mono ?_
    rintro e w' ⟨he, rfl⟩
    exact ⟨he, ⟨by unfold srtL; rw [List.mergeSort_nil]; exact h⟩, Below.refl _ _⟩
  · subst h1
    have hg : g < w.heap.size := (Array.getElem?_eq_some_iff.1 h3).1
    rw [Nat.mul_one] at h7
    refine (Try.slices_Sort_int g 0 cap xs w (holds_of_blockI h3 h7) hg (by omega)).mono ?_
    rintro e w' ⟨he, n, os, rfl⟩
    refine ⟨he, ⟨?_⟩, ?_⟩
    · have := ownsRow_sortedI (n := n) (os := os) (ts := srtL xs) (srtL_length xs) h2 h3 h4 h5 h6
      unfold OwnI
      rw [srtL_length]
      exact this
    · exact (Below.refl B w).grown (grownBy_sortedI (srtL xs).toArray) (Nat.le_trans h2 (Nat.le_of_lt hg)) (fun k e => by cases e; exact h2)

theorem ownI_short {w : World} {B g n c k : Nat} {xs : List Int} (h : OwnI w B (.slice (some ⟨g, 0, none⟩) n c) xs) (hn : xs.length = n) (hk : k ≤ n) : OwnI w B (.slice (some ⟨g, 0, none⟩) k c) (xs.take k) := by
  have hl : (xs.take k).length = k := by rw [List.length_take]; omega
  rcases h.2 with ⟨h1, _⟩ | ⟨g', cap, cur, h1, h2, h3, h4, h5, h6, h7⟩
  · cases h1
  · cases h1
    unfold OwnI
    rw [hl]
    refine ⟨by rw [List.length_map, hl, Nat.mul_one], .inr ⟨g, c, cur, rfl, h2, h3, by omega, h5, h6, ?_⟩⟩
    rw [Nat.mul_one] at h7 ⊢
    rw [List.map_take, ← h7, List.take_take, Nat.min_eq_left (by omega)]

theorem compactI (B : Nat) (v : Value) (xs : List Int) (w : World) (h : OwnI w B v xs) (hl : xs.length ≤ 1000000) :
    Calls Try.prog 49 #[v] w fun e w' => ∃ v', e = .returned v' ∧ As (OwnI w' B v' (Lib.compact xs)) ∧ Below B w w' := by
  rcases h.2 with ⟨h1, h2⟩ | ⟨g, cap, cur, h1, h2, h3, h4, h5, h6, h7⟩
  · have : xs = [] := List.length_eq_zero_iff.mp h2
    subst this
    subst h1
    refine (Try.slices_Compact_int_empty none 0 w).mono ?_
    rintro e w' ⟨he, rfl⟩
    exact ⟨_, he, ⟨h⟩, Below.refl _ _⟩
  · subst h1
    have hrd : RdI w (some ⟨g, 0, none⟩) xs := by
      obtain ⟨A, c', e, _, hr, _⟩ := h.read
      injection e with e1 e2 e3
      rw [e1]; exact hr
    have hc := Lib.compact_length_le xs
    refine (Try.slices_Compact_int_cells g 0 xs.length cap xs w (Nat.le_refl _) (by omega) h4 hrd.cells (fun j _ => by rw [Nat.zero_add]; exact h.frozen rfl j)).mono ?_
    rintro e w' ⟨he, q, rfl⟩
    rw [List.take_length] at he ⊢
    refine ⟨_, he, ⟨?_⟩, setCells_below (bl_drewB (Below.refl B w)) h2⟩
    have h8 := ownI_short ((h.drewN (q := q)).cells rfl (ys := Lib.compact xs ++ List.replicate (xs.length - (Lib.compact xs).length) 0) (by simp; omega)) (by simp; omega) hc
    rw [List.take_left] at h8
    exact h8
end Go.Proofs.Ythcjmmicjbfpgaa.Rs

namespace Go.Proofs.Ythcjmmicjbfpgaa.Rs
open Go.RowKit Go.Proofs.Ythcjmmicjbfpgaa.Alg
open GF
set_option linter.unusedSimpArgs false

/-- the variables that Decode lays: the code, the result, the word's length -/
structure DecI (w : World) (Z : Nat) (c s p par fst n : Int) : Prop where
  b : Box5 w Z c s p par fst
  r : w.heap[Z + 1]? = some (.cells #[.slice none 0 0, .slice none 0 0] 47 (0, 0))
  n : w.cell? ⟨Z + 2, 0, none⟩ = some (.int .i64 n)
theorem DecI.below {w w1 : World} {Z : Nat} {c s p par fst n : Int} (h : DecI w Z c s p par fst n) (hb : Below w.heap.size w w1) : DecI w1 Z c s p par fst n :=
  ⟨h.b.below hb, blk_below h.r hb, cell_below hb h.n⟩
theorem DecI.d0 {w : World} {Z : Nat} {c s p par fst n : Int} (h : DecI w Z c s p par fst n) : w.cell? ⟨Z + 1, 0, none⟩ = some (.slice none 0 0) := (blk_cell h.r 0).trans rfl
theorem DecI.d1 {w : World} {Z : Nat} {c s p par fst n : Int} (h : DecI w Z c s p par fst n) : w.cell? ⟨Z + 1, 1, none⟩ = some (.slice none 0 0) := (blk_cell h.r 1).trans rfl
theorem DecI.f0 {w : World} {Z : Nat} {c s p par fst n : Int} (h : DecI w Z c s p par fst n) : w.frozen? ⟨Z + 1, 0, none⟩ = false := blk_frozen h.r 0
theorem DecI.f1 {w : World} {Z : Nat} {c s p par fst n : Int} (h : DecI w Z c s p par fst n) : w.frozen? ⟨Z + 1, 1, none⟩ = false := blk_frozen h.r 1
theorem DecI.new {w : World} {c s p par fst n : Int} {t u : TypeId} :
    DecI (((w.alloc (.cells #[.int .i64 c, .int .i64 s, .int .i64 p, .int .i64 par, .int .i64 fst] t)).alloc (.cells #[.slice none 0 0, .slice none 0 0] 47)).alloc (.cells #[.int .i64 n] u)) w.heap.size c s p par fst n := by
  refine ⟨(Box5.new.below (bl_alloc (bl_alloc (bl_refl _)))), ?_, ?_⟩
  · refine blk_alloc ?_
    have h := heap_alloc_new (w.alloc (.cells #[.int .i64 c, .int .i64 s, .int .i64 p, .int .i64 par, .int .i64 fst] t)) (.cells #[.slice none 0 0, .slice none 0 0] 47)
    have e : (w.alloc (.cells #[.int .i64 c, .int .i64 s, .int .i64 p, .int .i64 par, .int .i64 fst] t)).heap.size = w.heap.size + 1 := by simp
    rw [e] at h
    exact h
  · have h := (cell_new_l ((w.alloc (.cells #[.int .i64 c, .int .i64 s, .int .i64 p, .int .i64 par, .int .i64 fst] t)).alloc (.cells #[.slice none 0 0, .slice none 0 0] 47)) (.int .i64 n) u).1
    have e : ((w.alloc (.cells #[.int .i64 c, .int .i64 s, .int .i64 p, .int .i64 par, .int .i64 fst] t)).alloc (.cells #[.slice none 0 0, .slice none 0 0] 47)).heap.size = w.heap.size + 2 := by simp
    rw [e] at h
    exact h

set_option maxRecDepth 100000 in
set_option maxHeartbeats 3200000 in
theorem decode_bad (c s p par fst : Int) (A A2 : Option Addr) (cp c2 : Nat) (xs er : List Int) (w : World) (hr : RdI w A xs) (hr2 : RdI w A2 er) (hl : xs.length ≤ 100000) (hl2 : er.length ≤ 100000) (h : vldB c s p par fst xs = false ∨ vldB c s p par fst xs = true ∧ anyOut xs.length er = true) :
    Calls Try.prog 24 #[.agg #[.int .i64 c, .int .i64 s, .int .i64 p, .int .i64 par, .int .i64 fst], .slice A xs.length cp, .slice A2 er.length c2] w fun e w' => e = .returned (.tuple #[.agg #[.slice none 0 0, .slice none 0 0], .int .i64 1]) ∧ Below w.heap.size w w' := by
  have HV := As.mk (fun w' hr' => vld_any c s p par fst A cp xs w' hr' (by omega))
  have HR := As.mk hr
  have HR2 := As.mk hr2
  have HD := As.mk (DecI.new (w := w) (c := c) (s := s) (p := p) (par := par) (fst := fst) (n := xs.length) (t := 25) (u := 3))
  have HC := As.mk (fun g w' hr' hc' => cdecode_contains A2 c2 er (xs.length : Int) g w' hr' (by omega) hc')
  obtain ⟨n, hn⟩ : ∃ n, xs.length = n := ⟨_, rfl⟩
  rw [hn] at HV HD HC h ⊢
  clear hr hr2 hn
  rcases h with h | ⟨h, ha⟩
  · rw [h] at HV
    clear h
    go_enter Try.func24, Try.ntmps24
    go_wp2_with fail
    refine (HV.out _ (HR.out.below (bl_alloc (bl_alloc (bl_alloc (bl_refl _)))))).mono ?_
    rintro e w1 ⟨rfl, hb⟩
    have d := HD.out.below hb
    have d0 := d.d0
    have d1 := d.d1
    have f0 := d.f0
    have f1 := d.f1
    clear d
    go_wp2
    exact bodyPost_ret (v := .tuple #[.agg #[.slice none 0 0, .slice none 0 0], .int .i64 1]) (by simp [results, Try.results24, go_sem, d0, d1]) rfl ⟨rfl, by
      repeat (first | exact bl_refl _ | apply bl_drew | apply bl_alloc | apply bl_set (by simp) | apply bl_then hb)⟩
  · rw [h] at HV
    rw [ha] at HC
    clear h ha
    go_enter Try.func24, Try.ntmps24
    go_wp2_with fail
    refine (HV.out _ (HR.out.below (bl_alloc (bl_alloc (bl_alloc (bl_refl _)))))).mono ?_
    rintro e w1 ⟨rfl, hb⟩
    have d := HD.out.below hb
    have d0 := d.d0
    have d1 := d.d1
    have f0 := d.f0
    have f1 := d.f1
    have dn := d.n
    clear d
    go_wp2_with fail
    refine (HC.out _ _ ((HR2.out.below (bl_alloc (bl_alloc (bl_alloc (bl_refl _))))).below hb) dn).mono ?_
    rintro e w2 ⟨rfl, rfl⟩
    go_wp2
    exact bodyPost_ret (v := .tuple #[.agg #[.slice none 0 0, .slice none 0 0], .int .i64 1]) (by simp [results, Try.results24, go_sem, d0, d1]) rfl ⟨rfl, by
      repeat (first | exact bl_refl _ | apply bl_drew | apply bl_alloc | apply bl_set (by simp) | apply bl_then hb)⟩

set_option maxRecDepth 100000 in
set_option maxHeartbeats 3200000 in
theorem decode_length (c s p par fst : Int) (A A2 : Option Addr) (cp c2 : Nat) (xs er : List Int) (w : World) (hr : RdI w A xs) (hr2 : RdI w A2 er) (hl : xs.length ≤ 100000) (hl2 : er.length ≤ 100000) (h : vldB c s p par fst xs = true) (ha : anyOut xs.length er = false) (hf : (decide (par < (xs.length : Int)) && decide ((xs.length : Int) < s)) = false) :
    Calls Try.prog 24 #[.agg #[.int .i64 c, .int .i64 s, .int .i64 p, .int .i64 par, .int .i64 fst], .slice A xs.length cp, .slice A2 er.length c2] w fun e w' => e = .returned (.tuple #[.agg #[.slice none 0 0, .slice none 0 0], .int .i64 7]) ∧ Below w.heap.size w w' := by
  have HV := As.mk (fun w' hr' => vld_any c s p par fst A cp xs w' hr' (by omega))
  have HR := As.mk hr
  have HR2 := As.mk hr2
  have HD := As.mk (DecI.new (w := w) (c := c) (s := s) (p := p) (par := par) (fst := fst) (n := xs.length) (t := 25) (u := 3))
  have HC := As.mk (fun g w' hr' hc' => cdecode_contains A2 c2 er (xs.length : Int) g w' hr' (by omega) hc')
  have HF := As.mk (fun w' => fits_any c s p par fst A xs.length cp w')
  rw [hf] at HF
  rw [h] at HV
  rw [ha] at HC
  obtain ⟨n, hn⟩ : ∃ n, xs.length = n := ⟨_, rfl⟩
  rw [hn] at HV HD HC HF ⊢
  clear hr hr2 hn hf h ha
  go_enter Try.func24, Try.ntmps24
  go_wp2_with fail
  refine (HV.out _ (HR.out.below (bl_alloc (bl_alloc (bl_alloc (bl_refl _)))))).mono ?_
  rintro e w1 ⟨rfl, hb⟩
  have d := HD.out.below hb
  have dn := d.n
  have c0 := d.b.c0
  have c1 := d.b.c1
  have c2' := d.b.c2
  have c3 := d.b.c3
  have c4 := d.b.c4
  go_wp2_with fail
  refine (HC.out _ _ ((HR2.out.below (bl_alloc (bl_alloc (bl_alloc (bl_refl _))))).below hb) dn).mono ?_
  rintro e w2 ⟨rfl, rfl⟩
  go_wp2_with fail
  refine (HF.out _).mono ?_
  rintro e w2 ⟨rfl, hb2⟩
  have d2 := d.below hb2
  have d0 := d2.d0
  have d1 := d2.d1
  have f0 := d2.f0
  have f1 := d2.f1
  clear d d2 dn c0 c1 c2' c3 c4
  go_wp2
  exact bodyPost_ret (v := .tuple #[.agg #[.slice none 0 0, .slice none 0 0], .int .i64 7]) (by simp [results, Try.results24, go_sem, d0, d1]) rfl ⟨rfl, by
    repeat (first | exact bl_refl _ | apply bl_drew | apply bl_alloc | apply bl_set (by simp) | apply bl_then hb2 | apply bl_then hb)⟩
end Go.Proofs.Ythcjmmicjbfpgaa.Rs

namespace Go.Proofs.Ythcjmmicjbfpgaa.Rs
open Go.RowKit Go.Proofs.Ythcjmmicjbfpgaa.Alg
open GF
set_option linter.unusedSimpArgs false

theorem compact_mem {xs : List Int} {x : Int} (h : x ∈ Lib.compact xs) : x ∈ xs := by
  unfold Lib.compact Lib.compactUpTo at h
  obtain ⟨j, hj, rfl⟩ := List.mem_map.mp h
  have hl : j < xs.length := by have := (List.mem_filter.mp hj).1; simpa using this
  simp [hl]
/-- the lost indexes, in order -/
def lostL (er : List Int) : List Int := Lib.compact (srtL er)
theorem lostL_mem {er : List Int} {x : Int} (h : x ∈ lostL er) : x ∈ er := List.mem_mergeSort.mp (compact_mem h)
theorem lostL_length (er : List Int) : (lostL er).length ≤ er.length := by
  unfold lostL
  have := Lib.compact_length_le (srtL er)
  rw [srtL_length] at this
  exact this
theorem lostL_in {er : List Int} {n : Nat} (h : anyOut (n : Int) er = false) {i : Nat} (hi : i < (lostL er).length) : 0 ≤ (lostL er).getD i 0 ∧ (lostL er).getD i 0 < (n : Int) := by
  have h1 : (lostL er).getD i 0 ∈ er := by
    rw [List.getD_eq_getElem?_getD, List.getElem?_eq_getElem hi]
    exact lostL_mem (List.getElem_mem hi)
  unfold anyOut at h
  have h2 := List.any_eq_false.mp h _ h1
  unfold outB at h2
  simp only [Bool.or_eq_true, decide_eq_true_eq] at h2
  omega

section
variable {K : Type} [GF K]
/-- the locator of lost indexes -/
noncomputable def gamL (K : Type) [GF K] (n : Nat) (l : List Int) : List K := l.foldl (fun p i => mulL p [1, 0 - gz ((n : Int) - 1 - i)]) [1]
theorem gamL_snoc (n : Nat) (l : List Int) (i : Int) : gamL K n (l ++ [i]) = mulL (gamL K n l) [1, 0 - gz ((n : Int) - 1 - i)] := by unfold gamL; rw [List.foldl_append]; rfl
theorem gamL_length (n : Nat) (l : List Int) : (gamL K n l).length = l.length + 1 := by
  unfold gamL
  suffices ∀ p : List K, 1 ≤ p.length → (l.foldl (fun p i => mulL p [1, 0 - gz ((n : Int) - 1 - i)]) p).length = l.length + p.length from this _ (by simp)
  induction l with
  | nil => intro p _; simp
  | cons i l ih =>
    intro p hp
    rw [List.foldl_cons, ih _ (by rw [mulL_length]; simp), mulL_length]
    simp only [List.length_cons, List.length_nil]; omega
theorem gamL_take {n : Nat} {l : List Int} {i : Nat} (h : i < l.length) : gamL K n (l.take (i + 1)) = mulL (gamL K n (l.take i)) [1, 0 - gz ((n : Int) - 1 - l.getD i 0)] := by
  rw [List.take_succ_eq_append_getElem h, gamL_snoc]
  have : l.getD i 0 = l[i] := by rw [List.getD_eq_getElem?_getD, List.getElem?_eq_getElem h]; rfl
  rw [this]
theorem sigL_pos (s : List K) : 1 ≤ (sigL s).length := by
  have hz := runB_inv s s.length
  rw [sigL_length]
  have h1 := hz.c1
  have h0 := hz.inv.c0
  generalize runB s s.length = z at h0 h1
  have key : ∀ n, 1 ≤ n → 1 ≤ trm z.c n := by
    intro n
    induction n with
    | zero => omega
    | succ n ih =>
      intro _
      unfold trm
      by_cases e : atl z.c n = 0
      · rw [if_pos e]
        cases n with
        | zero => exact absurd (e.symm.trans h0) (fun e => Fld.one_ne (K := K) e.symm)
        | succ n => exact ih (by omega)
      · rw [if_neg e]; omega
  exact key _ h1

/-- what Decode makes of what correct hands it -/
noncomputable def finL (fst par m : Nat) (word : List K) (lost : List Int) : Option (List K × Nat) → Option (List K)
  | none => none
  | some (out, f) => if f + 1 = m ∧ witB fst par word out lost = true then some out else none
/-- what Decode comes to at a word of a possible length -/
noncomputable def decL (fst par : Nat) (word : List K) (lost : List Int) : Option (List K) :=
  if par < lost.length then none
  else if par < 2 * sizL (modL (synL fst par word) (gamL K word.length lost)) + lost.length ∨ (sigL (modL (synL fst par word) (gamL K word.length lost))).length ≠ sizL (modL (synL fst par word) (gamL K word.length lost)) + 1 then none
  else finL fst par (mulL (sigL (modL (synL fst par word) (gamL K word.length lost))) (gamL K word.length lost)).length word lost
    (corS fst ((mulL (synL fst par word) (mulL (sigL (modL (synL fst par word) (gamL K word.length lost))) (gamL K word.length lost))).take par) (mulL (sigL (modL (synL fst par word) (gamL K word.length lost))) (gamL K word.length lost)) word.length word word.length)
/-- the indexes at which two words differ -/
def chgL (word out : List K) : Nat → List Int
  | 0 => []
  | i + 1 => if atl word i ≠ atl out i then chgL word out i ++ [(i : Int)] else chgL word out i
theorem chgL_length (word out : List K) : ∀ i, (chgL word out i).length ≤ i
  | 0 => Nat.le_refl _
  | i + 1 => by
    have := chgL_length word out i
    unfold chgL
    split
    · simp; omega
    · omega

/-- append of one number to a row of numbers -/
theorem appI {ops : Array Oper} {rest : List Oper} {o : Oper} {a : Act} {Q : Exit → Act → World → Prop} (w : World) (hgd : o.guard = none) (s x : Operand)
    (ho : o.op = .call { callee := .builtin .append, args := #[s, x], argTypes := #[30, 30] })
    (B : Nat) (v : Value) (ys : List Int) (hs : a.eval s = v) (hown : OwnI w B v ys) (nb c : Nat) (y : Int)
    (hx : a.eval x = .slice (some ⟨nb, 0, none⟩) 1 c) (hc : w.cell? ⟨nb, 0, none⟩ = some (.int .i64 y)) (hn : ys.length < 1000000) (hB : B ≤ w.heap.size)
    (h : ∀ v' w', OwnI w' B v' (ys ++ [y]) → Below B w w' → wpList Try.prog ops Q rest (a.put o.dst v') w') : wpList Try.prog ops Q (o :: rest) a w :=
  app1 w hgd s x ho B v ys.length _ hs hown nb c y hx hc hn hB (fun v' w' h1 h2 => h v' w' (by
    unfold OwnI
    rw [List.length_append, List.map_append]
    exact h1) ((Below.refl B w).grown h2 hB (fun k e => (own_block hown e).1)))
theorem rd_12 {w : World} {a : K} {t : TypeId} : RdK (w.alloc (.cells #[.int .i64 1, .int .i64 (val a)] t)) (some ⟨w.heap.size, 0, none⟩) [1, a] := by
  have h := rd_two (w := w) (a := (1 : K)) (b := a) (t := t)
  rw [val_one] at h
  exact h

end
end Go.Proofs.Ythcjmmicjbfpgaa.Rs
