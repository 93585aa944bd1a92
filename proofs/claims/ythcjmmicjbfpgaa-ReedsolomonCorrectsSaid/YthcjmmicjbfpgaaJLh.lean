/-
The walk of the law Corrects at a valid code.
-/
import Derived.Test.YthcjmmicjbfpgaaJSp
namespace Go.Proofs.Ythcjmmicjbfpgaa.Rs
set_option linter.unusedVariables false
set_option linter.unusedSimpArgs false
open Go.RowKit Go.Proofs.Ythcjmmicjbfpgaa.Alg
open GF

section
variable {K : Type} [GF K]
set_option maxRecDepth 100000 in
set_option maxHeartbeats 12800000 in
theorem corrects_in (par fst : Nat) (h1 : 1 ≤ par) (h2 : par ≤ sz K - 2) (h3 : fst ≤ sz K - 2) (A1 A2 A3 : Option Addr) (c1 c2 c3 N m k : Nat) (xs er : List Int) (cs : List (Int × Int)) (w : World) (hx : RdI w A1 xs) (he : RdI w A2 er) (hc : RdC w A3 cs)
    (hxn : xs.length = N) (hen : er.length = k) (hcn : cs.length = m) (hsm : smB par N k = true) (hm : m ≤ 100) (hN : N ≤ 300) :
    Calls Try.prog 6 #[.agg #[.int .i64 (ch K), .int .i64 (sz K), .int .i64 (po K), .int .i64 par, .int .i64 fst, .slice A1 N c1, .slice A2 k c2], .slice A3 m c3] w fun e w' => e = .returned (.bool true) ∧ Below w.heap.size w w' := by
  have hs2 := sz_two (K := K)
  have hs3 := sz_max (K := K)
  have hk4 : k ≤ 400 ∧ par ≤ 60 := by
    unfold smB at hsm
    simp only [Bool.and_eq_true, decide_eq_true_eq] at hsm
    exact ⟨hsm.2, by omega⟩
  have HI := As.mk (AskI.new (w := w) (c := ch K) (s := sz K) (p := po K) (par := par) (fst := fst) (A1 := A1) (n1 := N) (c1 := c1) (A2 := A2) (n2 := k) (c2 := c2) (t := 36))
  have hsa := small_any (ch K) (sz K) (po K) par fst A1 A2 N c1 k c2
  rw [hsm] at hsa
  have HS := As.mk hsa
  have HV := As.mk (valid7K (K := K) h1 h2 h3)
  have e1 := enc_K (K := K) par fst h1 h2 h3 A1 c1 xs (by omega)
  rw [hxn] at e1
  have E1 := As.mk e1
  have HXN := As.mk hxn
  have HEN := As.mk hen
  have HCN := As.mk hcn
  have HX := As.mk hx
  have HE := As.mk he
  have HC := As.mk hc
  have g1 : decide (100 < m) = false := decide_eq_false (by omega)
  have g2 : decide ((100 : Int) < (m : Int)) = false := decide_eq_false (by omega)
  have g3 : decide (300 < N) = false := decide_eq_false (by omega)
  have g4 : decide ((300 : Int) < (N : Int)) = false := decide_eq_false (by omega)
  clear hsm hsa e1 hx he hc hxn hen hcn
  have c0 := HI.out.b.c0
  have c1' := HI.out.b.c1
  have c2' := HI.out.b.c2
  have c3' := HI.out.b.c3
  have c4 := HI.out.b.c4
  have c5 := HI.out.c5
  have c6 := HI.out.c6
  go_enter Try.func6, Try.ntmps6
  go_wp2_with fail
  refine (HS.out _).mono ?_
  rintro e w1 ⟨rfl, hb⟩
  have HB1 : As (Below w.heap.size w w1) := ⟨bl_then hb (bl_alloc (bl_refl _))⟩
  have HI1 := As.mk (HI.out.below hb)
  clear c0 c1' c2' c3' c4 c5 c6 hb HI HS
  have c0 := HI1.out.b.c0
  have c1' := HI1.out.b.c1
  have c2' := HI1.out.b.c2
  have c3' := HI1.out.b.c3
  have c4 := HI1.out.b.c4
  go_wp2_with fail
  refine (HV.out _).mono ?_
  rintro e w2 ⟨rfl, hb⟩
  have HB2 : As (Below w.heap.size w w2) := ⟨bl_then hb HB1.out⟩
  have HI2 := As.mk (HI1.out.below hb)
  clear c0 c1' c2' c3' c4 hb HI1 HV HB1
  have c0 := HI2.out.b.c0
  have c1' := HI2.out.b.c1
  have c2' := HI2.out.b.c2
  have c3' := HI2.out.b.c3
  have c4 := HI2.out.b.c4
  have c5 := HI2.out.c5
  rcases E1.out with ⟨e1, hne, ha1⟩ | ⟨ws, hws, hw1, hw2, ha1⟩
  · have A1' := As.mk ha1
    have g5 : (e1 == 0) = false := beq_eq_false_iff_ne.mpr hne
    have g6 : (e1 != 0) = true := by rw [bne, g5]; rfl
    clear ha1 hne E1
    go_wp2_with fail
    refine (A1'.out _ (HX.out.below HB2.out)).mono ?_
    rintro e w3 ⟨B1, k1, rfl, _, hb⟩
    have HB3 : As (Below w.heap.size w w3) := ⟨bl_then hb HB2.out⟩
    clear c0 c1' c2' c3' c4 c5 hb HI2 HB2
    go_wp2_with fail
    refine (alive_any _).mono ?_
    rintro e w4 ⟨rfl, hb⟩
    go_wp2
    go_ret
    exact ⟨rfl, bl_then hb HB3.out⟩
  · have A1' := As.mk ha1
    have HWS := As.mk hws
    have hwl : ws.length = N := by rw [← HXN.out, ← HWS.out, ints_length]
    have HWL := As.mk hwl
    rw [hwl] at hw1 hw2
    have HTK := As.mk (encL_take (genL K fst par) par ws hwl)
    obtain ⟨n, hn⟩ : ∃ n, N + par = n := ⟨_, rfl⟩
    have HNN := As.mk hn
    have HSZ : As (n < sz K) := ⟨by omega⟩
    have hn1 : n ≤ 5000 := by omega
    have hn0 : 0 < n := by omega
    obtain ⟨D, hD⟩ : ∃ D, dr er n k = D := ⟨_, rfl⟩
    have hdle := dr_le er n k
    have HDD := As.mk hD
    have HDI := As.mk (dr_in er n k)
    have HFIX0 := fun v (hv : v.length = n) => decL_spoilt (K := K) (fst := fst) (par := par) (n := n) (k := k) (v := v) (ws := ws) (er := er) h1 hv (by rw [hwl]; exact hn) HSZ.out
    obtain ⟨aL, haL⟩ : ∃ aL, encL (genL K fst par) par ws = aL := ⟨_, rfl⟩
    have HAL : As (aL.length = n) := ⟨by rw [← haL, encL_length, hwl]; exact hn⟩
    rw [haL] at HTK HFIX0 ha1
    rw [hD] at HFIX0 hdle HDI
    obtain ⟨outS, hout⟩ : ∃ outS, spL n cs aL m = outS := ⟨_, rfl⟩
    have HOUT := As.mk hout
    have HOL : As (outS.length = n) := ⟨by rw [← hout, spL_length]; exact HAL.out⟩
    have HFIX := As.mk (HFIX0 outS HOL.out)
    have A1' := As.mk ha1
    have g7 : ((N : Int) + (par : Int)) = (n : Int) := by omega
    have g8 : IntKind.i64.wrap (n : Int) = (n : Int) := in64 (by omega) (by omega)
    have g9 : ((n : Int) == (n : Int)) = true := by simp
    have g10 : ((n : Int) != (n : Int)) = false := by simp
    clear ha1 hws E1 hwl haL hn hD hout HFIX0
    go_wp2_with fail
    refine (A1'.out _ (HX.out.below HB2.out)).mono ?_
    rintro e w3 ⟨v1, rfl, ho1, hb⟩
    obtain ⟨q, hq⟩ : ∃ q, n = q + 1 := ⟨n - 1, by omega⟩
    obtain ⟨ga, ca, hv1, _⟩ := ho1.out.shape (HAL.out.trans hq)
    rw [← hq] at hv1
    subst hv1
    have HRA := As.mk ho1.out.rd
    have hcap := ho1.out.cap
    rw [HAL.out] at hcap
    have HB3 : As (Below w.heap.size w w3) := ⟨bl_then hb HB2.out⟩
    have HI3 := As.mk (HI2.out.below hb)
    clear hb HB2 HI2 ho1 hq c0 c1' c2' c3' c4 c5
    have c0 := HI3.out.b.c0
    have c1' := HI3.out.b.c1
    have c2' := HI3.out.b.c2
    have c6 := HI3.out.c6
    have HSP := As.mk (fun w' r1 r2 r3 => spoiltK (K := K) n m k aL cs er HAL.out hn0 hn1 HCN.out (by omega) HEN.out (by omega) (some ⟨ga, 0, none⟩) A3 A2 ca c3 c2 w' r1 r2 r3)
    rw [HOUT.out, HDD.out] at HSP
    go_wp2_with fail
    refine (HSP.out _ HRA.out (HC.out.below HB3.out) (HE.out.below HB3.out)).mono ?_
    rintro e w4 ⟨v2, gb, rfl, ho2, hob, hb⟩
    obtain ⟨q, hq⟩ : ∃ q, n = q + 1 := ⟨n - 1, by omega⟩
    obtain ⟨gv, cv, hv2, _⟩ := ho2.out.shape (HOL.out.trans hq)
    rw [← hq] at hv2
    subst hv2
    have hcel := cntD_le outS aL D n
    obtain ⟨ce, hce⟩ : ∃ ce, cntD outS aL D n = ce := ⟨_, rfl⟩
    obtain ⟨ct, hct⟩ : ∃ ct, D.length = ct := ⟨_, rfl⟩
    rw [hce] at hcel HFIX ⊢
    rw [hct] at hdle HFIX ⊢
    obtain ⟨cc, hcc⟩ : ∃ cc, 2 * ce + ct = cc := ⟨_, rfl⟩
    rw [hcc] at HFIX
    have HB4 : As (Below w.heap.size w w4) := ⟨bl_then hb HB3.out⟩
    have HI4 := As.mk (HI3.out.below hb)
    have HRA4 := As.mk (HRA.out.below hb)
    have HO4 := As.mk ho2.out.rd
    have HOB4 := As.mk hob.out
    have HX4 := As.mk (HX.out.below HB4.out)
    have f1 : IntKind.i64.wrap (2 * (ce : Int)) = 2 * (ce : Int) := in64 (by omega) (by omega)
    have f2 : IntKind.i64.wrap (2 * (ce : Int) + (ct : Int)) = (cc : Int) := by rw [in64 (by omega) (by omega)]; omega
    have HHC : As (N ≤ ca) := ⟨by omega⟩
    have HPN : As (par < n) := ⟨by omega⟩
    clear hb hce hct hcc HB3 HI3 HRA ho2 hob HSP HC HE HX hq c0 c1' c2' c6 hcap hcel hdle
    obtain ⟨E0, hE0⟩ : ∃ E0, w4.heap.size = E0 := ⟨_, rfl⟩
    have HE0 := As.mk hE0
    clear hE0
    go_wp2
    go_loopw [11, 64] (fun v x wr => ∃ i : Nat, x = .int .i64 i ∧ i ≤ n ∧ As (OwnI wr E0 v (asc D i)) ∧ As (Below w4.heap.size w4 wr)) (fun _ x _ => n - (intOf x).toNat)
    case atStart => exact ⟨0, rfl, by omega, ⟨World.ownsRow_nil _ _ _ _⟩, ⟨bl_refl _⟩⟩
    case round =>
      obtain ⟨i, rfl, hi, hV, hB⟩ := hrel
      by_cases hlt : i < n
      · have hd : decide (i < n) = true := decide_eq_true hlt
        have hcell := ((HOB4.out.below hB.out).cell (lbD_length _ _) hlt).1
        rw [lbD_get hlt] at hcell
        by_cases hmem : (i : Int) ∈ D
        · rw [decide_eq_true hmem] at hcell
          have HNX : As (asc D (i + 1) = asc D i ++ [(i : Int)]) := ⟨by
            conv => lhs; unfold asc
            rw [if_pos hmem]⟩
          have HLN : As ((asc D i).length < 1000000) := ⟨by have := asc_length D i; omega⟩
          clear hmem
          go_wp2_with (at_builtin; refine appI _ rfl _ _ rfl E0 _ _ rfl (hV.out.below (bl_alloc (bl_refl _))) wr.heap.size 1 (i : Int) rfl (by simp [go_sem]) HLN.out (by have := hB.out.size; have := HE0.out; simp at *; omega) ?_; intro v' w5 hown hb2)
          go_roundw
          case rel => exact ⟨i + 1, by go_num, by omega, ⟨by rw [HNX.out]; exact hown⟩, ⟨(bl_alloc hB.out).trans (by rw [HE0.out]; exact hb2)⟩⟩
          case measure => simp [intOf]; omega
        · rw [decide_eq_false hmem] at hcell
          have HNX : As (asc D (i + 1) = asc D i) := ⟨by
            conv => lhs; unfold asc
            rw [if_neg hmem]⟩
          clear hmem
          go_wp2
          go_roundw
          case rel => exact ⟨i + 1, by go_num, by omega, ⟨by rw [HNX.out]; exact hV.out⟩, hB⟩
          case measure => simp [intOf]; omega
      · have hd : decide (i < n) = false := decide_eq_false hlt
        obtain rfl : i = n := by omega
        obtain ⟨wz, hwz⟩ : ∃ wz, wr = wz := ⟨_, rfl⟩
        rw [hwz] at hV hB ⊢
        obtain ⟨Ae, ke, rfl, _, hre, _⟩ := hV.out.read
        have HBz : As (Below w.heap.size w wz) := ⟨bl_then hB.out HB4.out⟩
        have HIz := As.mk (HI4.out.below hB.out)
        have HRAz := As.mk (HRA4.out.below hB.out)
        have HOz := As.mk (HO4.out.below hB.out)
        have HXz := As.mk (HX4.out.below hB.out)
        have HRE := As.mk hre
        have hal := asc_length D i
        have hin : anyOut (i : Int) (asc D i) = false := by
          unfold anyOut
          rw [List.any_eq_false]
          intro x hx
          obtain ⟨_, j, hj, rfl⟩ := (asc_mem D i x).mp hx
          unfold outB
          simp only [Bool.or_eq_true, decide_eq_true_eq]
          omega
        obtain ⟨es, hes⟩ : ∃ es, asc D i = es := ⟨_, rfl⟩
        rw [hes] at HRE hal hin HFIX ⊢
        obtain ⟨ne, hne⟩ : ∃ ne, es.length = ne := ⟨_, rfl⟩
        have HDC := As.mk (fun w' r1 r2 => decodeK (K := K) par fst h1 h2 h3 (some ⟨gv, 0, none⟩) Ae cv ke i ne outS es HOL.out HPN.out HSZ.out hne (by omega) hin w' r1 r2)
        rw [hne] at hal ⊢
        have HRT : As (RdI wz (some ⟨ga, 0, none⟩) xs) := ⟨by rw [← HWS.out, ← HTK.out]; exact (HRAz.out.take N).toI⟩
        clear hwz hV hB HB4 HI4 HRA4 HO4 HX4 hre hes hne hin HOB4 hlt HDI
        have c0 := HIz.out.b.c0
        have c1' := HIz.out.b.c1
        have c2' := HIz.out.b.c2
        have c3' := HIz.out.b.c3
        have c4 := HIz.out.b.c4
        have c5 := HIz.out.c5
        have e8 := HHC.out
        go_wp2
        go_still_tail 18, (by kernel_rfl)
        change wpList _ _ _ _ _ wz.drew
        go_wp2_with fail
        refine (ints_two xs N HXN.out (by omega) _ _ _ _ _ (HRT.out.below (bl_drew (bl_refl _))) (HXz.out.below (bl_drew (bl_refl _)))).mono ?_
        rintro e w6 ⟨rfl, hb⟩
        have HB6 : As (Below w.heap.size w w6) := ⟨bl_then hb (bl_drew HBz.out)⟩
        have HI6 := As.mk ((HIz.out.below (bl_drew (bl_refl _))).below hb)
        have HRA6 := As.mk ((HRAz.out.below (bl_drew (bl_refl _))).below hb)
        have HO6 := As.mk ((HOz.out.below (bl_drew (bl_refl _))).below hb)
        have HRE6 := As.mk ((HRE.out.below (bl_drew (bl_refl _))).below hb)
        clear hb HBz HIz HRAz HOz HRE HRT HXz c0 c1' c2' c3' c4 c5 e8 g7 g8 g9 g10
        have c3' := HI6.out.b.c3
        by_cases hcap : par < cc
        · have g11 : decide ((par : Int) < (cc : Int)) = true := decide_eq_true (by omega)
          have g12 : decide (par < cc) = true := decide_eq_true hcap
          go_wp2_with fail
          refine (alive_any _).mono ?_
          rintro e w7 ⟨rfl, hb⟩
          go_wp2
          go_ret
          exact ⟨rfl, bl_then hb HB6.out⟩
        · have g11 : decide ((par : Int) < (cc : Int)) = false := decide_eq_false (by omega)
          have g12 : decide (par < cc) = false := decide_eq_false hcap
          have HDS : As (decL fst par outS (lostL es) = some aL) := ⟨HFIX.out (by omega)⟩
          have c0 := HI6.out.b.c0
          have c1' := HI6.out.b.c1
          have c2' := HI6.out.b.c2
          have c4 := HI6.out.b.c4
          go_wp2_with fail
          refine (HDC.out _ HO6.out HRE6.out).mono ?_
          rintro e w7 ⟨hres, hb⟩
          rcases hres with ⟨hno, _⟩ | ⟨out, v1, v2, hyes, rfl, ho1, ho2⟩
          · exfalso
            rw [HDS.out] at hno
            cases hno.out
          · obtain rfl : aL = out := Option.some.inj (HDS.out.symm.trans hyes.out)
            obtain ⟨q, hq⟩ : ∃ q, i = q + 1 := ⟨i - 1, by omega⟩
            obtain ⟨B1, k1, hv1, _⟩ := ho1.out.shape (HAL.out.trans hq)
            rw [← hq] at hv1
            subst hv1
            obtain ⟨B2, k2, hv2, _, hr2, _⟩ := ho2.out.read
            subst hv2
            obtain ⟨kc, hkc⟩ : ∃ kc, (chgL outS aL i).length = kc := ⟨_, rfl⟩
            have HKC := As.mk hkc
            rw [hkc]
            have HR2 := As.mk (hr2.below (bl_alloc (o := .cells #[.slice (some ⟨B1, 0, none⟩) i k1, .slice B2 kc k2] 47) (bl_refl _)))
            have HR1 := As.mk (ho1.out.rd.below (bl_alloc (o := .cells #[.slice (some ⟨B1, 0, none⟩) i k1, .slice B2 kc k2] 47) (bl_refl _)))
            have HRP := As.mk (rep_new w7 (.slice (some ⟨B1, 0, none⟩) i k1) (.slice B2 kc k2))
            have HRAb := As.mk ((HRA6.out.below hb).below (bl_alloc (o := .cells #[.slice (some ⟨B1, 0, none⟩) i k1, .slice B2 kc k2] 47) (bl_refl _)))
            have HOb := As.mk ((HO6.out.below hb).below (bl_alloc (o := .cells #[.slice (some ⟨B1, 0, none⟩) i k1, .slice B2 kc k2] 47) (bl_refl _)))
            have HBb : As (Below w.heap.size w (w7.alloc (.cells #[.slice (some ⟨B1, 0, none⟩) i k1, .slice B2 kc k2] 47))) := ⟨bl_alloc (bl_then hb HB6.out)⟩
            obtain ⟨Zr, hZr⟩ : ∃ Zr, w7.heap.size = Zr := ⟨_, rfl⟩
            rw [hZr] at HRP
            obtain ⟨wb, hwb⟩ : ∃ wb, w7.alloc (.cells #[.slice (some ⟨B1, 0, none⟩) i k1, .slice B2 kc k2] 47) = wb := ⟨_, rfl⟩
            rw [hwb] at HR2 HR1 HRP HRAb HOb HBb
            obtain ⟨E1, hE1⟩ : ∃ E1, wb.heap.size = E1 := ⟨_, rfl⟩
            have HE1 := As.mk hE1
            have HNE : As ((chgL outS aL i).length ≤ i) := ⟨chgL_length _ _ _⟩
            clear hE1 hb ho1 ho2 hr2 hkc hq HB6 HI6 HRA6 HO6 HRE6 HDC HDS HFIX c0 c1' c2' c3' c4 g1 g2 g3 g4 g11 g12 f1 f2 hyes
            go_wp2
            try rw [hwb]
            try rw [hZr]
            clear hwb hZr
            go_loopw [15, 116] (fun v x wr => ∃ j : Nat, x = .int .i64 j ∧ j ≤ i ∧ As (OwnI wr E1 v (chgL outS aL j)) ∧ As (Below wb.heap.size wb wr)) (fun _ x _ => i - (intOf x).toNat)
            case atStart => exact ⟨0, rfl, by omega, ⟨World.ownsRow_nil _ _ _ _⟩, ⟨bl_refl _⟩⟩
            case round =>
              obtain ⟨j, rfl, hj, hV, hBj⟩ := hrel
              by_cases hltj : j < i
              · have hdj : decide (j < i) = true := decide_eq_true hltj
                have p1 := rd0 (HOb.out.below hBj.out) (i := j) (by rw [HOL.out]; exact hltj)
                have p2 := rd0 (HRAb.out.below hBj.out) (i := j) (by rw [HAL.out]; exact hltj)
                obtain ⟨x, hx⟩ : ∃ x, val (atl outS j) = x := ⟨_, rfl⟩
                obtain ⟨y, hy⟩ : ∃ y, val (atl aL j) = y := ⟨_, rfl⟩
                rw [hx] at p1
                rw [hy] at p2
                have HLN : As ((chgL outS aL j).length < 1000000) := ⟨by have := chgL_length outS aL j; omega⟩
                by_cases hxy : x = y
                · have g5 : ((x : Int) == (y : Int)) = true := beq_iff_eq.mpr (by omega)
                  have g6 : ((x : Int) != (y : Int)) = false := by rw [bne, g5]; rfl
                  have HNX : As (chgL outS aL (j + 1) = chgL outS aL j) := ⟨by
                    have : atl outS j = atl aL j := val_inj (by rw [hx, hy]; exact hxy)
                    conv => lhs; unfold chgL
                    rw [if_neg (fun h => h this)]⟩
                  clear hx hy
                  go_wp2
                  refine wp_region_chain (fun w' => Below wr.heap.size wr w') [8] (by kernel_rfl) (by kernel_rfl) (by kernel_rfl) (by kernel_rfl) rfl (by kernel_rfl) (bl_drew (bl_refl _)) ?_
                  iterate 8 (apply OblH.val rfl; · (intro w' hS; have q1 := cell_below hS p1; have q2 := cell_below hS p2; go_simp; rfl))
                  refine OblH.skip rfl ?_
                  refine OblH.done (Chain.last rfl ?_)
                  go_wp2
                  refine onlyN.last rfl ?_
                  go_wp2
                  go_roundw
                  case rel => exact ⟨j + 1, by go_num, by omega, ⟨by rw [HNX.out]; exact hV.out.below (bl_drew (bl_refl _))⟩, ⟨bl_drew hBj.out⟩⟩
                  case measure => simp [intOf]; omega
                · have g5 : ((x : Int) == (y : Int)) = false := beq_eq_false_iff_ne.mpr (by omega)
                  have g6 : ((x : Int) != (y : Int)) = true := by rw [bne, g5]; rfl
                  have HNX : As (chgL outS aL (j + 1) = chgL outS aL j ++ [(j : Int)]) := ⟨by
                    have : atl outS j ≠ atl aL j := fun h => hxy (by rw [← hx, ← hy, h])
                    conv => lhs; unfold chgL
                    rw [if_pos this]⟩
                  clear hx hy
                  go_wp2
                  refine wp_region_chain (fun w' => Below wr.heap.size wr w') [8] (by kernel_rfl) (by kernel_rfl) (by kernel_rfl) (by kernel_rfl) rfl (by kernel_rfl) (bl_drew (bl_refl _)) ?_
                  iterate 8 (apply OblH.val rfl; · (intro w' hS; have q1 := cell_below hS p1; have q2 := cell_below hS p2; go_simp; rfl))
                  refine OblH.skip rfl ?_
                  refine OblH.done (Chain.last rfl ?_)
                  go_wp2
                  refine onlyN.last rfl ?_
                  have hB3 : As (Below wb.heap.size wb wr.drew) := ⟨bl_drew hBj.out⟩
                  have hV3 : As (OwnI wr.drew E1 u15 (chgL outS aL j)) := ⟨hV.out.below (bl_drew (bl_refl _))⟩
                  clear hV hBj p1 p2
                  go_wp2_with (at_builtin; refine appI _ rfl _ _ rfl E1 _ _ rfl (hV3.out.below (bl_alloc (bl_refl _))) wr.drew.heap.size 1 (j : Int) rfl (by simp [go_sem]) HLN.out (by have := hB3.out.size; have := HE1.out; simp at *; omega) ?_; intro v' w8 hown hb2)
                  go_roundw
                  case rel => exact ⟨j + 1, by go_num, by omega, ⟨by rw [HNX.out]; exact hown⟩, ⟨(bl_alloc hB3.out).trans (by rw [HE1.out]; exact hb2)⟩⟩
                  case measure => simp [intOf]; omega
              · have hdj : decide (j < i) = false := decide_eq_false hltj
                obtain rfl : j = i := by omega
                obtain ⟨Av, cv', rfl, _, hrv, _⟩ := hV.out.read
                rw [HKC.out]
                have HRV := As.mk hrv
                have HRP8 := As.mk (HRP.out.below hBj.out)
                have HR18 := As.mk (HR1.out.below hBj.out).toI
                have HR28 := As.mk (HR2.out.below hBj.out)
                have HRA8 := As.mk (HRAb.out.below hBj.out).toI
                have HB8 : As (Below w.heap.size w wr) := ⟨bl_then hBj.out HBb.out⟩
                have HIL : As ((ints aL).length = j) := ⟨by rw [ints_length]; exact HAL.out⟩
                have hkl : kc ≤ 1000000 := by have := HNE.out; have := HKC.out; omega
                clear hrv hV hBj HRP HR1 HR2 HRAb HOb HBb
                have r0 := HRP8.out.1
                go_wp2_with fail
                refine (ints_two (ints aL) j HIL.out (by omega) _ _ _ _ _ HR18.out HRA8.out).mono ?_
                rintro e w9 ⟨rfl, hb⟩
                have HB9 : As (Below w.heap.size w w9) := ⟨bl_then hb HB8.out⟩
                have r1 := (HRP8.out.below hb).2
                have HR29 := As.mk (HR28.out.below hb)
                have HRV9 := As.mk (HRV.out.below hb)
                clear hb HB8 HR28 HRV HR18 HRA8 r0
                go_wp2_with fail
                refine (ints_two (chgL outS aL j) kc HKC.out hkl _ _ _ _ _ HR29.out HRV9.out).mono ?_
                rintro e w10 ⟨rfl, hb⟩
                have HB10 : As (Below w.heap.size w w10) := ⟨bl_then hb HB9.out⟩
                clear hb HB9 r1
                go_wp2_with fail
                refine (alive_any _).mono ?_
                rintro e w11 ⟨rfl, hb⟩
                go_wp2
                go_ret
                exact ⟨rfl, bl_then hb HB10.out⟩
end
end Go.Proofs.Ythcjmmicjbfpgaa.Rs
