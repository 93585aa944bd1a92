/-
The walk of Decode at a word of a possible length.
-/
import Derived.Test.YthcjmmicjbfpgaaJLo
namespace Go.Proofs.Ythcjmmicjbfpgaa.Rs
open Go.RowKit Go.Proofs.Ythcjmmicjbfpgaa.Alg
open GF
set_option linter.unusedSimpArgs false

section
variable {K : Type} [GF K]
/-- what holds once the syndromes are known -/
structure DecS (K : Type) [GF K] (w : World) (Z g par fst n : Nat) (A Al : Option Addr) (As0 : Option Addr) (word s : List K) (lost : List Int) : Prop where
  d : DecI w Z (ch K) (sz K) (po K) par fst n
  ar : Arith K w g
  wd : RdK w A word
  lo : RdI w Al lost
  sy : RdK w As0 s
theorem DecS.below {w w1 : World} {Z g par fst n : Nat} {A Al As0 : Option Addr} {word s : List K} {lost : List Int} (h : DecS K w Z g par fst n A Al As0 word s lost) (hb : Below w.heap.size w w1) : DecS K w1 Z g par fst n A Al As0 word s lost :=
  ⟨h.d.below hb, h.ar.below hb, h.wd.below hb, h.lo.below hb, h.sy.below hb⟩

set_option maxRecDepth 100000 in
set_option maxHeartbeats 12800000 in
theorem decodeK (par fst : Nat) (h1 : 1 ≤ par) (h2 : par ≤ sz K - 2) (h3 : fst ≤ sz K - 2) (A A2 : Option Addr) (cp c2 n ne : Nat) (word : List K) (er : List Int) (hn : word.length = n) (hx1 : par < n) (hx2 : n < sz K) (hne : er.length = ne) (hne2 : ne ≤ 100000) (hin : anyOut (n : Int) er = false) (w : World) (hr : RdK w A word) (hr2 : RdI w A2 er) :
    Calls Try.prog 24 #[.agg #[.int .i64 (ch K), .int .i64 (sz K), .int .i64 (po K), .int .i64 par, .int .i64 fst], .slice A n cp, .slice A2 ne c2] w fun e w' =>
      ((As (decL fst par word (lostL er) = none) ∧ e = .returned (.tuple #[.agg #[.slice none 0 0, .slice none 0 0], .int .i64 17])) ∨
       (∃ out v1 v2, As (decL fst par word (lostL er) = some out) ∧ e = .returned (.tuple #[.agg #[v1, v2], .int .i64 0]) ∧ As (OwnK w' w.heap.size v1 out) ∧ As (OwnI w' w.heap.size v2 (chgL word out n)))) ∧ Below w.heap.size w w' := by
  have hs := sz_two (K := K)
  have hs2 := sz_max (K := K)
  have HR := As.mk hr
  have HR2 := As.mk hr2
  have HN := As.mk hn
  have HNE := As.mk hne
  have HIN := As.mk hin
  have HV := As.mk (fun w' hr' => vldK (K := K) par fst h1 h2 h3 A n cp word w' hr' hn (by omega))
  have HD := As.mk (DecI.new (w := w) (c := ch K) (s := sz K) (p := po K) (par := par) (fst := fst) (n := n) (t := 25) (u := 3))
  have hcc := fun g w' hr' hc' => cdecode_contains A2 c2 er (n : Int) g w' hr' (by omega) hc'
  rw [hin, hne] at hcc
  have HC := As.mk hcc
  have hff := fun w' => fits_any (ch K : Int) (sz K : Int) (po K : Int) par fst A n cp w'
  rw [decide_eq_true (show (par : Int) < (n : Int) by omega), decide_eq_true (show (n : Int) < (sz K : Int) by omega), Bool.true_and] at hff
  have HF := As.mk hff
  have hcl := fun w' hr' => cloneI A2 c2 er w' hr' (by omega) (fun _ => by cases A2 with | none => exact Or.inl rfl | some a => exact Or.inr ⟨a, rfl⟩)
  rw [hne] at hcl
  have HCL := As.mk hcl
  obtain ⟨lost, hlo⟩ : ∃ lost, lostL er = lost := ⟨_, rfl⟩
  have HLO := As.mk hlo
  have HLI : As (∀ i, i < lost.length → 0 ≤ lost.getD i 0 ∧ lost.getD i 0 < (n : Int)) := ⟨fun i hi => by rw [← hlo] at hi ⊢; exact lostL_in hin hi⟩
  have HLL : As (lost.length ≤ ne) := ⟨by rw [← hlo, ← hne]; exact lostL_length er⟩
  rw [hlo]
  clear hr hr2 hcc hff hcl hn hne hlo hin
  go_enter Try.func24, Try.ntmps24
  go_wp2_with fail
  refine (HV.out _ (HR.out.below (bl_alloc (bl_alloc (bl_alloc (bl_refl _)))))).mono ?_
  rintro e wa ⟨rfl, hb⟩
  have HB0 : As (Below w.heap.size w wa) := ⟨bl_then hb (bl_alloc (bl_alloc (bl_alloc (bl_refl _))))⟩
  have HDa := As.mk (HD.out.below hb)
  obtain ⟨Z, hZ⟩ : ∃ Z, w.heap.size = Z := ⟨_, rfl⟩
  rw [hZ] at HDa
  have HZW := As.mk hZ
  have HWa := As.mk (HR.out.below HB0.out)
  have HEa := As.mk (HR2.out.below HB0.out)
  have dn := HDa.out.n
  have c0 := HDa.out.b.c0
  have c1 := HDa.out.b.c1
  have c2' := HDa.out.b.c2
  have c3 := HDa.out.b.c3
  have c4 := HDa.out.b.c4
  clear hb HD HR HR2 HV
  rw [hZ]
  clear hZ
  go_wp2_with fail
  refine (HC.out _ _ HEa.out dn).mono ?_
  rintro e w2 ⟨rfl, rfl⟩
  go_wp2_with fail
  refine (HF.out _).mono ?_
  rintro e wb ⟨rfl, hb⟩
  have HB1 : As (Below w.heap.size w wb) := ⟨bl_then hb HB0.out⟩
  have HDb := As.mk (HDa.out.below hb)
  have HWb := As.mk (HWa.out.below hb)
  have HEb := As.mk (HEa.out.below hb)
  clear hb HB0 HDa HWa HEa HC HF dn c0 c1 c2' c3 c4
  have c0 := HDb.out.b.c0
  have c1 := HDb.out.b.c1
  have c2' := HDb.out.b.c2
  go_wp2_with fail
  refine (tablesK (K := K) _).mono ?_
  rintro e wc ⟨g, rfl, hAr, hb⟩
  have HAc := As.mk hAr
  have HB2 : As (Below w.heap.size w wc) := ⟨bl_then hb HB1.out⟩
  have HDc := As.mk (HDb.out.below hb)
  have HWc := As.mk (HWb.out.below hb)
  have HEc := As.mk (HEb.out.below hb)
  clear hb hAr HB1 HDb HWb HEb c0 c1 c2'
  go_wp2_with fail
  refine (HCL.out _ HEc.out).mono ?_
  rintro e wd ⟨v, rfl, hown, hb⟩
  obtain ⟨B0, hB0⟩ : ∃ B0, wc.heap.size = B0 := ⟨_, rfl⟩
  have HBB := As.mk hB0
  rw [hB0] at hown
  have HO1 := As.mk hown.out
  have HB3 : As (Below B0 wc wd) := ⟨by rw [← hB0]; exact hb⟩
  clear hb hown HCL HEc hB0
  go_wp2_with fail
  refine (sortI B0 v er _ HO1.out (by have := HNE.out; omega)).mono ?_
  rintro e wE ⟨rfl, hown, hb⟩
  have HO2 := As.mk hown.out
  have HB4 : As (Below B0 wc wE) := ⟨HB3.out.trans hb⟩
  clear hb hown HO1 HB3
  go_wp2_with fail
  refine (compactI B0 v (srtL er) _ HO2.out (by rw [srtL_length]; have := HNE.out; omega)).mono ?_
  rintro e wf ⟨vl, rfl, hown, hb⟩
  have hlo2 : Lib.compact (srtL er) = lost := HLO.out
  rw [hlo2] at hown
  obtain ⟨Al, cl, rfl, hlc, hlr, _⟩ := hown.out.read
  have HLf := As.mk hlr
  have HBf : As (Below wc.heap.size wc wf) := ⟨by rw [HBB.out]; exact HB4.out.trans hb⟩
  clear hb hown HO2 HB4 hlo2 hlr
  have HDf := As.mk (HDc.out.below HBf.out)
  have HWf := As.mk (HWc.out.below HBf.out)
  have HAf := As.mk (HAc.out.below HBf.out)
  have HB5 : As (Below w.heap.size w wf) := ⟨bl_then HBf.out HB2.out⟩
  clear HDc HWc HAc HBf HB2 HBB hlc
  obtain ⟨k, hk⟩ : ∃ k, lost.length = k := ⟨_, rfl⟩
  have HK := As.mk hk
  have HKN : As (k ≤ ne) := ⟨by rw [← hk]; exact HLL.out⟩
  rw [hk]
  clear hk
  have c3 := HDf.out.b.c3
  by_cases hkp : par < k
  · have g1 : decide (par < k) = true := decide_eq_true hkp
    have d0 := HDf.out.d0
    have d1 := HDf.out.d1
    have f0 := HDf.out.f0
    have f1 := HDf.out.f1
    have hno : As (decL fst par word lost = none) := ⟨by unfold decL; rw [if_pos (by rw [HK.out]; exact hkp)]⟩
    go_wp2
    exact bodyPost_ret (v := .tuple #[.agg #[.slice none 0 0, .slice none 0 0], .int .i64 17]) (by simp [results, Try.results24, go_sem, d0, d1]) rfl ⟨Or.inl ⟨hno, rfl⟩, by
      repeat (first | exact HB5.out | apply bl_drew | apply bl_alloc | apply bl_set (by have := HZW.out; show w.heap.size ≤ Z + 1; omega))⟩
  · have g1 : decide (par < k) = false := decide_eq_false hkp
    have c0 := HDf.out.b.c0
    have c1 := HDf.out.b.c1
    have c2' := HDf.out.b.c2
    have c4 := HDf.out.b.c4
    go_wp2_with fail
    refine (syndromesK (K := K) g par fst (by omega) (by omega) A cp n word HN.out (by omega) (by omega) _ HAf.out HWf.out).mono ?_
    rintro e wg ⟨vs, rfl, hown, hb⟩
    obtain ⟨s, hs'⟩ : ∃ s, synL fst par word = s := ⟨_, rfl⟩
    have HS := As.mk hs'
    rw [hs'] at hown
    obtain ⟨q, hq⟩ : ∃ q, par = q + 1 := ⟨par - 1, by omega⟩
    have HSL : As (s.length = par) := ⟨by rw [← hs']; exact synL_length _ _ _⟩
    obtain ⟨gs, cs, rfl, _⟩ := hown.out.shape (HSL.out.trans hq)
    have HX : As (DecS K wg Z g par fst n A Al (some ⟨gs, 0, none⟩) word s lost) := ⟨⟨HDf.out.below hb, HAf.out.below hb, HWf.out.below hb, HLf.out.below hb, hown.out.rd⟩⟩
    have HB6 : As (Below w.heap.size w wg) := ⟨bl_then hb HB5.out⟩
    rw [← hq]
    clear hb hown hs' HB5 HDf HAf HWf HLf c0 c1 c2' c3 c4 hq
    go_wp2
    have HG0 : As (OwnK (wg.alloc (.cells #[.int .i64 1] 3)) wg.heap.size (.slice (some ⟨wg.heap.size, 0, none⟩) 1 1) (gamL K n (lost.take 0))) := ⟨by
      have := World.ownsRow_lit (base := wg.heap.size) (e := 3) (size := 1) wg #[.int .i64 1] 1 (Nat.le_refl _) (by simp [maxLen]) rfl
      unfold OwnK gamL
      simp only [List.take_zero, List.foldl_nil, List.map_cons, List.map_nil, List.length_cons, List.length_nil, val_one]
      exact this⟩
    have HBg : As (Below wg.heap.size wg (wg.alloc (.cells #[.int .i64 1] 3))) := ⟨bl_alloc (bl_refl _)⟩
    obtain ⟨L0, hL0⟩ : ∃ L0, wg.heap.size = L0 := ⟨_, rfl⟩
    rw [hL0] at HG0
    have HL0 := As.mk hL0
    rw [HL0.out]
    clear hL0
    have hk4 : k ≤ 5000 := by omega
    go_loopw [12, 60] (fun v x wr => ∃ i L : Nat, v = .slice (some ⟨L, 0, none⟩) (i + 1) (i + 1) ∧ x = .int .i64 i ∧ i ≤ k ∧ As (OwnK wr L0 (.slice (some ⟨L, 0, none⟩) (i + 1) (i + 1)) (gamL K n (lost.take i))) ∧ As (Below wg.heap.size wg wr)) (fun _ x _ => k - (intOf x).toNat)
    case atStart => exact ⟨0, L0, rfl, rfl, by omega, HG0, HBg⟩
    case round =>
      clear HG0 HBg
      obtain ⟨i, L, rfl, rfl, hi, hG, hB⟩ := hrel
      by_cases hlt : i < k
      · have hd : decide (i < k) = true := decide_eq_true hlt
        have hx := HX.out.below hB.out
        obtain ⟨b, o, rfl, hcell⟩ := hx.lo i (by rw [HK.out]; exact hlt)
        have dn : wr.cell? ⟨Z + 1 + 1, 0, none⟩ = some (.int .i64 n) := hx.d.n
        have hbd := HLI.out i (by rw [HK.out]; exact hlt)
        have htk := gamL_take (K := K) (n := n) (l := lost) (i := i) (by rw [HK.out]; exact hlt)
        obtain ⟨x, hxx⟩ : ∃ x, lost.getD i 0 = x := ⟨_, rfl⟩
        rw [hxx] at hcell hbd htk
        have HTK := As.mk htk
        have f1 : IntKind.i64.wrap ((n : Int) - 1) = (n : Int) - 1 := in64 (by omega) (by omega)
        have f2 : IntKind.i64.wrap ((n : Int) - 1 - x) = (n : Int) - 1 - x := in64 (by omega) (by omega)
        have HA := As.mk hx.ar
        clear hx hxx htk
        go_wp2_with fail
        refine (powerK (K := K) g _ _ HA.out).mono ?_
        rintro e w1 ⟨rfl, hb⟩
        have HB1 : As (Below wg.heap.size wg w1) := ⟨bl_then hb hB.out⟩
        have HA1 := As.mk (HA.out.below hb)
        have HG1 := As.mk (hG.out.below hb)
        clear hb hB HA hG dn hcell
        obtain ⟨y, hy⟩ : ∃ y : K, gz ((n : Int) - 1 - x) = y := ⟨_, rfl⟩
        rw [hy] at HTK ⊢
        clear hy
        go_wp2_with fail
        refine (sub0K (K := K) g y _ HA1.out).mono ?_
        rintro e w2 ⟨rfl, hb⟩
        have HB2 : As (Below wg.heap.size wg w2) := ⟨bl_then hb HB1.out⟩
        have HA2 := As.mk (HA1.out.below hb)
        have HG2 := As.mk (HG1.out.below hb)
        clear hb HB1 HA1 HG1
        have hpr := productL (K := K) g (gamL K n (lost.take i)) [1, 0 - y] (some ⟨L, 0, none⟩) (some ⟨w2.heap.size, 0, none⟩) (i + 1) 2 (i + 1) 2 (w2.alloc (.cells #[.int .i64 1, .int .i64 (val (0 - y))] 3)) (HA2.out.below (bl_alloc (bl_refl _))) (HG2.out.below (bl_alloc (bl_refl _))).rd rd_12 (by rw [gamL_length, List.length_take, HK.out, Nat.min_eq_left (by omega)]) rfl (by omega) (by omega) (by omega) (by omega)
        rw [show i + 1 + 2 - 1 = i + 1 + 1 from rfl, ← HTK.out] at hpr
        have HPR := As.mk hpr
        clear hpr
        go_wp2_with fail
        refine HPR.out.mono ?_
        rintro e w3 ⟨L3, rfl, hown, hb⟩
        have HB3 : As (Below wg.heap.size wg w3) := ⟨bl_then hb (bl_alloc HB2.out)⟩
        have HG3 : As (OwnK w3 L0 (.slice (some ⟨L3, 0, none⟩) (i + 1 + 1) (i + 1 + 1)) (gamL K n (lost.take (i + 1)))) := ⟨hown.out.mono (by rw [← HL0.out]; have := HB2.out.size; simp; omega)⟩
        clear hb hown HPR HB2 HA2 HG2
        go_wp2
        go_roundw
        case rel => exact ⟨i + 1, L3, rfl, by go_num, by omega, HG3, HB3⟩
        case measure => simp [intOf]; omega
      · have hd : decide (i < k) = false := decide_eq_false hlt
        obtain rfl : i = k := by omega
        obtain ⟨ga, hga⟩ : ∃ ga, gamL K n lost = ga := ⟨_, rfl⟩
        have HGA := As.mk hga
        have hgl : ga.length = i + 1 := by rw [← hga, gamL_length, HK.out]
        have HGL := As.mk hgl
        have htk : gamL K n (lost.take i) = ga := by rw [← hga, ← HK.out, List.take_length]
        rw [htk] at hG
        obtain ⟨wz, hwz⟩ : ∃ wz, wr = wz := ⟨_, rfl⟩
        rw [hwz] at hG hB ⊢
        have HXz := As.mk (HX.out.below hB.out)
        have HRG := As.mk hG.out.rd
        have HBz : As (Below w.heap.size w wz) := ⟨bl_then hB.out HB6.out⟩
        obtain ⟨md, hmd⟩ : ∃ md, modL s ga = md := ⟨_, rfl⟩
        have HMD := As.mk hmd
        have HML : As (md.length = par - i) := ⟨by rw [← hmd, modL_length (by omega), HSL.out, hgl, Nat.add_sub_cancel]⟩
        clear hwz hG hB HX HB6 hga hgl htk
        have hmo := modifiedK (K := K) g s ga par i HSL.out HGL.out (by omega) (by omega) (by omega) (some ⟨gs, 0, none⟩) (some ⟨L, 0, none⟩) cs (i + 1) wz HXz.out.ar HXz.out.sy HRG.out
        rw [hmd] at hmo
        have HMO := As.mk hmo
        clear hmd hmo
        go_wp2_with fail
        refine HMO.out.mono ?_
        rintro e wy ⟨Am, cm, rfl, hrm, hb⟩
        have HXy := As.mk (HXz.out.below hb)
        have HRGy := As.mk (HRG.out.below hb)
        have HBy : As (Below w.heap.size w wy) := ⟨bl_then hb HBz.out⟩
        clear hb HXz HRG HBz HMO
        have hlc := locatorK (K := K) g md (by rw [HML.out]; omega) Am cm wy HXy.out.ar hrm.out
        rw [HML.out] at hlc
        have HLC := As.mk hlc
        clear hlc hrm
        go_wp2_with fail
        refine HLC.out.mono ?_
        rintro e wx ⟨Asg, csg, rfl, hrs, hcs, hb⟩
        have HXx := As.mk (HXy.out.below hb)
        have HRGx := As.mk (HRGy.out.below hb)
        have HBx : As (Below w.heap.size w wx) := ⟨bl_then hb HBy.out⟩
        clear hb HXy HRGy HBy HLC hcs
        obtain ⟨sg, hsg⟩ : ∃ sg, sigL md = sg := ⟨_, rfl⟩
        obtain ⟨sz', hsz⟩ : ∃ sz', sizL md = sz' := ⟨_, rfl⟩
        have hsp : 1 ≤ sg.length := by rw [← hsg]; exact sigL_pos md
        have hsl : sg.length ≤ par + 1 := by
          rw [← hsg, sigL_length]
          have := (runB_inv md md.length).lc
          have := trm_le (runB md md.length).c (runB md md.length).c.length
          have := HML.out
          omega
        have hszl : sz' ≤ par := by
          rw [← hsz]
          have := (runB_inv md md.length).inv.ln
          have := HML.out
          show (runB md md.length).l ≤ par
          omega
        rw [hsg] at hrs ⊢
        rw [hsz]
        have HSG := As.mk hsg
        have HSZ := As.mk hsz
        obtain ⟨m1, hm1⟩ : ∃ m1, sg.length = m1 := ⟨_, rfl⟩
        have HM1 := As.mk hm1
        rw [hm1] at hsp hsl ⊢
        clear hsg hsz hm1
        have c3 := HXx.out.d.b.c3
        have f1 : IntKind.i64.wrap (2 * (sz' : Int)) = 2 * (sz' : Int) := in64 (by omega) (by omega)
        have f2 : IntKind.i64.wrap (2 * (sz' : Int) + (i : Int)) = 2 * (sz' : Int) + (i : Int) := in64 (by omega) (by omega)
        have f3 : IntKind.i64.wrap ((m1 : Int) - 1) = (m1 : Int) - 1 := in64 (by omega) (by omega)
        by_cases hbad : par < 2 * sz' + i ∨ m1 ≠ sz' + 1
        · have hno : As (decL fst par word lost = none) := ⟨by
            unfold decL
            rw [HN.out, HS.out, HGA.out, HMD.out, HSZ.out, HSG.out, HK.out, HM1.out, if_neg hkp, if_pos hbad]⟩
          have d0 := HXx.out.d.d0
          have d1 := HXx.out.d.d1
          have f0 := HXx.out.d.f0
          have f1' := HXx.out.d.f1
          by_cases hb1 : par < 2 * sz' + i
          · have g2 : decide ((par : Int) < 2 * (sz' : Int) + (i : Int)) = true := decide_eq_true (by omega)
            go_wp2
            exact bodyPost_ret (v := .tuple #[.agg #[.slice none 0 0, .slice none 0 0], .int .i64 17]) (by simp [results, Try.results24, go_sem, d0, d1]) rfl ⟨Or.inl ⟨hno, rfl⟩, by
              repeat (first | exact HBx.out | apply bl_drew | apply bl_alloc | apply bl_set (by have := HZW.out; show w.heap.size ≤ Z + 1; omega))⟩
          · have g2 : decide ((par : Int) < 2 * (sz' : Int) + (i : Int)) = false := decide_eq_false (by omega)
            have g3 : ((m1 : Int) - 1 == (sz' : Int)) = false := beq_eq_false_iff_ne.mpr (by omega)
            have g4 : ((m1 : Int) - 1 != (sz' : Int)) = true := by rw [bne, g3]; rfl
            go_wp2
            exact bodyPost_ret (v := .tuple #[.agg #[.slice none 0 0, .slice none 0 0], .int .i64 17]) (by simp [results, Try.results24, go_sem, d0, d1]) rfl ⟨Or.inl ⟨hno, rfl⟩, by
              repeat (first | exact HBx.out | apply bl_drew | apply bl_alloc | apply bl_set (by have := HZW.out; show w.heap.size ≤ Z + 1; omega))⟩
        · have g2 : decide ((par : Int) < 2 * (sz' : Int) + (i : Int)) = false := decide_eq_false (by omega)
          have g3 : ((m1 : Int) - 1 == (sz' : Int)) = true := beq_iff_eq.mpr (by omega)
          have g4 : ((m1 : Int) - 1 != (sz' : Int)) = false := by rw [bne, g3]; rfl
          obtain ⟨lc, hlc⟩ : ∃ lc, mulL sg ga = lc := ⟨_, rfl⟩
          obtain ⟨m, hm⟩ : ∃ m, m1 + (i + 1) - 1 = m := ⟨_, rfl⟩
          have HLC := As.mk hlc
          have HLN : As (lc.length = m) := ⟨by rw [← hlc, mulL_length, HM1.out, HGL.out]; exact hm⟩
          have hpr := fun w' hA' h1' h2' => productL (K := K) g sg ga Asg (some ⟨L, 0, none⟩) m1 (i + 1) csg (i + 1) w' hA' h1' h2' HM1.out HGL.out (by omega) (by omega) (by omega) (by omega)
          rw [hlc, hm] at hpr
          have HPR := As.mk hpr
          have HCO := As.mk (fun w' (L' : Nat) hA' h1' h2' h3' => correctK (K := K) g par fst n m (by omega) (by omega) (by omega) word s lc HN.out (by omega) (by omega) HSL.out HLN.out (by omega) (by omega) A (some ⟨gs, 0, none⟩) (some ⟨L', 0, none⟩) cp cs m w' hA' h1' h2' h3')
          obtain ⟨R, hR⟩ : ∃ R, corS fst ((mulL s lc).take par) lc n word n = R := ⟨_, rfl⟩
          have HCP : As (∀ (w' : World) (L' : Nat), Arith K w' g → RdK w' A word → RdK w' (some ⟨gs, 0, none⟩) s → RdK w' (some ⟨L', 0, none⟩) lc →
              Calls Try.prog 53 #[.pointer (some ⟨g, 0, none⟩), .agg #[.int .i64 (ch K), .int .i64 (sz K), .int .i64 (po K), .int .i64 par, .int .i64 fst], .slice A n cp, .slice (some ⟨gs, 0, none⟩) par cs, .slice (some ⟨L', 0, none⟩) m m] w' fun e w'' =>
                ∃ v b, e = .returned (.tuple #[v, .bool b]) ∧ As ((∃ out f, R = some (out, f) ∧ b = decide (f + 1 = m) ∧ OwnK w'' w'.heap.size v out) ∨ (R = none ∧ b = false ∧ v = .slice none 0 0)) ∧ Below w'.heap.size w' w'') := ⟨fun w' L' a1 a2 a3 a4 => (HCO.out w' L' a1 a2 a3 a4).mono (by
            rintro e w'' ⟨h, hb⟩
            rcases h with ⟨out, f, v, k1, k2, k3⟩ | ⟨k1, k2⟩
            · exact ⟨v, _, k2, ⟨Or.inl ⟨out, f, hR.symm.trans k1.out, rfl, k3.out⟩⟩, hb⟩
            · exact ⟨_, _, k2, ⟨Or.inr ⟨hR.symm.trans k1.out, rfl, rfl⟩⟩, hb⟩)⟩
          have HRC := As.mk hR
          have HZX : As (Z + 1 < wx.heap.size) := ⟨blk_lt HXx.out.d.r⟩
          clear HCO
          have HDL : As (decL fst par word lost = finL fst par m word lost R) := ⟨by
            unfold decL
            rw [HN.out, HS.out, HGA.out, HMD.out, HSZ.out, HSG.out, HK.out, HM1.out, if_neg hkp, if_neg hbad, HLC.out, hR, HLN.out]⟩
          have hm20 : m ≤ 20000 := by omega
          clear hlc hm hpr hR hbad
          have HXd := As.mk (fun w' (h : Below wx.heap.size wx w') => HXx.out.below h)
          have HRS := As.mk (fun w' (h : Below wx.heap.size wx w') => hrs.out.below h)
          have HRG := As.mk (fun w' (h : Below wx.heap.size wx w') => HRGx.out.below h)
          have c0 := HXx.out.d.b.c0
          have c1 := HXx.out.d.b.c1
          have c2' := HXx.out.d.b.c2
          have c4 := HXx.out.d.b.c4
          obtain ⟨C0, hC0⟩ : ∃ C0, wx.heap.size = C0 := ⟨_, rfl⟩
          have HC0 := As.mk hC0
          clear hC0
          go_upto_region 22 with fail
          go_cut [17, 18] from 102 to 113 (fun v ok wr => As (Below wx.heap.size wx wr) ∧ ((∃ out f, As (R = some (out, f)) ∧ ok = .bool (decide (f + 1 = m)) ∧ As (OwnK wr C0 v out)) ∨ (As (R = none) ∧ ok = .bool false ∧ v = .slice none 0 0)))
          case first =>
            go_region_with (first
              | (refine (HPR.out _ (HXd.out _ (bl_drew (bl_refl _))).ar (HRS.out _ (bl_drew (bl_refl _))) (HRG.out _ (bl_drew (bl_refl _)))).mono ?_; rintro e w1 ⟨L', rfl, hownP, hbP⟩; have HBP : As (Below wx.heap.size wx w1) := ⟨bl_then hbP (bl_drew (bl_refl _))⟩; have HRP := As.mk hownP.out.rd; have k0 := cell_below HBP.out c0; have k1 := cell_below HBP.out c1; have k2 := cell_below HBP.out c2'; have k3 := cell_below HBP.out c3; have k4 := cell_below HBP.out c4; clear hownP hbP)
              | (refine (HCP.out _ _ (HXd.out _ HBP.out).ar (HXd.out _ HBP.out).wd (HXd.out _ HBP.out).sy HRP.out).mono ?_; rintro e w2 ⟨vo, bo, rfl, hO1, hbQ⟩))
            all_goals
              go_wp2_with fail
              go_meet
              refine ⟨⟨bl_then hbQ HBP.out⟩, ?_⟩
              rcases hO1.out with ⟨out, f, k1, rfl, k3⟩ | ⟨k1, rfl, rfl⟩
              · exact Or.inl ⟨out, f, ⟨k1⟩, rfl, ⟨k3.mono (by have := HBP.out.size; have := HC0.out; omega)⟩⟩
              · exact Or.inr ⟨⟨k1⟩, rfl, rfl⟩
          case rest =>
            obtain ⟨hBc, hres⟩ := hcut
            have HXc := As.mk (HXx.out.below hBc.out)
            have HBw : As (Below w.heap.size w wc) := ⟨bl_then hBc.out HBx.out⟩
            clear HXd HRS HRG HXx HRGx hrs HPR HCP c0 c1 c2' c3 c4
            have d0 := HXc.out.d.d0
            have d1 := HXc.out.d.d1
            have r0 := HXc.out.d.f0
            have r1 := HXc.out.d.f1
            have hZC : Z + 1 < C0 := by rw [← HC0.out]; have := hBc.out; exact HZX.out
            rcases hres with ⟨out, f, hR1, rfl, hO⟩ | ⟨hR1, rfl, rfl⟩
            · by_cases hf : f + 1 = m
              · rw [decide_eq_true hf]
                have hol : out.length = n := by
                  have := HRC.out
                  rw [hR1.out] at this
                  exact (corS_length this).1.trans HN.out
                have HOL := As.mk hol
                obtain ⟨q, hq⟩ : ∃ q, n = q + 1 := ⟨n - 1, by omega⟩
                obtain ⟨gp, cap, hsh, _⟩ := hO.out.shape (hol.trans hq)
                rw [← hq] at hsh
                subst hsh
                have HWI := As.mk (withinK (K := K) g par fst n i (by omega) (by omega) (by omega) word out lost HN.out hol (by omega) (by omega) HK.out (by omega) A (some ⟨gp, 0, none⟩) Al cp cap cl wc HXc.out.ar HXc.out.wd hO.out.rd HXc.out.lo)
                obtain ⟨wi, hwi⟩ : ∃ wi, witB fst par word out lost = wi := ⟨_, rfl⟩
                rw [hwi] at HWI
                have HWB := As.mk hwi
                have c0 := HXc.out.d.b.c0
                have c1 := HXc.out.d.b.c1
                have c2' := HXc.out.d.b.c2
                have c3 := HXc.out.d.b.c3
                have c4 := HXc.out.d.b.c4
                clear hwi hol hq
                go_wp2_with fail
                refine HWI.out.mono ?_
                rintro e wv ⟨rfl, hb⟩
                have HXv := As.mk (HXc.out.below hb)
                have HOv := As.mk (hO.out.below hb)
                have HBv : As (Below w.heap.size w wv) := ⟨bl_then hb HBw.out⟩
                clear hb HXc hO HBw HWI d0 d1 r0 r1 c0 c1 c2' c3 c4 hBc
                have d0 := HXv.out.d.d0
                have d1 := HXv.out.d.d1
                have r0 := HXv.out.d.f0
                have r1 := HXv.out.d.f1
                cases wi with
                | false =>
                  have hno : As (decL fst par word lost = none) := ⟨by rw [HDL.out, hR1.out]; exact if_neg (fun h => by rw [HWB.out] at h; cases h.2)⟩
                  go_wp2
                  exact bodyPost_ret (v := .tuple #[.agg #[.slice none 0 0, .slice none 0 0], .int .i64 17]) (by simp [results, Try.results24, go_sem, d0, d1]) rfl ⟨Or.inl ⟨hno, rfl⟩, by
                    repeat (first | exact HBv.out | apply bl_drew | apply bl_alloc | apply bl_set (by have := HZW.out; show w.heap.size ≤ Z + 1; omega))⟩
                | true =>
                  have hyes : As (decL fst par word lost = some out) := ⟨by rw [HDL.out, hR1.out]; exact if_pos ⟨hf, HWB.out⟩⟩
                  clear d0 d1 r0 r1
                  have HWv := As.mk HXv.out.wd
                  obtain ⟨B1, hB1⟩ : ∃ B1, wv.heap.size = B1 := ⟨_, rfl⟩
                  have HB1 := As.mk hB1
                  have HBv1 : As (Z + 1 < B1) := ⟨by rw [← hB1]; exact blk_lt HXv.out.d.r⟩
                  clear hB1
                  go_wp2
                  go_loopw [19, 128] (fun v x wr => ∃ j : Nat, x = .int .i64 j ∧ j ≤ n ∧ As (OwnI wr B1 v (chgL word out j)) ∧ As (Below wv.heap.size wv wr)) (fun _ x _ => n - (intOf x).toNat)
                  case atStart => exact ⟨0, rfl, by omega, ⟨World.ownsRow_nil _ _ _ _⟩, ⟨bl_refl _⟩⟩
                  case round =>
                    obtain ⟨j, rfl, hj, hV, hB⟩ := hrel
                    by_cases hltj : j < n
                    · have hdj : decide (j < n) = true := decide_eq_true hltj
                      obtain ⟨b, o, rfl, k1⟩ := HWv.out j (by rw [HN.out]; exact hltj)
                      have k2 := (HOv.out.cell HOL.out hltj).1
                      obtain ⟨x, hx⟩ : ∃ x, val (atl word j) = x := ⟨_, rfl⟩
                      obtain ⟨y, hy⟩ : ∃ y, val (atl out j) = y := ⟨_, rfl⟩
                      rw [hx] at k1
                      rw [hy] at k2
                      have HLN : As ((chgL word out j).length < 1000000) := ⟨by have := chgL_length word out j; omega⟩
                      by_cases hxy : x = y
                      · have g5 : ((x : Int) == (y : Int)) = true := beq_iff_eq.mpr (by omega)
                        have g6 : ((x : Int) != (y : Int)) = false := by rw [bne, g5]; rfl
                        have HNX : As (chgL word out (j + 1) = chgL word out j) := ⟨by
                          have : atl word j = atl out j := val_inj (by rw [hx, hy]; exact hxy)
                          conv => lhs; unfold chgL
                          rw [if_neg (fun h => h this)]⟩
                        clear hx hy
                        go_wp2
                        refine wp_region_chain (fun w' => Below wv.heap.size wv w') [8] (by kernel_rfl) (by kernel_rfl) (by kernel_rfl) (by kernel_rfl) rfl (by kernel_rfl) (bl_drew hB.out) ?_
                        iterate 8 (apply OblH.val rfl; · (intro w' hS; have q1 := cell_below hS k1; have q2 := cell_below hS k2; go_simp; rfl))
                        refine OblH.skip rfl ?_
                        refine OblH.done (Chain.last rfl ?_)
                        go_wp2
                        refine onlyN.last rfl ?_
                        go_wp2
                        go_roundw
                        case rel => exact ⟨j + 1, by go_num, by omega, ⟨by rw [HNX.out]; exact hV.out.below (bl_drew (bl_refl _))⟩, ⟨bl_drew hB.out⟩⟩
                        case measure => simp [intOf]; omega
                      · have g5 : ((x : Int) == (y : Int)) = false := beq_eq_false_iff_ne.mpr (by omega)
                        have g6 : ((x : Int) != (y : Int)) = true := by rw [bne, g5]; rfl
                        have HNX : As (chgL word out (j + 1) = chgL word out j ++ [(j : Int)]) := ⟨by
                          have : atl word j ≠ atl out j := fun h => hxy (by rw [← hx, ← hy, h])
                          conv => lhs; unfold chgL
                          rw [if_pos this]⟩
                        clear hx hy
                        go_wp2
                        refine wp_region_chain (fun w' => Below wv.heap.size wv w') [8] (by kernel_rfl) (by kernel_rfl) (by kernel_rfl) (by kernel_rfl) rfl (by kernel_rfl) (bl_drew hB.out) ?_
                        iterate 8 (apply OblH.val rfl; · (intro w' hS; have q1 := cell_below hS k1; have q2 := cell_below hS k2; go_simp; rfl))
                        refine OblH.skip rfl ?_
                        refine OblH.done (Chain.last rfl ?_)
                        go_wp2
                        refine onlyN.last rfl ?_
                        have hB3 : As (Below wv.heap.size wv wr.drew) := ⟨bl_drew hB.out⟩
                        have hV3 : As (OwnI wr.drew B1 u19 (chgL word out j)) := ⟨hV.out.below (bl_drew (bl_refl _))⟩
                        clear hV hB k1 k2
                        go_wp2_with (at_builtin; refine appI _ rfl _ _ rfl B1 _ _ rfl (hV3.out.below (bl_alloc (bl_refl _))) wr.drew.heap.size 1 (j : Int) rfl (by simp [go_sem]) HLN.out (by have := hB3.out.size; have := HB1.out; simp at *; omega) ?_; intro v' w3 hown hb2)
                        go_roundw
                        case rel => exact ⟨j + 1, by go_num, by omega, ⟨by rw [HNX.out]; exact hown⟩, ⟨(bl_alloc hB3.out).trans (by rw [HB1.out]; exact hb2)⟩⟩
                        case measure => simp [intOf]; omega
                    · have hdj : decide (j < n) = false := decide_eq_false hltj
                      obtain rfl : j = n := by omega
                      have HXr := As.mk (HXv.out.below hB.out)
                      have HOr := As.mk (HOv.out.below hB.out)
                      have d0 := HXr.out.d.d0
                      have d1 := HXr.out.d.d1
                      have r0 := HXr.out.d.f0
                      have r1 := HXr.out.d.f1
                      have hsz := blk_lt HXr.out.d.r
                      have HVr := As.mk hV.out
                      obtain ⟨Ac, cc, rfl, _⟩ := hV.out.read
                      clear HXr HOv HXv hV
                      go_wp2
                      exact bodyPost_ret (v := .tuple #[.agg #[.slice (some ⟨gp, 0, none⟩) j cap, .slice Ac (chgL word out j).length cc], .int .i64 0]) (by simp [results, Try.results24, go_sem, d0, d1]) rfl ⟨Or.inr ⟨out, _, _, hyes, rfl, ⟨((own_far (own_far HOr.out (show Z + 1 < C0 from hZC)) (show Z + 1 < C0 from hZC)).mono (by rw [← HC0.out]; exact HBx.out.size))⟩, ⟨((own_far (own_far HVr.out (show Z + 1 < B1 from by have := HBv1.out; omega)) (show Z + 1 < B1 from by have := HBv1.out; omega)).mono (by rw [← HB1.out]; exact HBv.out.size))⟩⟩, by
                        repeat (first | exact bl_then hB.out HBv.out | apply bl_drew | apply bl_alloc | apply bl_set (by have := HZW.out; show w.heap.size ≤ Z + 1; omega))⟩
              · rw [decide_eq_false hf]
                have hno : As (decL fst par word lost = none) := ⟨by rw [HDL.out, hR1.out]; exact if_neg (fun h => hf h.1)⟩
                go_wp2
                exact bodyPost_ret (v := .tuple #[.agg #[.slice none 0 0, .slice none 0 0], .int .i64 17]) (by simp [results, Try.results24, go_sem, d0, d1]) rfl ⟨Or.inl ⟨hno, rfl⟩, by
                  repeat (first | exact HBw.out | apply bl_drew | apply bl_alloc | apply bl_set (by have := HZW.out; show w.heap.size ≤ Z + 1; omega))⟩
            · have hno : As (decL fst par word lost = none) := ⟨by rw [HDL.out, hR1.out]; rfl⟩
              go_wp2
              exact bodyPost_ret (v := .tuple #[.agg #[.slice none 0 0, .slice none 0 0], .int .i64 17]) (by simp [results, Try.results24, go_sem, d0, d1]) rfl ⟨Or.inl ⟨hno, rfl⟩, by
                repeat (first | exact HBw.out | apply bl_drew | apply bl_alloc | apply bl_set (by have := HZW.out; show w.heap.size ≤ Z + 1; omega))⟩
end
end Go.Proofs.Ythcjmmicjbfpgaa.Rs
