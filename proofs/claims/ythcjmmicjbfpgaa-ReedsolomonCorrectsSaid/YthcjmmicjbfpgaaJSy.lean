/-
The walks of the syndromes.
The walks of Generator, Encode and Syndromes at their edges.
The walk of Encode at data of a length that does not fit.
-/
import Derived.Test.YthcjmmicjbfpgaaJEv
import Derived.Test.YthcjmmicjbfpgaaJEn
namespace Go.Proofs.Ythcjmmicjbfpgaa.Rs
open Go.RowKit Go.Proofs.Ythcjmmicjbfpgaa.Alg
open GF
set_option linter.unusedSimpArgs false

theorem own_setCells {B g n c : Nat} (cs : List Value) : ∀ (w : World) (xs : List Value) (o : Nat), w.ownsRow B 3 1 (.slice (some ⟨g, 0, none⟩) n c) n xs → (w.setCells g o cs).ownsRow B 3 1 (.slice (some ⟨g, 0, none⟩) n c) n (setL xs o cs) := by
  induction cs with
  | nil => exact fun w xs o h => h
  | cons u cs ih => exact fun w xs o h => ih _ _ _ (h.stored o u).1
theorem OwnI.cells {w : World} {B g n c : Nat} {xs ys : List Int} (h : OwnI w B (.slice (some ⟨g, 0, none⟩) n c) xs) (hn : xs.length = n) (hl : ys.length = n) : OwnI (w.setCells g 0 (ys.map (Value.int .i64))) B (.slice (some ⟨g, 0, none⟩) n c) ys := by
  unfold OwnI at h ⊢
  rw [hn] at h
  have := own_setCells (ys.map (Value.int .i64)) w _ 0 h
  rw [setL_all _ _ (by simp [hl, hn])] at this
  rw [hl]
  exact this
theorem OwnI.frozen {w : World} {B g n c : Nat} {xs : List Int} (h : OwnI w B (.slice (some ⟨g, 0, none⟩) n c) xs) (hn : xs.length = n) (j : Nat) : w.frozen? ⟨g, j, none⟩ = false := by
  unfold OwnI at h
  rw [hn] at h
  exact World.ownsRow.frozenAt h j
theorem OwnI.drewN {w : World} {B q : Nat} {v : Value} {xs : List Int} (h : OwnI w B v xs) : OwnI (w.drewN q) B v xs := own_below h (bl_drewN (bl_refl _))
theorem OwnI.below {w w1 : World} {B : Nat} {v : Value} {xs : List Int} (h : OwnI w B v xs) (hb : Below w.heap.size w w1) : OwnI w1 B v xs := own_below h hb
theorem bl_drewB {w W : World} {B q : Nat} (h : Below B w W) : Below B w (W.drewN q) := ⟨h.os, h.tape, h.output, h.size, h.block⟩
theorem setCells_below {w W : World} {B b o : Nat} {cs : List Value} (h : Below B w W) (hb : B ≤ b) : Below B w (W.setCells b o cs) := by
  induction cs generalizing W o with
  | nil => exact h
  | cons c cs ih => exact ih (h.setCell (p := ⟨b, o, none⟩) hb c)

set_option maxRecDepth 100000 in
/-- slices.Reverse on a row of the call's own -/
theorem reverseI (B : Nat) (g n c : Nat) (xs : List Int) (w : World) (h : OwnI w B (.slice (some ⟨g, 0, none⟩) n c) xs) (hn : xs.length = n) (hl : n ≤ 1000000) :
    Calls Try.prog 67 #[.slice (some ⟨g, 0, none⟩) n c] w fun e w' => e = .returned (.tuple #[]) ∧ As (OwnI w' B (.slice (some ⟨g, 0, none⟩) n c) xs.reverse) ∧ Below B w w' := by
  have hB : B ≤ g := (own_block h rfl).1
  have hrd : RdI w (some ⟨g, 0, none⟩) xs := by
    obtain ⟨A, c', e, _, hr, _⟩ := h.read
    injection e with e1 e2 e3
    rw [e1]; exact hr
  refine (Try.slices_Reverse_int_cells g 0 n c xs w (by omega) (by omega) hrd.cells (fun j _ => by rw [Nat.zero_add]; exact h.frozen hn j)).mono ?_
  rintro e w' ⟨he, q, rfl⟩
  rw [← hn, List.take_length]
  refine ⟨he, ⟨?_⟩, setCells_below (bl_drewB (Below.refl B w)) hB⟩
  rw [hn]
  exact h.drewN.cells hn (by simp [hn])

section
variable {K : Type} [GF K]
theorem ints_reverse (xs : List K) : (ints xs).reverse = ints xs.reverse := by unfold ints; rw [List.map_reverse]
theorem reverseK (B : Nat) (g n c : Nat) (xs : List K) (w : World) (h : OwnK w B (.slice (some ⟨g, 0, none⟩) n c) xs) (hn : xs.length = n) (hl : n ≤ 1000000) :
    Calls Try.prog 67 #[.slice (some ⟨g, 0, none⟩) n c] w fun e w' => e = .returned (.tuple #[]) ∧ As (OwnK w' B (.slice (some ⟨g, 0, none⟩) n c) xs.reverse) ∧ Below B w w' := by
  refine (reverseI B g n c (ints xs) w (ownI_K.mpr h) (by rw [ints_length]; exact hn) hl).mono ?_
  rintro e w' ⟨he, h1, h2⟩
  refine ⟨he, ⟨?_⟩, h2⟩
  have := h1.out
  rw [ints_reverse] at this
  exact ownI_K.mp this

set_option maxRecDepth 100000 in
set_option maxHeartbeats 1600000 in
theorem syndromesK (g : Nat) (par fst : Nat) (hpar : par ≤ 5000) (hfst : fst ≤ 5000) (A : Option Addr) (cp n : Nat) (xs : List K) (hn : xs.length = n) (h0 : 0 < n) (hl : n ≤ 1000000) (w : World) (h : Arith K w g) (hr : RdK w A xs) :
    Calls Try.prog 41 #[.pointer (some ⟨g, 0, none⟩), .agg #[.int .i64 (ch K), .int .i64 (sz K), .int .i64 (po K), .int .i64 par, .int .i64 fst], .slice A n cp] w fun e w' =>
      ∃ v, e = .returned v ∧ As (OwnK w' w.heap.size v (synL fst par xs)) ∧ Below w.heap.size w w' := by
  have HA := As.mk h
  have HR := As.mk hr
  have HN := As.mk hn
  clear h hr hn
  go_enter Try.func41, Try.ntmps41
  have HX := As.mk (Box5.new (w := w) (x := ch K) (y := sz K) (z := po K) (u := par) (v := fst) (t := 25))
  have HB : As (Below w.heap.size w (w.alloc (.cells #[.int .i64 (ch K), .int .i64 (sz K), .int .i64 (po K), .int .i64 par, .int .i64 fst] 25))) := ⟨bl_alloc (bl_refl _)⟩
  go_wp2_with fail
  refine (cloneK (K := K) A n cp xs _ (HR.out.below HB.out) HN.out (by omega) h0).mono ?_
  rintro e wa ⟨vp, rfl, hcl, hba⟩
  obtain ⟨q, rfl⟩ : ∃ q, n = q + 1 := ⟨n - 1, by omega⟩
  obtain ⟨gp, cap, rfl, hgp⟩ := hcl.out.shape HN.out
  go_wp2_with fail
  refine (reverseK (K := K) _ gp (q + 1) cap xs _ hcl.out HN.out (by omega)).mono ?_
  rintro e wq ⟨rfl, hrv, hbb⟩
  have HB2 : As (Below (w.alloc (.cells #[.int .i64 (ch K), .int .i64 (sz K), .int .i64 (po K), .int .i64 par, .int .i64 fst] 25)).heap.size (w.alloc (.cells #[.int .i64 (ch K), .int .i64 (sz K), .int .i64 (po K), .int .i64 par, .int .i64 fst] 25)) wq) := ⟨hba.trans hbb⟩
  have HXq := As.mk (HX.out.below HB2.out)
  have HBq : As (Below w.heap.size w wq) := ⟨bl_then HB2.out HB.out⟩
  have HAq := As.mk (HA.out.below HBq.out)
  have HP := As.mk hrv.out.rd
  clear hba hbb hcl hrv HB HX HB2
  have c3 := HXq.out.c3
  have c4 := HXq.out.c4
  obtain ⟨L1, hL1⟩ : ∃ L1, wq.heap.size = L1 := ⟨_, rfl⟩
  have HL1 := As.mk hL1
  clear hL1
  go_wp2
  clear c3 c4
  go_loopw [8, 16] (fun v k wr => ∃ i : Nat, k = .int .i64 i ∧ i ≤ par ∧ As (OwnK wr L1 v (synL fst i xs)) ∧ As (Below wq.heap.size wq wr)) (fun _ k _ => par - (intOf k).toNat)
  case atStart => exact ⟨0, rfl, by omega, ⟨World.ownsRow_nil _ _ _ _⟩, ⟨bl_refl _⟩⟩
  case round =>
    obtain ⟨i, rfl, hi, hV, hB⟩ := hrel
    by_cases hlt : i < par
    · have hd : decide (i < par) = true := decide_eq_true hlt
      have c4 := (HXq.out.below hB.out).c4
      have e1 : IntKind.i64.wrap ((fst : Int) + (i : Int)) = (fst : Int) + (i : Int) := in64 (by omega) (by omega)
      have hpl : xs.reverse.length = q + 1 := by rw [List.length_reverse]; exact HN.out
      have HPL := As.mk hpl
      clear hpl
      go_wp2_with fail
      refine (powerK (K := K) g _ _ (HAq.out.below hB.out)).mono ?_
      rintro e wb ⟨rfl, hbb⟩
      have HBb : As (Below wq.heap.size wq wb) := ⟨bl_then hbb hB.out⟩
      have HVb := As.mk (hV.out.below hbb)
      clear hbb hB hV
      have hev := evalK (K := K) g xs.reverse (gz ((fst : Int) + (i : Int))) (some ⟨gp, 0, none⟩) cap wb (HAq.out.below HBb.out) (HP.out.below HBb.out) (by rw [HPL.out]; omega)
      rw [HPL.out] at hev
      have HEV := As.mk hev
      clear hev
      go_wp2_with fail
      refine HEV.out.mono ?_
      rintro e wc ⟨rfl, hbc⟩
      have HBc : As (Below wq.heap.size wq wc) := ⟨bl_then hbc HBb.out⟩
      have HVc := As.mk (HVb.out.below hbc)
      have HLN : As ((synL fst i xs).length < 1000000) := ⟨by rw [synL_length]; omega⟩
      clear hbc HBb HVb HEV
      go_wp2_with (at_builtin; refine appK (K := K) _ rfl _ _ rfl L1 _ _ rfl (HVc.out.below (bl_alloc (bl_refl _))) wc.heap.size 1 (ev (q + 1) (atl xs.reverse) (gz ((fst : Int) + (i : Int)))) rfl (by simp [go_sem]) HLN.out (by have := HBc.out.size; have := HL1.out; simp; omega) ?_; intro v' w2 hown hb2)
      go_roundw
      case rel => exact ⟨i + 1, by go_num, by omega, ⟨by rw [synL_succ, HN.out]; exact hown⟩, ⟨(bl_alloc HBc.out).trans (by rw [HL1.out]; exact hb2)⟩⟩
      case measure => simp [intOf]; omega
    · have hd : decide (i < par) = false := decide_eq_false hlt
      obtain rfl : i = par := by omega
      go_wp2
      go_ret
      exact ⟨_, rfl, ⟨hV.out.mono (by rw [← HL1.out]; exact HBq.out.size)⟩, bl_then hB.out HBq.out⟩
end
end Go.Proofs.Ythcjmmicjbfpgaa.Rs

namespace Go.Proofs.Ythcjmmicjbfpgaa.Rs
open Go.RowKit Go.Proofs.Ythcjmmicjbfpgaa.Alg
open GF
set_option linter.unusedSimpArgs false

theorem vld_nil (c s p par fst : Int) (w : World) :
    Calls Try.prog 30 #[.agg #[.int .i64 c, .int .i64 s, .int .i64 p, .int .i64 par, .int .i64 fst], .slice none 0 0] w fun e w' => e = .returned (.bool (vldB c s p par fst [])) ∧ Below w.heap.size w w' :=
  vld_any c s p par fst none 0 [] w RdI.nil (by simp)

set_option maxRecDepth 100000 in
set_option maxHeartbeats 800000 in
theorem generator_bad (c s p par fst : Int) (w : World) (h : vldB c s p par fst [] = false) :
    Calls Try.prog 12 #[.agg #[.int .i64 c, .int .i64 s, .int .i64 p, .int .i64 par, .int .i64 fst]] w fun e w' => e = .returned (.tuple #[.slice none 0 0, .int .i64 1]) ∧ Below w.heap.size w w' := by
  have HV := As.mk (vld_nil c s p par fst)
  rw [h] at HV
  clear h
  go_enter Try.func12, Try.ntmps12
  go_wp2_with fail
  refine (HV.out _).mono ?_
  rintro e w1 ⟨rfl, hb⟩
  go_wp2
  go_ret2
  exact ⟨rfl, bl_then hb (bl_alloc (bl_refl _))⟩

set_option maxRecDepth 100000 in
set_option maxHeartbeats 800000 in
theorem encode_bad (c s p par fst : Int) (A : Option Addr) (cp : Nat) (xs : List Int) (w : World) (hr : RdI w A xs) (hl : xs.length ≤ 100000) (h : vldB c s p par fst xs = false) :
    Calls Try.prog 16 #[.agg #[.int .i64 c, .int .i64 s, .int .i64 p, .int .i64 par, .int .i64 fst], .slice A xs.length cp] w fun e w' => e = .returned (.tuple #[.slice none 0 0, .int .i64 1]) ∧ Below w.heap.size w w' := by
  have HV := As.mk (fun w' hr' => vld_any c s p par fst A cp xs w' hr' (by omega))
  have HR := As.mk hr
  rw [h] at HV
  clear h hr
  go_enter Try.func16, Try.ntmps16
  go_wp2_with fail
  refine (HV.out _ (HR.out.below (bl_alloc (bl_refl _)))).mono ?_
  rintro e w1 ⟨rfl, hb⟩
  go_wp2
  go_ret2
  exact ⟨rfl, bl_then hb (bl_alloc (bl_refl _))⟩

set_option maxRecDepth 100000 in
set_option maxHeartbeats 800000 in
theorem syndromes_bad (c s p par fst : Int) (A : Option Addr) (cp : Nat) (xs : List Int) (w : World) (hr : RdI w A xs) (hl : xs.length ≤ 100000) (h : vldB c s p par fst xs = false) :
    Calls Try.prog 18 #[.agg #[.int .i64 c, .int .i64 s, .int .i64 p, .int .i64 par, .int .i64 fst], .slice A xs.length cp] w fun e w' => e = .returned (.tuple #[.slice none 0 0, .int .i64 1]) ∧ Below w.heap.size w w' := by
  have HV := As.mk (fun w' hr' => vld_any c s p par fst A cp xs w' hr' (by omega))
  have HR := As.mk hr
  rw [h] at HV
  clear h hr
  go_enter Try.func18, Try.ntmps18
  go_wp2_with fail
  refine (HV.out _ (HR.out.below (bl_alloc (bl_refl _)))).mono ?_
  rintro e w1 ⟨rfl, hb⟩
  go_wp2
  go_ret2
  exact ⟨rfl, bl_then hb (bl_alloc (bl_refl _))⟩

set_option maxRecDepth 100000 in
set_option maxHeartbeats 800000 in
theorem syndromes_length (c s p par fst : Int) (A : Option Addr) (cp : Nat) (xs : List Int) (w : World) (hr : RdI w A xs) (hl : xs.length ≤ 100000) (h : vldB c s p par fst xs = true) (hf : (decide (par < (xs.length : Int)) && decide ((xs.length : Int) < s)) = false) :
    Calls Try.prog 18 #[.agg #[.int .i64 c, .int .i64 s, .int .i64 p, .int .i64 par, .int .i64 fst], .slice A xs.length cp] w fun e w' => e = .returned (.tuple #[.slice none 0 0, .int .i64 7]) ∧ Below w.heap.size w w' := by
  have HV := As.mk (fun w' hr' => vld_any c s p par fst A cp xs w' hr' (by omega))
  have HF := As.mk (fits_any c s p par fst A xs.length cp)
  have HR := As.mk hr
  rw [h] at HV
  rw [hf] at HF
  clear h hr hf
  go_enter Try.func18, Try.ntmps18
  have HX := As.mk (Box5.new (w := w) (x := c) (y := s) (z := p) (u := par) (v := fst) (t := 25))
  go_wp2_with fail
  refine (HV.out _ (HR.out.below (bl_alloc (bl_refl _)))).mono ?_
  rintro e w1 ⟨rfl, hb⟩
  have hx := HX.out.below hb
  have c0 := hx.c0
  have c1 := hx.c1
  have c2 := hx.c2
  have c3 := hx.c3
  have c4 := hx.c4
  have HB : As (Below w.heap.size w w1) := ⟨bl_then hb (bl_alloc (bl_refl _))⟩
  clear hb hx
  go_wp2_with fail
  refine (HF.out _).mono ?_
  rintro e w2 ⟨rfl, hb2⟩
  go_wp2
  go_ret2
  exact ⟨rfl, bl_then hb2 HB.out⟩

section
variable {K : Type} [GF K]
set_option maxRecDepth 100000 in
set_option maxHeartbeats 800000 in
theorem generatorC (par fst : Nat) (h1 : 1 ≤ par) (h2 : par ≤ sz K - 2) (h3 : fst ≤ sz K - 2) (w : World) :
    Calls Try.prog 12 #[.agg #[.int .i64 (ch K), .int .i64 (sz K), .int .i64 (po K), .int .i64 par, .int .i64 fst]] w fun e w' =>
      ∃ L : Nat, e = .returned (.tuple #[.slice (some ⟨L, 0, none⟩) (par + 1) (par + 1), .int .i64 0]) ∧ As (RdK w' (some ⟨L, 0, none⟩) (genL K fst par)) ∧ Below w.heap.size w w' := by
  have hs := sz_two (K := K)
  have hs2 := sz_max (K := K)
  go_enter Try.func12, Try.ntmps12
  have HX := As.mk (Box5.new (w := w) (x := ch K) (y := sz K) (z := po K) (u := par) (v := fst) (t := 25))
  go_wp2_with fail
  refine (vldK (K := K) par fst h1 h2 h3 none 0 0 [] _ RdK.nil rfl (by omega)).mono ?_
  rintro e w1 ⟨rfl, hb⟩
  have HX1 := As.mk (HX.out.below hb)
  have HB : As (Below w.heap.size w w1) := ⟨bl_then hb (bl_alloc (bl_refl _))⟩
  have c0 := HX1.out.c0
  have c1 := HX1.out.c1
  have c2 := HX1.out.c2
  have c3 := HX1.out.c3
  have c4 := HX1.out.c4
  clear hb HX
  go_wp2
  go_region_with (first | (go_at_call 31; refine (tablesK (K := K) _).mono ?_; rintro e w2 ⟨g, rfl, hAr, hb⟩; have k0 := cell_below hb c0; have k1 := cell_below hb c1; have k2 := cell_below hb c2; have k3 := cell_below hb c3; have k4 := cell_below hb c4) | (go_at_call 32; refine (generatorAK (K := K) g par fst (by omega) (by omega) _ hAr).mono ?_; rintro e w3 ⟨L, rfl, hR, hb2⟩))
  all_goals
    go_wp2
    go_ret2
    exact ⟨L, rfl, hR, bl_then hb2 (bl_then hb (bl_drew HB.out))⟩

set_option maxRecDepth 100000 in
set_option maxHeartbeats 800000 in
theorem syndromesC (par fst : Nat) (h1 : 1 ≤ par) (h2 : par ≤ sz K - 2) (h3 : fst ≤ sz K - 2) (A : Option Addr) (cp : Nat) (xs : List K) (hx1 : par < xs.length) (hx2 : xs.length < sz K) (w : World) (hr : RdK w A xs) :
    Calls Try.prog 18 #[.agg #[.int .i64 (ch K), .int .i64 (sz K), .int .i64 (po K), .int .i64 par, .int .i64 fst], .slice A xs.length cp] w fun e w' =>
      ∃ v, e = .returned (.tuple #[v, .int .i64 0]) ∧ As (OwnK w' w.heap.size v (synL fst par xs)) ∧ Below w.heap.size w w' := by
  have hs := sz_two (K := K)
  have hs2 := sz_max (K := K)
  obtain ⟨n, hn⟩ : ∃ n, xs.length = n := ⟨_, rfl⟩
  have HN := As.mk hn
  have HR := As.mk hr
  have HV := As.mk (fun w' hr' => vldK (K := K) par fst h1 h2 h3 A n cp xs w' hr' hn (by omega))
  have HF := As.mk (fits_any (ch K) (sz K) (po K) par fst A n cp)
  rw [hn] at hx1 hx2 ⊢
  rw [decide_eq_true (show (par : Int) < (n : Int) by omega), decide_eq_true (show (n : Int) < (sz K : Int) by omega)] at HF
  clear hn hr
  go_enter Try.func18, Try.ntmps18
  have HX := As.mk (Box5.new (w := w) (x := ch K) (y := sz K) (z := po K) (u := par) (v := fst) (t := 25))
  go_wp2_with fail
  refine (HV.out _ (HR.out.below (bl_alloc (bl_refl _)))).mono ?_
  rintro e w1 ⟨rfl, hb⟩
  have HX1 := As.mk (HX.out.below hb)
  have HB : As (Below w.heap.size w w1) := ⟨bl_then hb (bl_alloc (bl_refl _))⟩
  have c0 := HX1.out.c0
  have c1 := HX1.out.c1
  have c2 := HX1.out.c2
  have c3 := HX1.out.c3
  have c4 := HX1.out.c4
  clear hb HX
  go_wp2_with fail
  refine (HF.out _).mono ?_
  rintro e w2 ⟨rfl, hb2⟩
  have HX2 := As.mk (HX1.out.below hb2)
  have HB2 : As (Below w.heap.size w w2) := ⟨bl_then hb2 HB.out⟩
  clear hb2 HX1 HB c0 c1 c2 c3 c4
  have c0 := HX2.out.c0
  have c1 := HX2.out.c1
  have c2 := HX2.out.c2
  have c3 := HX2.out.c3
  have c4 := HX2.out.c4
  go_wp2
  go_region_with (first | (go_at_call 31; refine (tablesK (K := K) _).mono ?_; rintro e w3 ⟨g, rfl, hAr, hb⟩; have k0 := cell_below hb c0; have k1 := cell_below hb c1; have k2 := cell_below hb c2; have k3 := cell_below hb c3; have k4 := cell_below hb c4) | (go_at_call 41; refine (syndromesK (K := K) g par fst (by omega) (by omega) A cp n xs HN.out (by omega) (by omega) _ hAr (HR.out.below (bl_then hb (bl_drew HB2.out)))).mono ?_; rintro e w4 ⟨v, rfl, hR, hb3⟩))
  all_goals
    go_wp2
    go_ret2
    exact ⟨v, rfl, ⟨hR.out.mono (by have h5 := HB2.out.size; have h6 := hb.size; simp at h6; omega)⟩, bl_then hb3 (bl_then hb (bl_drew HB2.out))⟩
end
end Go.Proofs.Ythcjmmicjbfpgaa.Rs

namespace Go.Proofs.Ythcjmmicjbfpgaa.Rs
open Go.RowKit Go.Proofs.Ythcjmmicjbfpgaa.Alg
open GF
set_option linter.unusedSimpArgs false

set_option maxRecDepth 100000 in
set_option maxHeartbeats 1600000 in
theorem encode_length (c s p par fst : Int) (hs1 : 2 ≤ s) (hs2 : s ≤ 4096) (hp1 : 1 ≤ par) (hp2 : par ≤ s - 2) (A : Option Addr) (cp : Nat) (xs : List Int) (w : World) (hr : RdI w A xs) (hl : xs.length ≤ 100000) (h : vldB c s p par fst xs = true) (hf : (xs.length : Int) < 1 ∨ s - 1 - par < (xs.length : Int)) :
    Calls Try.prog 16 #[.agg #[.int .i64 c, .int .i64 s, .int .i64 p, .int .i64 par, .int .i64 fst], .slice A xs.length cp] w fun e w' => e = .returned (.tuple #[.slice none 0 0, .int .i64 7]) ∧ Below w.heap.size w w' := by
  obtain ⟨n, hn⟩ : ∃ n, xs.length = n := ⟨_, rfl⟩
  have HV := As.mk (fun w' hr' => vld_any c s p par fst A cp xs w' hr' (by omega))
  have HR := As.mk hr
  rw [h, hn] at HV
  rw [hn] at hf hl ⊢
  have e1 : IntKind.i64.wrap (s - 1) = s - 1 := in64 (by omega) (by omega)
  have e2 : IntKind.i64.wrap (s - 1 - par) = s - 1 - par := in64 (by omega) (by omega)
  clear h hr hn
  by_cases h1 : (n : Int) < 1
  · have g1 : decide ((n : Int) < 1) = true := decide_eq_true h1
    clear hf
    go_enter Try.func16, Try.ntmps16
    go_wp2_with fail
    refine (HV.out _ (HR.out.below (bl_alloc (bl_refl _)))).mono ?_
    rintro e w1 ⟨rfl, hb⟩
    go_wp2
    go_ret2
    exact ⟨rfl, bl_then hb (bl_alloc (bl_refl _))⟩
  · have g1 : decide ((n : Int) < 1) = false := decide_eq_false h1
    have g2 : decide (s - 1 - par < (n : Int)) = true := decide_eq_true (by omega)
    clear hf
    go_enter Try.func16, Try.ntmps16
    have HX := As.mk (Box5.new (w := w) (x := c) (y := s) (z := p) (u := par) (v := fst) (t := 25))
    go_wp2_with fail
    refine (HV.out _ (HR.out.below (bl_alloc (bl_refl _)))).mono ?_
    rintro e w1 ⟨rfl, hb⟩
    have hx := HX.out.below hb
    have c1 := hx.c1
    have c3 := hx.c3
    clear hx
    go_wp2
    go_ret2
    exact ⟨rfl, bl_then hb (bl_alloc (bl_refl _))⟩
end Go.Proofs.Ythcjmmicjbfpgaa.Rs
