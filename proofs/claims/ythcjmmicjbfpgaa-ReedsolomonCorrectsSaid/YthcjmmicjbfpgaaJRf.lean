/-
The walk of the reference's Encode.
-/
import Derived.Test.YthcjmmicjbfpgaaJRg
namespace Go.Proofs.Ythcjmmicjbfpgaa.Rs
open Go.RowKit Go.Proofs.Ythcjmmicjbfpgaa.Alg
open GF
set_option linter.unusedSimpArgs false

section
variable {K : Type} [GF K]
/-- append of a list to a row of the call's own -/
theorem appL {ops : Array Oper} {rest : List Oper} {o : Oper} {a : Act} {Q : Exit → Act → World → Prop} (w : World) (hgd : o.guard = none) (s x : Operand)
    (ho : o.op = .call { callee := .builtin .append, args := #[s, x], argTypes := #[30, 30] })
    (B : Nat) (v : Value) (ys : List K) (hs : a.eval s = v) (hown : OwnK w B v ys) (A : Option Addr) (n c : Nat) (xs : List K)
    (hx : a.eval x = .slice A n c) (hc : RdK w A xs) (hxn : xs.length = n) (h0 : 0 < n) (hn : ys.length + xs.length < 1000000) (hB : B ≤ w.heap.size)
    (h : ∀ v' w', OwnK w' B v' (ys ++ xs) → Below B w w' → wpList Try.prog ops Q rest (a.put o.dst v') w') : wpList Try.prog ops Q (o :: rest) a w := by
  obtain ⟨i0, hi, hz0, hz1, hz2⟩ := info_parts Try.infoI
  obtain ⟨b, of, rfl, _⟩ := hc 0 (by omega)
  refine wpList_append_own w hgd s x _ ho B 3 i0 (.int .i64 0) 1 8 Try.underlying30 hi hz0 hz1 hz2 rfl (by decide) v ys.length (ys.map (fun a => Value.int .i64 (val a))) hs hown ⟨b, of, none⟩ n c (xs.map (fun a => Value.int .i64 (val a))) hx (by simp [hxn]) ?_ ?_ ?_ ?_ hB
    (fun v' w' h1 h2 _ => h v' w' (by
      unfold OwnK
      rw [List.length_append, List.map_append, hxn]
      exact h1) ((Below.refl B w).grown h2 hB (fun k e => (own_block hown e).1)))
  · intro j u hj
    have hj2 : j < xs.length := by
      have := (List.getElem?_eq_some_iff.mp hj).1
      simpa using this
    obtain ⟨b', o', e, hcell⟩ := hc j hj2
    cases e
    rw [Addr.add_lit, hcell]
    rw [List.getElem?_map, List.getElem?_eq_getElem hj2] at hj
    cases hj
    have : atl xs j = xs[j] := by unfold atl; rw [List.getD_eq_getElem?_getD, List.getElem?_eq_getElem hj2]; rfl
    rw [this]
  · intro u hu
    obtain ⟨a, _, rfl⟩ := List.mem_map.mp hu
    rfl
  · simp [maxLen]; omega
  · first | omega | (simp; omega)

/-- append of one number, with what it leaves as it was -/
theorem appK2 {ops : Array Oper} {rest : List Oper} {o : Oper} {a : Act} {Q : Exit → Act → World → Prop} (w : World) (hgd : o.guard = none) (s x : Operand)
    (ho : o.op = .call { callee := .builtin .append, args := #[s, x], argTypes := #[30, 30] })
    (B : Nat) (v : Value) (ys : List K) (hs : a.eval s = v) (hown : OwnK w B v ys) (nb c : Nat) (y : K)
    (hx : a.eval x = .slice (some ⟨nb, 0, none⟩) 1 c) (hc : w.cell? ⟨nb, 0, none⟩ = some (.int .i64 (val y))) (hn : ys.length < 1000000) (hB : B ≤ w.heap.size)
    (h : ∀ v' w', OwnK w' B v' (ys ++ [y]) → w.grownBy w' v.ownBlock → (v'.ownBlock = v.ownBlock ∨ v'.ownBlock = some w.heap.size) → wpList Try.prog ops Q rest (a.put o.dst v') w') : wpList Try.prog ops Q (o :: rest) a w := by
  obtain ⟨i0, hi, hz0, hz1, hz2⟩ := info_parts Try.infoI
  refine wpList_append_own_at w hgd s x _ ho B 3 i0 (.int .i64 0) 1 8 Try.underlying30 hi hz0 hz1 hz2 rfl (by decide) v ys.length (ys.map (fun a => Value.int .i64 (val a))) hs hown ⟨nb, 0, none⟩ 1 c [.int .i64 (val y)] hx rfl ?_ ?_ ?_ ?_ hB
    (fun v' w' h1 h2 _ h4 => h v' w' (by
      unfold OwnK
      rw [List.length_append, List.map_append]
      exact h1) h2 h4)
  · intro j u hj
    have : j = 0 := by
      have := (List.getElem?_eq_some_iff.mp hj).1
      simp at this; omega
    subst this
    simp at hj
    subst hj
    exact hc
  · intro u hu
    simp at hu
    subst hu
    rfl
  · simp [maxLen]; omega
  · omega

/-- i symbols of a step's remainder have been reckoned, in place -/
def RemJ (g : List K) (n : Nat) (z : List K) (d : K) (i : Nat) (ys : List K) : Prop := ys.length = n ∧ ∀ k, k < n → atl ys k = if k < i then atl z (k + 1) - (d + atl z 0) * atl g (n - 1 - k) else atl z k
theorem RemJ.start {g z : List K} {n : Nat} {d : K} (hz : z.length = n) : RemJ g n z d 0 z := ⟨hz, fun k _ => by rw [if_neg (by omega)]⟩
theorem RemJ.step {g z ys : List K} {n i : Nat} {d : K} (h : RemJ g n z d i ys) (hi : i < n) : RemJ g n z d (i + 1) (ys.set i (atl z (i + 1) - (d + atl z 0) * atl g (n - 1 - i))) := by
  refine ⟨by rw [List.length_set]; exact h.1, fun k hk => ?_⟩
  by_cases e : k = i
  · subst e
    rw [atl_set_self (by rw [h.1]; exact hk), if_pos (by omega)]
  · rw [atl_set_ne (fun h => e h.symm), h.2 k hk]
    by_cases c : k < i
    · rw [if_pos c, if_pos (by omega)]
    · rw [if_neg c, if_neg (by omega)]
theorem RemJ.next {g z ys : List K} {n i : Nat} {d : K} (h : RemJ g n z d i ys) (hi : i + 1 < n) : atl ys (i + 1) = atl z (i + 1) := by
  rw [h.2 _ hi, if_neg (by omega)]
theorem RemJ.last {g z ys : List K} {n : Nat} {d : K} (h : RemJ g n z d n ys) : ys = remS g n z d :=
  atl_ext (by rw [h.1, remS_length]) (fun k hk => by
    have hk' : k < n := by rw [← h.1]; exact hk
    rw [h.2 k hk', if_pos hk']
    unfold remS
    rw [atl_map_range _ hk'])

set_option maxRecDepth 100000 in
set_option maxHeartbeats 6400000 in
theorem encode7K (par fst : Nat) (h1 : 1 ≤ par) (h2 : par ≤ sz K - 2) (h3 : fst ≤ sz K - 2) (A : Option Addr) (cp : Nat) (xs : List K) (hx1 : 1 ≤ xs.length) (hx2 : xs.length ≤ sz K - 1 - par) (w : World) (hr : RdK w A xs) :
    Calls Try.prog 17 #[.agg #[.int .i64 (ch K), .int .i64 (sz K), .int .i64 (po K), .int .i64 par, .int .i64 fst], .slice A xs.length cp] w fun e w' =>
      ∃ v, e = .returned (.tuple #[v, .int .i64 0]) ∧ As (OwnK w' w.heap.size v (encL (genL K fst par) par xs)) ∧ Below w.heap.size w w' := by
  have hs := sz_two (K := K)
  have hs2 := sz_max (K := K)
  have HR := As.mk hr
  have HS2 := As.mk hs2
  have HV := As.mk (valid7K (K := K) h1 h2 h3)
  clear hr
  obtain ⟨N, hN⟩ : ∃ N, xs.length = N := ⟨_, rfl⟩
  have HN := As.mk hN
  rw [hN] at hx1 hx2 ⊢
  clear hN
  obtain ⟨q, rfl⟩ : ∃ q, par = q + 1 := ⟨par - 1, by omega⟩
  have g1 : decide ((N : Int) < 1) = false := decide_eq_false (by omega)
  have g2 : decide ((sz K : Int) - 1 - ((q + 1 : Nat) : Int) < (N : Int)) = false := decide_eq_false (by omega)
  have e1 : IntKind.i64.wrap ((sz K : Int) - 1) = (sz K : Int) - 1 := in64 (by omega) (by omega)
  have e2 : IntKind.i64.wrap ((sz K : Int) - 1 - ((q + 1 : Nat) : Int)) = (sz K : Int) - 1 - ((q + 1 : Nat) : Int) := in64 (by omega) (by omega)
  have hmk : ∀ w : World, (Instr.makeSlice 30 (.int .i64 ((q : Int) + 1)) (.int .i64 ((q : Int) + 1))).run Try.prog w = .ok (.slice (some ⟨w.heap.size, 0, none⟩) (q + 1) (q + 1)) (w.alloc (.cells (zeros (q + 1)) 3)) := fun w => mk_ints (n := q + 1) (by omega) w
  obtain ⟨gn, hgn⟩ : ∃ gn, genL K fst (q + 1) = gn := ⟨_, rfl⟩
  have HGN := As.mk hgn
  have HGL : As (gn.length = q + 1 + 1) := ⟨by rw [← hgn]; exact genL_length _ _⟩
  rw [hgn]
  clear hgn
  go_enter Try.func17, Try.ntmps17
  have HX := As.mk (Box5.new (w := w) (x := ch K) (y := sz K) (z := po K) (u := (q + 1 : Nat)) (v := fst) (t := 25))
  have HB : As (Below w.heap.size w (w.alloc (.cells #[.int .i64 (ch K), .int .i64 (sz K), .int .i64 (po K), .int .i64 (q + 1 : Nat), .int .i64 fst] 25))) := ⟨bl_alloc (bl_refl _)⟩
  go_wp2_with fail
  refine (HV.out _).mono ?_
  rintro e wa ⟨rfl, hba⟩
  have HXa := As.mk (HX.out.below hba)
  have HBa : As (Below w.heap.size w wa) := ⟨bl_then hba HB.out⟩
  have c0 := HXa.out.c0
  have c1 := HXa.out.c1
  have c2 := HXa.out.c2
  clear hba HX HB HV
  go_wp2_with fail
  refine (elements7K (K := K) A N cp xs _ (HR.out.below HBa.out) HN.out (by omega)).mono ?_
  rintro e wb ⟨rfl, hbb⟩
  have HXb := As.mk (HXa.out.below hbb)
  have HBb : As (Below w.heap.size w wb) := ⟨bl_then hbb HBa.out⟩
  clear hbb HXa HBa c0 c1 c2
  have c0 := HXb.out.c0
  have c1 := HXb.out.c1
  have c2 := HXb.out.c2
  have c3 := HXb.out.c3
  have c4 := HXb.out.c4
  go_wp2_with fail
  refine (generator7K (K := K) (q + 1) fst (by omega) (by omega) (by omega) _).mono ?_
  rintro e wq ⟨Lg, rfl, hG, hbc⟩
  have HXc := As.mk (HXb.out.below hbc)
  have HBc : As (Below w.heap.size w wq) := ⟨bl_then hbc HBb.out⟩
  clear hbc HXb HBb c0 c1 c2 c3 c4
  rw [HGN.out] at hG
  obtain ⟨L1, hL1⟩ : ∃ L1, wq.heap.size = L1 := ⟨_, rfl⟩
  have HL1 := As.mk hL1
  clear hL1
  have HN0 : As (0 < N) := ⟨by omega⟩
  have HN9 : As (N < 5000) := ⟨by omega⟩
  have HXf := As.mk (fun w2 (hb2 : Below L1 wq w2) => (HXc.out.below (by rw [HL1.out]; exact hb2)).c3)
  go_wp2_with (at_builtin; refine appL (K := K) _ rfl _ _ rfl L1 _ [] rfl (World.ownsRow_nil _ _ _ _) A N cp xs rfl (HR.out.below HBc.out) HN.out HN0.out (by have := HN9.out; have := HN.out; simp; omega) (by have := HL1.out; omega) ?_; intro v' w2 hown hb2; have c3 := HXf.out w2 hb2)
  rw [List.nil_append] at hown
  have HO1 := As.mk hown
  have HBd : As (Below wq.heap.size wq w2) := ⟨by rw [HL1.out]; exact hb2⟩
  clear hown hb2 c3 HXf
  have HO : As (OwnK (w2.alloc (.cells (zeros (q + 1)) 3)) L1 (.slice (some ⟨w2.heap.size, 0, none⟩) (q + 1) (q + 1)) (List.replicate (q + 1) (0 : K))) := ⟨by
    have := zeros_own (W := w2) (B := w2.heap.size) (n := q + 1) (Nat.le_refl _) (by have := HS2.out; omega)
    rw [zeros_K (K := K)] at this
    unfold OwnK
    rw [List.length_replicate]
    exact this.mono (by rw [← HL1.out]; exact HBd.out.size)⟩
  have HBe : As (Below w2.heap.size w2 (w2.alloc (.cells (zeros (q + 1)) 3))) := ⟨bl_alloc (bl_refl _)⟩
  have HO2 : As (OwnK (w2.alloc (.cells (zeros (q + 1)) 3)) w2.heap.size (.slice (some ⟨w2.heap.size, 0, none⟩) (q + 1) (q + 1)) (List.replicate (q + 1) (0 : K))) := ⟨by
    have := zeros_own (W := w2) (B := w2.heap.size) (n := q + 1) (Nat.le_refl _) (by have := HS2.out; omega)
    rw [zeros_K (K := K)] at this
    unfold OwnK
    rw [List.length_replicate]
    exact this⟩
  have HXz := As.mk (HXc.out.below HBd.out)
  have HRz := As.mk ((HR.out.below HBc.out).below HBd.out)
  have HGz := As.mk (hG.out.below HBd.out)
  have HBz : As (Below w.heap.size w w2) := ⟨bl_then HBd.out HBc.out⟩
  have HNB : As (∀ k, v'.ownBlock = some k → k < w2.heap.size) := ⟨fun k hk => (own_block HO1.out hk).2⟩
  obtain ⟨L, hL⟩ : ∃ L, w2.heap.size = L := ⟨_, rfl⟩
  rw [hL] at HNB
  have HL := As.mk hL
  have HL2 : As (L1 ≤ L) := ⟨by rw [← hL, ← HL1.out]; exact HBd.out.size⟩
  rw [hL] at HO2
  have HBd' := As.mk HBd.out
  clear HO HBd hG HR hL
  clear e1 e2 g1 g2 hmk
  rw [HL.out]
  go_loopw [9] (fun k wr => ∃ m : Nat, k = .int .i64 m ∧ m ≤ N ∧ As (OwnK wr L (.slice (some ⟨L, 0, none⟩) (q + 1) (q + 1)) (remL gn (q + 1) (xs.take m))) ∧ As (Below w2.heap.size w2 wr)) (fun k _ => N - (intOf k).toNat)
  case atStart => exact ⟨0, rfl, by omega, HO2, HBe⟩
  case round =>
    clear HO2 HBe
    obtain ⟨m, rfl, hm, hO, hB⟩ := hrel
    by_cases hlt : m < N
    · have hd : decide (m < N) = true := decide_eq_true hlt
      obtain ⟨b, o, rfl, hc⟩ := (HRz.out.below hB.out) m (by have := HN.out; omega)
      obtain ⟨zs, hzs⟩ : ∃ zs, remL gn (q + 1) (xs.take m) = zs := ⟨_, rfl⟩
      have HZS := As.mk hzs
      rw [hzs] at hO
      have HZL : As (zs.length = q + 1) := ⟨by rw [← hzs]; exact remL_length _ _ _⟩
      clear hzs
      obtain ⟨k0, f0⟩ := hO.out.cell HZL.out (j := 0) (by omega)
      have c0 := (HXz.out.below hB.out).c0
      have c1 := (HXz.out.below hB.out).c1
      have c2 := (HXz.out.below hB.out).c2
      go_wp2
      refine wp_region_chain (fun w' => Below wr.heap.size wr w') [9, 10] (by kernel_rfl) (by kernel_rfl) (by kernel_rfl) (by kernel_rfl) rfl (by kernel_rfl) (bl_drew (bl_refl _)) ?_
      iterate 9 (apply OblH.val rfl; · (intro w' hS; have q0 := cell_below hS c0; have q1 := cell_below hS c1; have q2 := cell_below hS c2; have q3 := cell_below hS hc; have q4 := cell_below hS k0; go_simp; rfl))
      iterate 2 (refine OblH.skip rfl ?_)
      refine OblH.done (Chain.step rfl ?_)
      go_wp2_with fail
      refine (plus4K (K := K) (atl xs m) (atl zs 0) _).mono ?_
      rintro e w3 ⟨rfl, hb⟩
      have HB1 : As (Below wr.heap.size wr w3) := ⟨bl_then hb (bl_drew (bl_refl _))⟩
      clear hb c0 c1 c2 k0 f0 hc
      go_wp2
      refine onlyN.next rfl HB1.out (Chain.last rfl ?_)
      go_wp2
      refine onlyN.last rfl ?_
      have HO3 := As.mk (hO.out.below HB1.out)
      have HB3 : As (Below w2.heap.size w2 w3) := ⟨bl_then HB1.out hB.out⟩
      clear HB1 hO hB
      go_wp2
      go_loopw [11] (fun i wr => ∃ j : Nat, i = .int .i64 j ∧ j ≤ q + 1 ∧ As (∃ ys, RemJ gn (q + 1) zs (atl xs m) j ys ∧ OwnK wr L (.slice (some ⟨L, 0, none⟩) (q + 1) (q + 1)) ys) ∧ As (Below w2.heap.size w2 wr)) (fun i _ => q + 1 - (intOf i).toNat)
      case atStart => exact ⟨0, rfl, by omega, ⟨_, RemJ.start HZL.out, HO3.out⟩, HB3⟩
      case round =>
        clear HO3 HB3
        obtain ⟨j, rfl, hj, hO, hB⟩ := hrel
        have c3 := (HXz.out.below hB.out).c3
        by_cases hlt2 : j < q + 1
        · have hd2 : decide (j < q + 1) = true := decide_eq_true hlt2
          obtain ⟨ys, hI, hown⟩ := hO.out
          have HI := As.mk hI
          have HOW := As.mk hown
          clear hI hown hO
          obtain ⟨hc1, hf1⟩ := HOW.out.cell HI.out.1 (j := j) hlt2
          obtain ⟨r, hr⟩ : ∃ r, q + 1 - 1 - j = r := ⟨_, rfl⟩
          have HRR := As.mk hr
          have hcg := rd0 (HGz.out.below hB.out).rd (i := r) (by have := HGL.out; omega)
          have e3 : (q : Int) - (j : Int) = (r : Int) := by omega
          have e4 : IntKind.i64.wrap (q : Int) = (q : Int) := in64 (by omega) (by have := HS2.out; omega)
          have e5 : IntKind.i64.wrap (r : Int) = (r : Int) := in64 (by omega) (by have := HS2.out; omega)
          have e6 : IntKind.i64.wrap ((j : Int) + 1) = (j : Int) + 1 := in64 (by omega) (by have := HS2.out; omega)
          have g5 : (r : Int) < (q : Int) + 1 + 1 := by omega
          clear hr
          have c0 := (HXz.out.below hB.out).c0
          have c1 := (HXz.out.below hB.out).c1
          have c2 := (HXz.out.below hB.out).c2
          obtain ⟨nx, hnx⟩ : ∃ nx : K, atl zs (j + 1) = nx := ⟨_, rfl⟩
          have HNX := As.mk hnx
          by_cases hj1 : j < q
          · have g6 : decide (j < q) = true := decide_eq_true hj1
            have g7 : (j : Int) + 1 < (q : Int) + 1 := by omega
            have hc4 := (HOW.out.cell HI.out.1 (j := j + 1) (by omega)).1
            rw [HI.out.next (by omega), hnx] at hc4
            have HM := As.mk (fun b w => minus4K (K := K) nx b w)
            clear hnx
            go_wp2
            refine wp_region_chain (fun w' => Below wr.heap.size wr w') [16, 17, 18, 19] (by kernel_rfl) (by kernel_rfl) (by kernel_rfl) (by kernel_rfl) rfl (by kernel_rfl) (bl_drew (bl_refl _)) ?_
            iterate 16 (apply OblH.val rfl; · (intro w' hS; have q0 := cell_below hS c0; have q1 := cell_below hS c1; have q2 := cell_below hS c2; have q3 := cell_below hS c3; have q4 := cell_below hS hcg; go_simp; rfl))
            iterate 4 (refine OblH.skip rfl ?_)
            refine OblH.done (Chain.step rfl ?_)
            go_wp2_with fail
            refine (times4K (K := K) (atl xs m + atl zs 0) (atl gn r) _).mono ?_
            rintro e w1 ⟨rfl, hb⟩
            go_wp2
            refine onlyN.next rfl (bl_then hb (bl_drew (bl_refl _))) (Chain.step rfl ?_)
            go_wp2_with fail
            refine (HM.out ((atl xs m + atl zs 0) * atl gn r) _).mono ?_
            rintro e w4 ⟨rfl, hb2⟩
            have HB2 : As (Below wr.heap.size wr w4) := ⟨bl_then hb2 (bl_then hb (bl_drew (bl_refl _)))⟩
            obtain ⟨q5, q6⟩ := keep_cf HB2.out ⟨hc1, hf1⟩
            clear hb hb2 c0 c1 c2 c3 hcg hc1 hf1 hc4
            go_wp2
            refine onlyN.next rfl HB2.out (Chain.step rfl ?_)
            go_wp2
            refine onlyN.next rfl HB2.out (Chain.last rfl ?_)
            go_wp2
            refine onlyN.last rfl ?_
            go_wp2
            go_roundw
            case rel => exact ⟨j + 1, by go_num, by omega, ⟨_, by rw [← HRR.out, ← HNX.out]; exact HI.out.step hlt2, (HOW.out.below HB2.out).put HI.out.1 j _⟩, ⟨bl_set (by have := HL.out; show w2.heap.size ≤ L; omega) (bl_then HB2.out hB.out)⟩⟩
            case measure => simp [intOf]; omega
          · have g6 : decide (j < q) = false := decide_eq_false hj1
            have hn0 : nx = 0 := by rw [← hnx]; exact atl_out (by have := HZL.out; omega)
            have HM : As (∀ b w, Calls Try.prog 39 #[.agg #[.int .i64 (ch K), .int .i64 (sz K), .int .i64 (po K)], .int .i64 0, .int .i64 (val b)] w fun e w' => e = .returned (.int .i64 (val (nx - b))) ∧ Below w.heap.size w w') := ⟨fun b w => by rw [hn0]; exact minus40K (K := K) b w⟩
            clear hnx hn0
            go_wp2
            refine wp_region_chain (fun w' => Below wr.heap.size wr w') [16, 17, 18, 19] (by kernel_rfl) (by kernel_rfl) (by kernel_rfl) (by kernel_rfl) rfl (by kernel_rfl) (bl_drew (bl_refl _)) ?_
            iterate 16 (apply OblH.val rfl; · (intro w' hS; have q0 := cell_below hS c0; have q1 := cell_below hS c1; have q2 := cell_below hS c2; have q3 := cell_below hS c3; have q4 := cell_below hS hcg; go_simp; rfl))
            iterate 4 (refine OblH.skip rfl ?_)
            refine OblH.done (Chain.step rfl ?_)
            go_wp2_with fail
            refine (times4K (K := K) (atl xs m + atl zs 0) (atl gn r) _).mono ?_
            rintro e w1 ⟨rfl, hb⟩
            go_wp2
            refine onlyN.next rfl (bl_then hb (bl_drew (bl_refl _))) (Chain.step rfl ?_)
            go_wp2_with fail
            refine (HM.out ((atl xs m + atl zs 0) * atl gn r) _).mono ?_
            rintro e w4 ⟨rfl, hb2⟩
            have HB2 : As (Below wr.heap.size wr w4) := ⟨bl_then hb2 (bl_then hb (bl_drew (bl_refl _)))⟩
            obtain ⟨q5, q6⟩ := keep_cf HB2.out ⟨hc1, hf1⟩
            clear hb hb2 c0 c1 c2 c3 hcg hc1 hf1
            go_wp2
            refine onlyN.next rfl HB2.out (Chain.step rfl ?_)
            go_wp2
            refine onlyN.next rfl HB2.out (Chain.last rfl ?_)
            go_wp2
            refine onlyN.last rfl ?_
            go_wp2
            go_roundw
            case rel => exact ⟨j + 1, by go_num, by omega, ⟨_, by rw [← HRR.out, ← HNX.out]; exact HI.out.step hlt2, (HOW.out.below HB2.out).put HI.out.1 j _⟩, ⟨bl_set (by have := HL.out; show w2.heap.size ≤ L; omega) (bl_then HB2.out hB.out)⟩⟩
            case measure => simp [intOf]; omega
        · have hd2 : decide (j < q + 1) = false := decide_eq_false hlt2
          have hje : As (j = q + 1) := ⟨by omega⟩
          obtain ⟨ys, hI, hown⟩ := hO.out
          have HRS : As (ys = remL gn (q + 1) (xs.take (m + 1))) := ⟨by
            rw [hje.out] at hI
            rw [hI.last, remL_take (by have := HN.out; omega), HZS.out]⟩
          have HOW := As.mk hown
          clear hI hown hO
          go_wp2
          go_roundw
          case rel => exact ⟨m + 1, by go_num, by omega, ⟨by rw [← HRS.out]; exact HOW.out⟩, hB⟩
          case measure => simp [intOf]; omega
    · have hd : decide (m < N) = false := decide_eq_false hlt
      have hme : As (m = N) := ⟨by omega⟩
      obtain ⟨zs, hzs⟩ : ∃ zs, remL gn (q + 1) (xs.take m) = zs := ⟨_, rfl⟩
      have HZS : As (remL gn (q + 1) xs = zs) := ⟨by rw [← hzs, hme.out, ← HN.out, List.take_length]⟩
      have HZL : As (zs.length = q + 1) := ⟨by rw [← hzs]; exact remL_length _ _ _⟩
      rw [hzs] at hO
      clear hzs
      obtain ⟨wz, hwz⟩ : ∃ wz, wr = wz := ⟨_, rfl⟩
      rw [hwz] at hO hB ⊢
      clear hwz
      have hV0 := As.mk (HO1.out.below hB.out)
      have hB0 : As (Below wq.heap.size wq wz) := ⟨bl_then hB.out HBd'.out⟩
      go_wp2
      go_loopw [7, 13] (fun v k wr => ∃ i : Nat, k = .int .i64 i ∧ i ≤ q + 1 ∧ As (OwnK wr L1 v (xs ++ (zs.take i).map (fun r => 0 - r))) ∧ As (∀ b, v.ownBlock = some b → b ≠ L) ∧ As (OwnK wr L (.slice (some ⟨L, 0, none⟩) (q + 1) (q + 1)) zs) ∧ As (Below wq.heap.size wq wr)) (fun _ k _ => q + 1 - (intOf k).toNat)
      case atStart => exact ⟨0, rfl, by omega, ⟨by rw [List.take_zero, List.map_nil, List.append_nil]; exact hV0.out⟩, ⟨fun b hb => by have := HNB.out b hb; omega⟩, hO, hB0⟩
      case round =>
        clear hV0 hB0 hO hB
        obtain ⟨i, rfl, hi, hV, hNb, hO, hB⟩ := hrel
        have c3 := (HXc.out.below hB.out).c3
        by_cases hlt3 : i < q + 1
        · have hd3 : decide (i < q + 1) = true := decide_eq_true hlt3
          have hcr := (hO.out.cell HZL.out hlt3).1
          have k0 := HXc.out.c0
          have k1 := HXc.out.c1
          have k2 := HXc.out.c2
          have hXL : As ((xs ++ (zs.take i).map (fun r => 0 - r)).length < 1000000) := ⟨by have := HS2.out; simp [HN.out, HZL.out]; omega⟩
          go_wp2
          refine wp_region_chain (fun w' => Below wq.heap.size wq w' ∧ w'.cell? ⟨L, i, none⟩ = some (.int .i64 (val (atl zs i)))) [7, 8, 9, 10] (by kernel_rfl) (by kernel_rfl) (by kernel_rfl) (by kernel_rfl) rfl (by kernel_rfl) ⟨bl_drew hB.out, hcr⟩ ?_
          iterate 7 (apply OblH.val rfl; · (intro w' hS; have q0 := cell_below hS.1 k0; have q1 := cell_below hS.1 k1; have q2 := cell_below hS.1 k2; have q3 := hS.2; clear hS; go_simp; rfl))
          iterate 4 (refine OblH.skip rfl ?_)
          refine OblH.done (Chain.step rfl ?_)
          go_wp2_with fail
          refine (minus40K (K := K) (atl zs i) _).mono ?_
          rintro e w1 ⟨rfl, hb⟩
          have hV1 := As.mk ((hV.out.below (bl_drew (bl_refl _))).below hb)
          have hO1 := As.mk ((hO.out.below (bl_drew (bl_refl _))).below hb)
          have hB1 : As (Below wq.heap.size wq w1) := ⟨bl_then hb (bl_drew hB.out)⟩
          have hc1 := (hO1.out.cell HZL.out hlt3).1
          clear hb hV hO hB hcr
          go_wp2
          refine onlyN.next rfl ⟨hB1.out, hc1⟩ (Chain.step rfl ?_)
          go_wp2
          refine onlyN.next rfl ?_ ?_
          · exact ⟨bl_alloc hB1.out, cell_alloc_l _ hc1⟩
          refine Chain.step rfl ?_
          go_wp2_with (at_builtin; refine appK2 (K := K) _ rfl _ _ rfl L1 _ _ rfl (hV1.out.below (bl_alloc (bl_refl _))) w1.heap.size 1 (0 - atl zs i) rfl (by simp [go_sem]) hXL.out (by have := hB1.out.size; have := HL1.out; simp; omega) ?_; intro v3 w3 hown hgr hnb)
          have hO3 : As (OwnK w3 L (.slice (some ⟨L, 0, none⟩) (q + 1) (q + 1)) zs) := ⟨World.ownsRow.kept (hO1.out.below (bl_alloc (o := .cells #[.int .i64 (val (0 - atl zs i))] 3) (bl_refl _))) hgr (Or.inr (fun e => hNb.out L e.symm rfl))⟩
          have hB3 : As (Below wq.heap.size wq w3) := ⟨(bl_alloc hB1.out).grown hgr (by have := hB1.out.size; simp; omega) (fun k e => by have := (own_block hV1.out e).1; have := HL1.out; omega)⟩
          have hc3 := (hO3.out.cell HZL.out hlt3).1
          have HOW := As.mk hown
          have HNB3 : As (∀ b, v3.ownBlock = some b → b ≠ L) := ⟨fun b hb => by
            rcases hnb with h | h
            · rw [h] at hb; exact hNb.out b hb
            · rw [h] at hb
              have h4 := (own_block hO1.out (k := L) rfl).2
              have : (w1.alloc (.cells #[.int .i64 (val (0 - atl zs i))] 3)).heap.size = w1.heap.size + 1 := by simp
              cases hb
              omega⟩
          clear hown hgr hnb hV1 hO1 hB1 hc1 k0 k1 k2
          refine onlyN.next rfl ?_ ?_
          · exact ⟨hB3.out, hc3⟩
          refine Chain.last rfl ?_
          go_wp2
          refine onlyN.last rfl ?_
          clear hc3
          go_wp2
          go_roundw
          case rel => exact ⟨i + 1, by go_num, by omega, ⟨by
            have e : zs.take (i + 1) = zs.take i ++ [atl zs i] := by
              rw [List.take_succ_eq_append_getElem (by rw [HZL.out]; exact hlt3)]
              congr 2
              unfold atl
              rw [List.getD_eq_getElem?_getD, List.getElem?_eq_getElem (by rw [HZL.out]; exact hlt3)]; rfl
            rw [e, List.map_append, ← List.append_assoc]
            exact HOW.out⟩, HNB3, hO3, hB3⟩
          case measure => simp [intOf]; omega
        · have hd3 : decide (i < q + 1) = false := decide_eq_false hlt3
          have hie : As (i = q + 1) := ⟨by omega⟩
          go_wp2
          go_ret2
          refine ⟨_, rfl, ⟨?_⟩, bl_then hB.out HBc.out⟩
          have e := hV.out
          rw [hie.out, ← HZL.out, List.take_length] at e
          unfold encL
          rw [HZS.out]
          exact e.mono (by rw [← HL1.out]; exact HBc.out.size)
end
end Go.Proofs.Ythcjmmicjbfpgaa.Rs
