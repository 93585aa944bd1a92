/-
The walks of the reference's at, less and locator.
The walk of the reference's locator.
-/
import Derived.Test.YthcjmmicjbfpgaaJRa
import Derived.Test.YthcjmmicjbfpgaaJLo
namespace Go.Proofs.Ythcjmmicjbfpgaa.Rs
open Go.RowKit Go.Proofs.Ythcjmmicjbfpgaa.Alg
open GF
set_option linter.unusedSimpArgs false

section
variable {K : Type} [GF K]
set_option maxRecDepth 100000 in
theorem at7K (A : Option Addr) (xs : List K) (n cp i : Nat) (w : World) (h : RdK w A xs) (hn : xs.length = n) :
    Calls Try.prog 73 #[.slice A n cp, .int .i64 i] w fun e w' => e = .returned (.int .i64 (val (atl xs i))) ∧ w = w' := by
  subst hn
  have HR := As.mk h
  clear h
  by_cases hi : i < xs.length
  · have hd : decide (i < xs.length) = true := decide_eq_true hi
    obtain ⟨b, o, rfl, hc⟩ := HR.out i hi
    obtain ⟨u, hu⟩ : ∃ u, val (atl xs i) = u := ⟨_, rfl⟩
    rw [hu] at hc ⊢
    clear hu
    go_enter Try.func73, Try.ntmps73
    go_wp2
    go_ret
    exact ⟨rfl, rfl⟩
  · have hd : decide (i < xs.length) = false := decide_eq_false hi
    have HV : As (val (atl xs i) = 0) := ⟨by rw [atl_out (by omega), val_zero]⟩
    go_enter Try.func73, Try.ntmps73
    go_wp2
    go_ret
    exact ⟨ret_int (by rw [HV.out]; rfl), rfl⟩

/-- so many entries of the next row are there -/
def LsI (c b : List K) (k : K) (m M i : Nat) (ys : List K) : Prop := ys.length = M ∧ ∀ t, t < i → atl ys t = nxt (atl c) (atl b) m k t
theorem LsI.start (c b : List K) (k : K) (m M : Nat) : LsI c b k m M 0 (List.replicate M (0 : K)) := ⟨by simp, fun t ht => absurd ht (by omega)⟩
theorem LsI.step {c b ys : List K} {k u : K} {m M i : Nat} (h : LsI c b k m M i ys) (hi : i < M) (hu : (if i < m then 0 else k * atl b (i - m)) = u) : LsI c b k m M (i + 1) (ys.set i (atl c i - u)) := by
  subst hu
  refine ⟨by rw [List.length_set]; exact h.1, fun t ht => ?_⟩
  by_cases e : t = i
  · subst e
    rw [atl_set_self (by rw [h.1]; exact hi)]
    rfl
  · rw [atl_set_ne (fun h => e h.symm), h.2 t (by omega)]
theorem LsI.last {c b ys : List K} {k : K} {m M : Nat} (h : LsI c b k m M M ys) (hM : M = max c.length (m + b.length)) : ys = nextL c b k m :=
  atl_ext (by rw [h.1, nextL_length, hM]) (fun t ht => by rw [h.2 t (by rw [← h.1]; exact ht), atl_nextL])

set_option maxRecDepth 100000 in
set_option maxHeartbeats 3200000 in
theorem less7K (c b : List K) (k : K) (m : Nat) (A1 A2 : Option Addr) (n1 n2 c1 c2 M : Nat) (w : World) (hp : RdK w A1 c) (hq : RdK w A2 b) (e1 : c.length = n1) (e2 : b.length = n2) (hp1 : n1 ≤ 10000) (hq1 : n2 ≤ 10000) (hm1 : m ≤ 10000) (hM : M = max n1 (m + n2)) :
    Calls Try.prog 74 #[.agg #[.int .i64 (ch K), .int .i64 (sz K), .int .i64 (po K)], .slice A1 n1 c1, .slice A2 n2 c2, .int .i64 (val k), .int .i64 m] w fun e w' =>
      ∃ L : Nat, e = .returned (.slice (some ⟨L, 0, none⟩) M M) ∧ As (OwnK w' w.heap.size (.slice (some ⟨L, 0, none⟩) M M) (nextL c b k m)) ∧ Below w.heap.size w w' := by
  have HP := As.mk hp
  have HQ := As.mk hq
  have HE1 := As.mk e1
  have HE2 := As.mk e2
  have HMM := As.mk hM
  have hM1 : M ≤ 20000 := by omega
  have g1 : IntKind.i64.wrap ((n2 : Int) + (m : Int)) = (n2 : Int) + (m : Int) := in64 (by omega) (by omega)
  have g3 : max (n1 : Int) ((n2 : Int) + (m : Int)) = (M : Int) := by omega
  have hmk := mk_ints (n := M) (by omega)
  clear hp hq e1 e2 hM
  have HX := As.mk (Box3.new (w := w) (x := .int .i64 (ch K)) (y := .int .i64 (sz K)) (z := .int .i64 (po K)) (t := 23))
  go_enter Try.func74, Try.ntmps74
  go_wp2
  clear g1 g3 hmk
  have HB : As (Below w.heap.size w (w.alloc (.cells #[.int .i64 (ch K), .int .i64 (sz K), .int .i64 (po K)] 23))) := ⟨bl_alloc (bl_refl _)⟩
  obtain ⟨wq, hwq⟩ : ∃ wq, w.alloc (.cells #[.int .i64 (ch K), .int .i64 (sz K), .int .i64 (po K)] 23) = wq := ⟨_, rfl⟩
  have hsz : wq.heap.size = w.heap.size + 1 := by rw [← hwq]; simp
  rw [hwq] at HX HB ⊢
  clear hwq
  obtain ⟨Z, hZ⟩ : ∃ Z, w.heap.size = Z := ⟨_, rfl⟩
  rw [hZ] at HX
  obtain ⟨L, hL0⟩ : ∃ L, w.heap.size + 1 = L := ⟨_, rfl⟩
  have hL : wq.heap.size = L := hsz.trans hL0
  have HLW : As (w.heap.size ≤ L) := ⟨by omega⟩
  have HI : As (OwnK (wq.alloc (.cells (zeros M) 3)) L (.slice (some ⟨L, 0, none⟩) M M) (List.replicate M (0 : K))) := ⟨by
    have := zeros_own (W := wq) (B := L) (n := M) (by omega) (by omega)
    rw [zeros_K (K := K), hL] at this
    unfold OwnK
    rw [List.length_replicate]
    exact this⟩
  have HB2 : As (Below wq.heap.size wq (wq.alloc (.cells (zeros M) 3))) := ⟨bl_alloc (bl_refl _)⟩
  rw [hL0]
  have HL := As.mk (Nat.le_of_eq hL)
  rw [hZ]
  clear hL hsz hZ hL0
  go_loopw [12] (fun x wr => ∃ i : Nat, x = .int .i64 i ∧ i ≤ M ∧ As (∃ ys : List K, LsI c b k m M i ys ∧ OwnK wr L (.slice (some ⟨L, 0, none⟩) M M) ys) ∧ As (Below wq.heap.size wq wr)) (fun x _ => M - (intOf x).toNat)
  case atStart => exact ⟨0, rfl, by omega, ⟨_, LsI.start c b k m M, HI.out⟩, HB2⟩
  case round =>
    clear HI HB2
    obtain ⟨i, rfl, hi, hI, hB⟩ := hrel
    by_cases hlt : i < M
    · have hd : decide (i < M) = true := decide_eq_true hlt
      have k0 := (HX.out.below hB.out).c0
      have k1 := (HX.out.below hB.out).c1
      have k2 := (HX.out.below hB.out).c2
      obtain ⟨ys, hys, hown⟩ := hI.out
      obtain ⟨hc3, hf3⟩ := hown.cell hys.1 hlt
      have HYS := As.mk hys
      have HOWN := As.mk hown
      have HR1 := As.mk ((HP.out.below HB.out).below hB.out)
      have HR2 := As.mk ((HQ.out.below HB.out).below hB.out)
      clear hys hown hI
      obtain ⟨u, hu⟩ : ∃ u : K, (if i < m then 0 else k * atl b (i - m)) = u := ⟨_, rfl⟩
      have HU := As.mk hu
      by_cases him : i < m
      · have hd2 : decide (m ≤ i) = false := decide_eq_false (by omega)
        have HM : As (∀ a w, Calls Try.prog 39 #[.agg #[.int .i64 (ch K), .int .i64 (sz K), .int .i64 (po K)], .int .i64 (val a), .int .i64 0] w fun e w' => e = .returned (.int .i64 (val (a - u))) ∧ Below w.heap.size w w') := ⟨fun a w => by
          have := minus4K (K := K) a 0 w
          rw [val_zero] at this
          rw [← hu, if_pos him]
          exact this⟩
        clear hu
        go_wp2
        refine wp_region_chain (fun w' => Below wr.heap.size wr w') [5, 7, 8, 9] (by kernel_rfl) (by kernel_rfl) (by kernel_rfl) (by kernel_rfl) rfl (by kernel_rfl) (bl_drew (bl_refl _)) ?_
        iterate 5 (apply OblH.val rfl; · (intro w' hS; have q0 := cell_below hS k0; have q1 := cell_below hS k1; have q2 := cell_below hS k2; go_simp; rfl))
        refine OblH.skip rfl ?_
        iterate 1 (apply OblH.val rfl; · (intro w' hS; go_simp; rfl))
        iterate 3 (refine OblH.skip rfl ?_)
        refine OblH.done (Chain.step rfl ?_)
        go_wp2_with fail
        refine (at7K (K := K) A1 c n1 c1 i _ (HR1.out.below (bl_drew (bl_refl _))) HE1.out).mono ?_
        rintro e w1 ⟨rfl, rfl⟩
        go_wp2
        refine onlyN.next rfl (bl_drew (bl_refl _)) (Chain.step rfl ?_)
        go_wp2_with fail
        refine (HM.out (atl c i) _).mono ?_
        rintro e w2 ⟨rfl, hb2⟩
        have HB2 : As (Below wr.heap.size wr w2) := ⟨bl_then hb2 (bl_drew (bl_refl _))⟩
        obtain ⟨q5, q6⟩ := keep_cf HB2.out ⟨hc3, hf3⟩
        clear hb2 k0 k1 k2 hc3 hf3 HR1 HR2
        go_wp2
        refine onlyN.next rfl HB2.out (Chain.step rfl ?_)
        go_wp2
        refine onlyN.next rfl HB2.out (Chain.last rfl ?_)
        go_wp2
        refine onlyN.last rfl ?_
        go_wp2
        go_roundw
        case rel => exact ⟨i + 1, by go_num, by omega, ⟨_, HYS.out.step hlt HU.out, (HOWN.out.below HB2.out).put HYS.out.1 i _⟩, ⟨bl_set (by have := HL.out; exact this) (bl_then HB2.out hB.out)⟩⟩
        case measure => simp [intOf]; omega
      · have hd2 : decide (m ≤ i) = true := decide_eq_true (by omega)
        obtain ⟨r, hr⟩ : ∃ r, i - m = r := ⟨_, rfl⟩
        have f1 : (i : Int) - (m : Int) = (r : Int) := by omega
        have f2 : IntKind.i64.wrap (r : Int) = (r : Int) := in64 (by omega) (by omega)
        have HM : As (k * atl b r = u) := ⟨by rw [← hu, if_neg him, hr]⟩
        clear hr hu
        go_wp2
        refine wp_region_chain (fun w' => Below wr.heap.size wr w') [6, 7, 8] (by kernel_rfl) (by kernel_rfl) (by kernel_rfl) (by kernel_rfl) rfl (by kernel_rfl) (bl_drew (bl_refl _)) ?_
        iterate 6 (apply OblH.val rfl; · (intro w' hS; have q0 := cell_below hS k0; have q1 := cell_below hS k1; have q2 := cell_below hS k2; go_simp; rfl))
        iterate 3 (refine OblH.skip rfl ?_)
        refine OblH.done (Chain.step rfl ?_)
        go_wp2_with fail
        refine (at7K (K := K) A2 b n2 c2 r _ (HR2.out.below (bl_drew (bl_refl _))) HE2.out).mono ?_
        rintro e w1 ⟨rfl, rfl⟩
        go_wp2
        refine onlyN.next rfl (bl_drew (bl_refl _)) (Chain.step rfl ?_)
        go_wp2_with fail
        refine (times4K (K := K) k (atl b r) _).mono ?_
        rintro e w2 ⟨rfl, hb2⟩
        have HB2 : As (Below wr.heap.size wr w2) := ⟨bl_then hb2 (bl_drew (bl_refl _))⟩
        clear hb2
        go_wp2
        refine onlyN.next rfl HB2.out (Chain.last rfl ?_)
        go_wp2
        refine onlyN.last rfl ?_
        have j0 := cell_below HB2.out k0
        have j1 := cell_below HB2.out k1
        have j2 := cell_below HB2.out k2
        have hcf := keep_cf HB2.out ⟨hc3, hf3⟩
        have hc4 := hcf.1
        have hf4 := hcf.2
        clear hcf k0 k1 k2 hc3 hf3
        rw [HM.out]
        go_wp2
        refine wp_region_chain (fun w' => Below w2.heap.size w2 w') [5, 7, 8, 9] (by kernel_rfl) (by kernel_rfl) (by kernel_rfl) (by kernel_rfl) rfl (by kernel_rfl) (bl_drew (bl_refl _)) ?_
        iterate 5 (apply OblH.val rfl; · (intro w' hS; have q0 := cell_below hS j0; have q1 := cell_below hS j1; have q2 := cell_below hS j2; go_simp; rfl))
        refine OblH.skip rfl ?_
        iterate 1 (apply OblH.val rfl; · (intro w' hS; go_simp; rfl))
        iterate 3 (refine OblH.skip rfl ?_)
        refine OblH.done (Chain.step rfl ?_)
        go_wp2_with fail
        refine (at7K (K := K) A1 c n1 c1 i _ ((HR1.out.below HB2.out).below (bl_drew (bl_refl _))) HE1.out).mono ?_
        rintro e w1 ⟨rfl, rfl⟩
        go_wp2
        refine onlyN.next rfl (bl_drew (bl_refl _)) (Chain.step rfl ?_)
        go_wp2_with fail
        refine (minus4K (K := K) (atl c i) _ _).mono ?_
        rintro e w3 ⟨rfl, hb3⟩
        have HB3 : As (Below w2.heap.size w2 w3) := ⟨bl_then hb3 (bl_drew (bl_refl _))⟩
        obtain ⟨q5, q6⟩ := keep_cf HB3.out ⟨hc4, hf4⟩
        clear hb3 j0 j1 j2 hc4 hf4 HR1 HR2
        go_wp2
        refine onlyN.next rfl HB3.out (Chain.step rfl ?_)
        go_wp2
        refine onlyN.next rfl HB3.out (Chain.last rfl ?_)
        go_wp2
        refine onlyN.last rfl ?_
        go_wp2
        go_roundw
        case rel => exact ⟨i + 1, by go_num, by omega, ⟨_, HYS.out.step hlt HU.out, ((HOWN.out.below HB2.out).below HB3.out).put HYS.out.1 i _⟩, ⟨bl_set (by have := HL.out; exact this) (bl_then HB3.out (bl_then HB2.out hB.out))⟩⟩
        case measure => simp [intOf]; omega
    · have hd : decide (i < M) = false := decide_eq_false hlt
      have hip : As (i = M) := ⟨by omega⟩
      obtain ⟨ys, h1, h2⟩ := hI.out
      have HYS : As (ys = nextL c b k m) := ⟨by
        rw [hip.out] at h1
        exact h1.last (by rw [HE1.out, HE2.out]; exact HMM.out)⟩
      have H2 := As.mk h2
      clear h1 h2 hI
      go_wp2
      go_ret
      exact ⟨L, rfl, ⟨by rw [← HYS.out]; exact H2.out.mono HLW.out⟩, bl_then hB.out HB.out⟩
end
end Go.Proofs.Ythcjmmicjbfpgaa.Rs

namespace Go.Proofs.Ythcjmmicjbfpgaa.Rs
open Go.RowKit Go.Proofs.Ythcjmmicjbfpgaa.Alg
open GF
set_option linter.unusedSimpArgs false

section
variable {K : Type} [GF K]

set_option maxRecDepth 100000 in
set_option maxHeartbeats 6400000 in
theorem locator7K (s : List K) (N : Nat) (hN : s.length = N) (hs : N ≤ 4100) (As0 : Option Addr) (cs : Nat) (w : World) (hrs : RdK w As0 s) :
    Calls Try.prog 46 #[.agg #[.int .i64 (ch K), .int .i64 (sz K), .int .i64 (po K)], .slice As0 N cs] w fun e w' => ∃ A cc, e = .returned (.tuple #[.slice A (sigL s).length cc, .int .i64 (sizL s)]) ∧ As (RdK w' A (sigL s)) ∧ As ((sigL s).length ≤ cc) ∧ Below w.heap.size w w' := by
  have HRS := As.mk hrs
  have HN := As.mk hN
  clear hrs hN
  have HX := As.mk (Box3.new (w := w) (x := .int .i64 (ch K)) (y := .int .i64 (sz K)) (z := .int .i64 (po K)) (t := 23))
  go_enter Try.func46, Try.ntmps46
  go_wp2
  have r1 := rd_one (K := K) (w := w.alloc (.cells #[.int .i64 (ch K), .int .i64 (sz K), .int .i64 (po K)] 23)) (t := 3)
  have r2 := rd_one (K := K) (w := (w.alloc (.cells #[.int .i64 (ch K), .int .i64 (sz K), .int .i64 (po K)] 23)).alloc (.cells #[.int .i64 1] 3)) (t := 3)
  have H1 : As (RdK (((w.alloc (.cells #[.int .i64 (ch K), .int .i64 (sz K), .int .i64 (po K)] 23)).alloc (.cells #[.int .i64 1] 3)).alloc (.cells #[.int .i64 1] 3)) (some ⟨w.heap.size + 1, 0, none⟩) [(1 : K)]) := ⟨by
    have := r1.below (bl_alloc (o := .cells #[.int .i64 1] 3) (bl_refl _))
    simpa using this⟩
  have H2 : As (RdK (((w.alloc (.cells #[.int .i64 (ch K), .int .i64 (sz K), .int .i64 (po K)] 23)).alloc (.cells #[.int .i64 1] 3)).alloc (.cells #[.int .i64 1] 3)) (some ⟨w.heap.size + 1 + 1, 0, none⟩) [(1 : K)]) := ⟨by
    simpa using r2⟩
  have HXq := As.mk (HX.out.below (bl_alloc (o := .cells #[.int .i64 1] 3) (bl_alloc (o := .cells #[.int .i64 1] 3) (bl_refl _))))
  have HB : As (Below w.heap.size w (((w.alloc (.cells #[.int .i64 (ch K), .int .i64 (sz K), .int .i64 (po K)] 23)).alloc (.cells #[.int .i64 1] 3)).alloc (.cells #[.int .i64 1] 3))) := ⟨bl_alloc (bl_alloc (bl_alloc (bl_refl _)))⟩
  obtain ⟨wq, hwq⟩ : ∃ wq, ((w.alloc (.cells #[.int .i64 (ch K), .int .i64 (sz K), .int .i64 (po K)] 23)).alloc (.cells #[.int .i64 1] 3)).alloc (.cells #[.int .i64 1] 3) = wq := ⟨_, rfl⟩
  rw [hwq] at H1 H2 HXq HB ⊢
  clear hwq r1 r2 HX
  obtain ⟨Z, hZ⟩ : ∃ Z, w.heap.size = Z := ⟨_, rfl⟩
  rw [hZ] at H1 H2 HXq ⊢
  have HZ := As.mk hZ
  clear hZ
  go_loopw [6, 7, 8, 9, 10, 11] (fun c b l m old k wr => ∃ (i : Nat) (Ac Ab : Option Addr) (cc cb : Nat), c = .slice Ac (runB s i).c.length cc ∧ b = .slice Ab (runB s i).b.length cb ∧ l = .int .i64 (runB s i).l ∧ m = .int .i64 (runB s i).m ∧ old = .int .i64 (val (runB s i).last) ∧ k = .int .i64 i ∧ i ≤ N ∧
    As (RdK wr Ac (runB s i).c) ∧ As (RdK wr Ab (runB s i).b) ∧ As ((runB s i).c.length ≤ cc ∧ (runB s i).b.length ≤ cb) ∧ As (Below wq.heap.size wq wr)) (fun _ _ _ _ _ k _ => N - (intOf k).toNat)
  case atStart => exact ⟨0, some ⟨Z + 1, 0, none⟩, some ⟨Z + 1 + 1, 0, none⟩, 1, 1, rfl, rfl, rfl, rfl, by
    show _ = Value.int .i64 (val (1 : K))
    rw [val_one]; rfl, rfl, by omega, H1, H2, ⟨Nat.le_refl _, Nat.le_refl _⟩, ⟨bl_refl _⟩⟩
  case round =>
    clear H1 H2
    obtain ⟨n, Ac, Ab, cc, cb, rfl, rfl, rfl, rfl, rfl, rfl, hi, hRc, hRb, hCap, hB⟩ := hrel
    have hz := runB_inv s n
    have hnx : runB s (n + 1) = stepB s n (runB s n) := rfl
    by_cases hlt : n < N
    · have hd : decide (n < N) = true := decide_eq_true hlt
      obtain ⟨z, hzz⟩ : ∃ z, runB s n = z := ⟨_, rfl⟩
      rw [hzz] at hz hRc hRb hCap hnx ⊢
      have HNXT := As.mk hnx
      have HZI := As.mk hz
      have hln := hz.inv.ln
      have hlc := hz.lc
      have hlb := hz.lb
      clear hzz hz hnx
      obtain ⟨nc, hnc⟩ : ∃ nc, z.c.length = nc := ⟨_, rfl⟩
      have HNC := As.mk hnc
      obtain ⟨nb, hnb⟩ : ∃ nb, z.b.length = nb := ⟨_, rfl⟩
      have HNB := As.mk hnb
      obtain ⟨l, hl⟩ : ∃ l, z.l = l := ⟨_, rfl⟩
      have HL := As.mk hl
      obtain ⟨m, hm⟩ : ∃ m, z.m = m := ⟨_, rfl⟩
      have HM := As.mk hm
      obtain ⟨x, hx⟩ : ∃ x, val z.last = x := ⟨_, rfl⟩
      have HXX := As.mk hx
      rw [hnc, hnb, hl, hm, hx]
      rw [hnc] at hlc
      rw [hl] at hln
      rw [hnb, hm] at hlb
      clear hnc hnb hl hm hx
      obtain ⟨wo, hwo⟩ : ∃ wo, wr = wo := ⟨_, rfl⟩
      rw [hwo] at hRc hRb hB ⊢
      clear hwo
      go_wp2
      go_loopw [12, 13] (fun d k wr => ∃ i : Nat, k = .int .i64 i ∧ i ≤ l + 1 ∧ d = .int .i64 (val (S i (fun t => atl z.c t * atl s (n - t)))) ∧ As (Below wo.heap.size wo wr)) (fun _ k _ => l + 1 - (intOf k).toNat)
      case atStart => exact ⟨0, rfl, by omega, by simp only [S]; rw [val_zero]; rfl, ⟨bl_refl _⟩⟩
      case round =>
        obtain ⟨i, rfl, hil, rfl, hB2⟩ := hrel
        have HB3 : As (Below wq.heap.size wq wr) := ⟨bl_then hB2.out hB.out⟩
        have k0 := (HXq.out.below HB3.out).c0
        have k1 := (HXq.out.below HB3.out).c1
        have k2 := (HXq.out.below HB3.out).c2
        by_cases hlt2 : i ≤ l
        · have g1 : decide (i ≤ l) = true := decide_eq_true hlt2
          obtain ⟨r, hr⟩ : ∃ r, n - i = r := ⟨_, rfl⟩
          have HRR := As.mk hr
          have e1 : (n : Int) - (i : Int) = (r : Int) := by omega
          have e2 : IntKind.i64.wrap (r : Int) = (r : Int) := in64 (by omega) (by omega)
          have e3 : r < N := by omega
          obtain ⟨b, o, rfl, hcs⟩ := ((HRS.out.below HB.out).below HB3.out) r (by have := HN.out; omega)
          obtain ⟨d, hd⟩ : ∃ d, S i (fun t => atl z.c t * atl s (n - t)) = d := ⟨_, rfl⟩
          have HD := As.mk hd
          rw [hd]
          clear hr hd
          go_wp2
          refine wp_region_chain (fun w' => Below wr.heap.size wr w') [5, 12, 13, 14] (by kernel_rfl) (by kernel_rfl) (by kernel_rfl) (by kernel_rfl) rfl (by kernel_rfl) (bl_drew (bl_refl _)) ?_
          iterate 5 (apply OblH.val rfl; · (intro w' hS; have q0 := cell_below hS k0; have q1 := cell_below hS k1; have q2 := cell_below hS k2; go_simp; rfl))
          refine OblH.skip rfl ?_
          iterate 6 (apply OblH.val rfl; · (intro w' hS; have q3 := cell_below hS hcs; go_simp; rfl))
          iterate 3 (refine OblH.skip rfl ?_)
          refine OblH.done (Chain.step rfl ?_)
          go_wp2_with fail
          refine (at7K (K := K) Ac z.c nc cc i _ ((hRc.out.below hB2.out).below (bl_drew (bl_refl _))) HNC.out).mono ?_
          rintro e w1 ⟨rfl, rfl⟩
          go_wp2
          refine onlyN.next rfl (bl_drew (bl_refl _)) (Chain.step rfl ?_)
          go_wp2_with fail
          refine (times4K (K := K) (atl z.c i) (atl s r) _).mono ?_
          rintro e w1 ⟨rfl, hb⟩
          go_wp2
          refine onlyN.next rfl (bl_then hb (bl_drew (bl_refl _))) (Chain.step rfl ?_)
          go_wp2_with fail
          refine (plus4K (K := K) d (atl z.c i * atl s r) _).mono ?_
          rintro e w2 ⟨rfl, hb2⟩
          have HB4 : As (Below wr.heap.size wr w2) := ⟨bl_then hb2 (bl_then hb (bl_drew (bl_refl _)))⟩
          clear hb hb2 k0 k1 k2 hcs
          go_wp2
          refine onlyN.next rfl HB4.out (Chain.last rfl ?_)
          go_wp2
          refine onlyN.last rfl ?_
          go_wp2
          go_roundw
          case rel => exact ⟨i + 1, by go_num, by omega, by simp only [S]; rw [HD.out, HRR.out], ⟨bl_then HB4.out hB2.out⟩⟩
          case measure => simp [intOf]; omega
        · have g1 : decide (i ≤ l) = false := decide_eq_false hlt2
          have hil2 : i = l + 1 := by omega
          have HD : As (S i (fun t => atl z.c t * atl s (n - t)) = dis (atl z.c) z.l (atl s) n) := ⟨by rw [hil2, ← HL.out]; rfl⟩
          rw [HD.out]
          obtain ⟨d, hd⟩ : ∃ d, dis (atl z.c) z.l (atl s) n = d := ⟨_, rfl⟩
          have HDD := As.mk hd
          rw [hd]
          clear hd hil2 HD
          by_cases hd0 : d = 0
          · have hv : val d = 0 := by rw [hd0, val_zero]
            rw [hv]
            have HR2 : As (runB s (n + 1) = ⟨z.c, z.b, z.l, z.m + 1, z.last⟩) := ⟨by rw [HNXT.out]; unfold stepB; rw [if_pos (by rw [HDD.out]; exact hd0)]⟩
            have e5 : IntKind.i64.wrap ((m : Int) + 1) = (m : Int) + 1 := in64 (by omega) (by omega)
            go_wp2
            go_roundw
            case rel => exact ⟨n + 1, Ac, Ab, cc, cb, by rw [HR2.out, HNC.out], by rw [HR2.out, HNB.out], by rw [HR2.out, HL.out], by rw [HR2.out]; show _ = Value.int .i64 ((z.m + 1 : Nat) : Int); rw [HM.out]; rfl, by rw [HR2.out, HXX.out], by go_num, by omega, ⟨by rw [HR2.out]; exact hRc.out.below hB2.out⟩, ⟨by rw [HR2.out]; exact hRb.out.below hB2.out⟩, ⟨by rw [HR2.out]; exact hCap.out⟩, HB3⟩
            case measure => simp [intOf]; omega
          · have hv : val d ≠ 0 := fun h => hd0 (val_eq_zero.mp h)
            obtain ⟨u, hu⟩ : ∃ u, val d = u := ⟨_, rfl⟩
            have HU := As.mk hu
            rw [hu] at hv ⊢
            have g3 : ((u : Int) == 0) = false := beq_eq_false_iff_ne.mpr (by omega)
            clear hu hv
            obtain ⟨dk, hdk⟩ : ∃ dk : K, d * Fld.inv z.last = dk := ⟨_, rfl⟩
            have HDK := As.mk hdk
            clear hdk
            obtain ⟨M, hM⟩ : ∃ M, max nc (m + nb) = M := ⟨_, rfl⟩
            have HMM := As.mk hM
            clear hM
            have HINV := As.mk (fun w' => inverse4K (K := K) z.last HZI.out.inv.bne w')
            have HTIM := As.mk (fun w' => times4K (K := K) d (Fld.inv z.last) w')
            rw [HXX.out] at HINV
            rw [HU.out, HDK.out] at HTIM
            have HLESS := As.mk (fun w' h1 h2 => less7K (K := K) z.c z.b dk m Ac Ab nc nb cc cb M w' h1 h2 HNC.out HNB.out (by omega) (by omega) (by omega) HMM.out.symm)
            go_wp2
            refine wp_region_chain (fun w' => Below wr.heap.size wr w') [7, 8, 10, 11] (by kernel_rfl) (by kernel_rfl) (by kernel_rfl) (by kernel_rfl) rfl (by kernel_rfl) (bl_drew (bl_refl _)) ?_
            iterate 7 (apply OblH.val rfl; · (intro w' hS; have q0 := cell_below hS k0; have q1 := cell_below hS k1; have q2 := cell_below hS k2; go_simp; rfl))
            iterate 2 (refine OblH.skip rfl ?_)
            iterate 1 (apply OblH.val rfl; · (intro w' hS; go_simp; rfl))
            iterate 2 (refine OblH.skip rfl ?_)
            refine OblH.done (Chain.step rfl ?_)
            go_wp2_with fail
            refine (HINV.out _).mono ?_
            rintro e w1 ⟨rfl, hb⟩
            have HB4 : As (Below wr.heap.size wr w1) := ⟨bl_then hb (bl_drew (bl_refl _))⟩
            clear hb k0 k1 k2
            go_wp2
            refine onlyN.next rfl HB4.out (Chain.step rfl ?_)
            go_wp2_with fail
            refine (HTIM.out _).mono ?_
            rintro e w2 ⟨rfl, hb⟩
            have HB5 : As (Below wr.heap.size wr w2) := ⟨bl_then hb HB4.out⟩
            clear hb HB4
            go_wp2
            refine onlyN.next rfl HB5.out (Chain.step rfl ?_)
            go_wp2_with fail
            refine (HLESS.out _ ((hRc.out.below hB2.out).below HB5.out) ((hRb.out.below hB2.out).below HB5.out)).mono ?_
            rintro e w3 ⟨L2, rfl, hown, hb⟩
            have HB6 : As (Below wr.heap.size wr w3) := ⟨bl_then hb HB5.out⟩
            have HR3 := As.mk hown.out.rd
            have HML : As ((nextL z.c z.b dk z.m).length = M) := ⟨by rw [nextL_length, HNC.out, HM.out, HNB.out]; exact HMM.out⟩
            rw [← HM.out] at HR3
            clear hb HB5 hown HINV HTIM HLESS
            go_wp2
            refine onlyN.next rfl HB6.out (Chain.last rfl ?_)
            go_wp2
            refine onlyN.last rfl ?_
            have HB7 : As (Below wq.heap.size wq w3) := ⟨bl_then HB6.out HB3.out⟩
            have HRc3 := As.mk ((hRc.out.below hB2.out).below HB6.out)
            have HRb3 := As.mk ((hRb.out.below hB2.out).below HB6.out)
            have e10 : IntKind.i64.wrap ((n : Int) + 1 - (l : Int)) = (n : Int) + 1 - (l : Int) := in64 (by omega) (by omega)
            have e11 : IntKind.i64.wrap ((n : Int) + 1) = (n : Int) + 1 := in64 (by omega) (by omega)
            have e12 : IntKind.i64.wrap ((m : Int) + 1) = (m : Int) + 1 := in64 (by omega) (by omega)
            have e13 : IntKind.i64.wrap (2 * (l : Int)) = 2 * (l : Int) := in64 (by omega) (by omega)
            by_cases hle : 2 * l ≤ n
            · have g4 : decide (2 * (l : Int) ≤ (n : Int)) = true := decide_eq_true (by omega)
              have HR2 : As (runB s (n + 1) = ⟨nextL z.c z.b dk z.m, z.c, n + 1 - z.l, 1, d⟩) := ⟨by
                rw [HNXT.out]; unfold stepB
                rw [HDD.out, if_neg hd0, if_pos (by rw [HL.out]; exact hle), HDK.out]⟩
              go_wp2
              go_roundw
              case rel => exact ⟨n + 1, some ⟨L2, 0, none⟩, Ac, M, cc, by rw [HR2.out, HML.out], by rw [HR2.out, HNC.out], by
                rw [HR2.out]
                show _ = Value.int .i64 ((n + 1 - z.l : Nat) : Int)
                rw [HL.out]
                congr 1; omega, by rw [HR2.out]; rfl, by rw [HR2.out, HU.out], by go_num, by omega, ⟨by rw [HR2.out]; exact HR3.out⟩, ⟨by rw [HR2.out]; exact HRc3.out⟩, ⟨by rw [HR2.out, HML.out]; exact ⟨Nat.le_refl _, hCap.out.1⟩⟩, HB7⟩
              case measure => simp [intOf]; omega
            · have g4 : decide (2 * (l : Int) ≤ (n : Int)) = false := decide_eq_false (by omega)
              have HR2 : As (runB s (n + 1) = ⟨nextL z.c z.b dk z.m, z.b, z.l, z.m + 1, z.last⟩) := ⟨by
                rw [HNXT.out]; unfold stepB
                rw [HDD.out, if_neg hd0, if_neg (by rw [HL.out]; exact hle), HDK.out]⟩
              go_wp2
              go_roundw
              case rel => exact ⟨n + 1, some ⟨L2, 0, none⟩, Ab, M, cb, by rw [HR2.out, HML.out], by rw [HR2.out, HNB.out], by rw [HR2.out, HL.out], by
                rw [HR2.out]
                show _ = Value.int .i64 ((z.m + 1 : Nat) : Int)
                rw [HM.out]; rfl, by rw [HR2.out, HXX.out], by go_num, by omega, ⟨by rw [HR2.out]; exact HR3.out⟩, ⟨by rw [HR2.out]; exact HRb3.out⟩, ⟨by rw [HR2.out, HML.out]; exact ⟨Nat.le_refl _, hCap.out.2⟩⟩, HB7⟩
              case measure => simp [intOf]; omega
    · have hd : decide (n < N) = false := decide_eq_false hlt
      have hnN : n = s.length := by have := HN.out; omega
      subst hnN
      have e1 := sigL_length s
      have e2 : sizL s = (runB s s.length).l := rfl
      have e3 : sigL s = (runB s s.length).c.take (trm (runB s s.length).c (runB s s.length).c.length) := rfl
      obtain ⟨z, hzz⟩ : ∃ z, runB s s.length = z := ⟨_, rfl⟩
      rw [hzz] at e1 e2 e3 hz hRc hRb hCap ⊢
      have E1 := As.mk e1
      have E2 := As.mk e2
      have E3 := As.mk e3
      have HZ1 := As.mk hz.inv.c0
      have hc1 := hz.c1
      have hlc := hz.lc
      obtain ⟨nc, hnc⟩ : ∃ nc, z.c.length = nc := ⟨_, rfl⟩
      have HNC := As.mk hnc
      have HCAP : As (nc ≤ cc) := ⟨by rw [← hnc]; exact hCap.out.1⟩
      rw [hnc] at hc1 hlc E1 E3 ⊢
      clear hnc hz hCap hRb e1 e2 e3 hzz hnx
      obtain ⟨wo, hwo⟩ : ∃ wo, wr = wo := ⟨_, rfl⟩
      rw [hwo] at hRc hB ⊢
      clear hwo
      go_wp2
      go_loop [6] (fun k => ∃ m : Nat, k = .slice Ac m cc ∧ 1 ≤ m ∧ m ≤ nc ∧ As (trm z.c m = trm z.c nc)) (fun k => match k with | .slice _ m _ => m | _ => 0)
      case atStart => exact ⟨nc, rfl, by omega, by omega, ⟨rfl⟩⟩
      case round =>
        obtain ⟨m, rfl, hm1, hm, hI⟩ := hrel
        obtain ⟨q, rfl⟩ : ∃ q, m = q + 1 := ⟨m - 1, by omega⟩
        obtain ⟨b, o, rfl, hc⟩ := hRc.out q (by have := HNC.out; omega)
        have f1 : (q : Int) < (q : Int) + 1 := by omega
        have f2 : q ≤ cc := by have := HCAP.out; omega
        have f3 : IntKind.i64.wrap (q : Int) = (q : Int) := in64 (by omega) (by omega)
        by_cases h0 : atl z.c q = 0
        · have hv : val (atl z.c q) = 0 := by rw [h0, val_zero]
          rw [hv] at hc
          have HS : As (trm z.c q = trm z.c (q + 1)) := ⟨by conv => rhs; unfold trm; rw [if_pos h0]⟩
          have hq1 : 1 ≤ q := by
            cases q with
            | zero => exact absurd (h0.symm.trans HZ1.out) (fun e => Fld.one_ne (K := K) e.symm)
            | succ q => omega
          clear h0 hv
          go_wp2
          go_round
          case rel => exact ⟨q, rfl, by omega, by omega, ⟨HS.out.trans hI.out⟩⟩
          case measure => exact Nat.lt_succ_self q
        · have hv : val (atl z.c q) ≠ 0 := fun h => h0 (val_eq_zero.mp h)
          have HS : As (q + 1 = trm z.c nc) := ⟨by rw [← hI.out]; conv => rhs; unfold trm; rw [if_neg h0]⟩
          obtain ⟨u, hu⟩ : ∃ u, val (atl z.c q) = u := ⟨_, rfl⟩
          rw [hu] at hc hv
          have g3 : ((u : Int) == 0) = false := beq_eq_false_iff_ne.mpr (by omega)
          clear h0 hv hu
          go_wp2
          go_ret2
          refine ⟨_, cc, by rw [E1.out, E2.out, ← HS.out]; rfl, ⟨?_⟩, ⟨by rw [E1.out, ← HS.out]; have := HCAP.out; omega⟩, bl_then hB.out HB.out⟩
          rw [E3.out]
          exact hRc.out.take _
end
end Go.Proofs.Ythcjmmicjbfpgaa.Rs
