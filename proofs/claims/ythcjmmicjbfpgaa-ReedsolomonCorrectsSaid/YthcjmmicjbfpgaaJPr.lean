/-
The walk of the product of two polynomials.
-/
import Derived.Test.YthcjmmicjbfpgaaJTa
import Derived.Test.YthcjmmicjbfpgaaJWc
namespace Go.Proofs.Ythcjmmicjbfpgaa.Rs
open Go.RowKit Go.Proofs.Ythcjmmicjbfpgaa.Alg
open GF
set_option linter.unusedSimpArgs false

section
variable {K : Type} [GF K]
def enc (a : K) : Value := Value.int .i64 (val a)
theorem OwnK.set {w : World} {B g n c : Nat} {ys : List K} (h : w.ownsRow B 3 1 (.slice (some ⟨g, 0, none⟩) n c) n (ys.map enc)) (j : Nat) (a : K) :
    (w.setCell ⟨g, j, none⟩ (.int .i64 (val a))).ownsRow B 3 1 (.slice (some ⟨g, 0, none⟩) n c) n ((ys.set j a).map enc) := by
  have := (h.stored j (enc a)).1
  rw [← List.map_set] at this
  exact this
theorem own_cell {w : World} {B g n c : Nat} {ys : List K} (h : w.ownsRow B 3 1 (.slice (some ⟨g, 0, none⟩) n c) n (ys.map enc)) (hl : ys.length = n) {j : Nat} (hj : j < n) :
    w.cell? ⟨g, j, none⟩ = some (.int .i64 (val (atl ys j))) ∧ w.frozen? ⟨g, j, none⟩ = false := by
  refine ⟨?_, h.frozenAt j⟩
  rw [h.cellAt j (by omega), List.getElem?_map, List.getElem?_eq_getElem (by omega)]
  unfold atl
  rw [List.getD_eq_getElem?_getD, List.getElem?_eq_getElem (by omega)]
  rfl
theorem zeros_K (n : Nat) : List.replicate n (Value.int .i64 0) = (List.replicate n (0 : K)).map enc := by
  rw [List.map_replicate]; unfold enc; rw [val_zero]; rfl
theorem own_set_below {w W : World} {L : Nat} {p : Addr} {u : Value} (h : Below w.heap.size w W) (hL : w.heap.size ≤ L) (hp : p.block = L) : Below w.heap.size w (W.setCell p u) := bl_set (by omega) h
theorem RdK.set {w : World} {A : Option Addr} {xs : List K} {p : Addr} {u : Value} {w0 : World} (h : RdK w0 A xs) (hb : Below w0.heap.size w0 w) (hp : w0.heap.size ≤ p.block) : RdK (w.setCell p u) A xs :=
  h.below (bl_set hp hb)

theorem prod_step {p q ys : List K} {n i m j : Nat} (hys : ∀ k, k < n → atl ys k = prt p q i m k) (hj : i + m = j) (hjn : j < n) (hl : ys.length = n) :
    ∀ k, k < n → atl (ys.set j (atl ys j + atl p i * atl q m)) k = prt p q i (m + 1) k := by
  intro k hk
  by_cases e : j = k
  · subst e
    rw [atl_set_self (by omega), hys j hjn, ← hj, prt_hit]
  · rw [atl_set_ne e, hys k hk, prt_miss p q (by omega)]

set_option maxRecDepth 100000 in
set_option maxHeartbeats 1600000 in
theorem productK (g : Nat) (p q : List K) (A1 A2 : Option Addr) (c1 c2 : Nat) (w : World) (hA : Arith K w g) (hp : RdK w A1 p) (hq : RdK w A2 q) (hp0 : 0 < p.length) (hq0 : 0 < q.length) (hp1 : p.length ≤ 100000) (hq1 : q.length ≤ 100000) :
    Calls Try.prog 50 #[.pointer (some ⟨g, 0, none⟩), .slice A1 p.length c1, .slice A2 q.length c2] w fun e w' =>
      ∃ L zs, e = .returned (.slice (some ⟨L, 0, none⟩) (p.length + q.length - 1) (p.length + q.length - 1)) ∧ zs.length = p.length + q.length - 1 ∧ As (atl zs = conv (atl p) (atl q)) ∧
        As (w'.ownsRow w.heap.size 3 1 (.slice (some ⟨L, 0, none⟩) (p.length + q.length - 1) (p.length + q.length - 1)) (p.length + q.length - 1) (zs.map (enc (K := K)))) ∧ Below w.heap.size w w' := by
  obtain ⟨n, hn⟩ : ∃ n, p.length + q.length - 1 = n := ⟨_, rfl⟩
  rw [hn]
  have e1 : (p.length : Int) + (q.length : Int) - 1 = (n : Int) := by omega
  have hmk := mk_ints (n := n) (by omega)
  have HA := As.mk hA
  have HP := As.mk hp
  have HQ := As.mk hq
  have HN := As.mk hn
  clear hA hp hq hn
  go_enter Try.func50, Try.ntmps50
  go_wp2
  clear e1 hmk
  obtain ⟨L, hL⟩ : ∃ L, w.heap.size = L := ⟨_, rfl⟩
  have HI : As ((w.alloc (.cells (zeros n) 3)).ownsRow w.heap.size 3 1 (.slice (some ⟨L, 0, none⟩) n n) n ((List.replicate n (0 : K)).map enc)) := ⟨by
    rw [← hL, ← zeros_K]; exact zeros_own (Nat.le_refl _) (by have := HN.out; omega)⟩
  have HB : As (Below w.heap.size w (w.alloc (.cells (zeros n) 3))) := ⟨bl_alloc (bl_refl _)⟩
  have HLL := As.mk (Nat.le_of_eq hL)
  rw [hL]
  clear hL
  go_loopw [21] (fun k wr => ∃ i : Nat, k = .int .i64 i ∧ i ≤ p.length ∧ As (∃ ys : List K, ys.length = n ∧ (∀ k, k < n → atl ys k = prt p q i 0 k) ∧ wr.ownsRow w.heap.size 3 1 (.slice (some ⟨L, 0, none⟩) n n) n (ys.map enc)) ∧ As (Below w.heap.size w wr)) (fun k _ => p.length - (intOf k).toNat)
  case atStart => exact ⟨0, rfl, by omega, ⟨_, by simp, fun k _ => by rw [atl_replicate, prt_start], HI.out⟩, HB⟩
  case round =>
    clear HI HB
    obtain ⟨i, rfl, hi, hI, hB⟩ := hrel
    by_cases hlt : i < p.length
    · have hd : decide (i < p.length) = true := decide_eq_true hlt
      obtain ⟨b, o, rfl, hc⟩ := (HP.out.below hB.out) i hlt
      go_wp2
      clear hc
      obtain ⟨wo, rfl⟩ : ∃ wo : World, wo = wr := ⟨_, rfl⟩
      go_loopw [28] (fun k wr => ∃ m : Nat, k = .int .i64 m ∧ m ≤ q.length ∧ As (∃ ys : List K, ys.length = n ∧ (∀ k, k < n → atl ys k = prt p q i m k) ∧ wr.ownsRow w.heap.size 3 1 (.slice (some ⟨L, 0, none⟩) n n) n (ys.map enc)) ∧ As (Below w.heap.size w wr)) (fun k _ => q.length - (intOf k).toNat)
      case atStart => exact ⟨0, rfl, by omega, hI, hB⟩
      case round =>
        clear hI hB
        obtain ⟨m, rfl, hm, hI, hB⟩ := hrel
        by_cases hlt2 : m < q.length
        · have hd2 : decide (m < q.length) = true := decide_eq_true hlt2
          obtain ⟨ys, hl, hys, hown⟩ := hI.out
          obtain ⟨b2, o2, rfl, hc2⟩ := (HQ.out.below hB.out) m hlt2
          obtain ⟨j, hj⟩ : ∃ j, i + m = j := ⟨_, rfl⟩
          have hjn : j < n := by have := HN.out; omega
          have e2 : (i : Int) + (m : Int) = (j : Int) := by omega
          have e3 : IntKind.i64.wrap (j : Int) = (j : Int) := in64 (by omega) (by have := HN.out; omega)
          have e4 : (0 : Int) ≤ (j : Int) := by omega
          have e5 : (j : Int) < (n : Int) := by omega
          obtain ⟨hc3, hf3⟩ := own_cell hown hl hjn
          have HYS := As.mk hys
          have HOWN := As.mk hown
          have HJ := As.mk hj
          have HL3 := As.mk hl
          clear hys hown hj hl
          go_wp2
          have HB0 := As.mk (bl_drew (bl_refl wr))
          refine wp_region_obl (fun w' => Below wr.heap.size wr w') (by kernel_rfl) (by kernel_rfl) (by kernel_rfl) HB0.out ?_
          iterate 14 (apply Obl.val; · (intro w' hS; have k3 := cell_below hS hc3; go_simp; rfl))
          apply Obl.call
          · intro w' hS
            go_simp
            refine ⟨_, _, ⟨rfl, rfl⟩, ?_⟩
            refine (mulAK g (atl p i) (atl q m) _ ((HA.out.below hB.out).below hS)).mono ?_
            rintro e w1 ⟨rfl, hb⟩
            exact ⟨rfl, bl_then hb hS⟩
          apply Obl.call
          · intro w' hS
            go_simp
            refine ⟨_, _, ⟨rfl, rfl⟩, ?_⟩
            refine (addK g (atl ys j) (atl p i * atl q m) _ ((HA.out.below hB.out).below hS)).mono ?_
            rintro e w1 ⟨rfl, hb⟩
            exact ⟨rfl, bl_then hb hS⟩
          apply Obl.val
          · intro w' hS
            go_simp
            rfl
          refine Last.store (fun w' hS => ?_)
          obtain ⟨k3, kf⟩ := keep_cf hS ⟨hc3, hf3⟩
          have HSS := As.mk hS
          clear hS
          apply Stored.of
          · go_simp; rfl
          go_simp
          go_wp2
          go_roundw
          case rel => exact ⟨m + 1, by go_num, by omega, ⟨ys.set j (atl ys j + atl p i * atl q m), by have := HL3.out; simpa using this, prod_step HYS.out HJ.out hjn HL3.out, OwnK.set (own_below HOWN.out HSS.out) j _⟩, ⟨bl_set (by have := HLL.out; simp; omega) (bl_then HSS.out hB.out)⟩⟩
          case measure => simp [intOf]; omega
        · have hd2 : decide (m < q.length) = false := decide_eq_false hlt2
          have hmq : m = q.length := by omega
          have HMQ := As.mk hmq
          clear hmq
          go_wp2
          go_roundw
          case rel => exact ⟨i + 1, by go_num, by omega, ⟨by
            obtain ⟨ys, h1, h2, h3⟩ := hI.out
            exact ⟨ys, h1, fun k hk => by rw [h2 k hk, HMQ.out, prt_row], h3⟩⟩, hB⟩
          case measure => simp [intOf]; omega
    · have hd : decide (i < p.length) = false := decide_eq_false hlt
      have hip : i = p.length := by omega
      have HIP := As.mk hip
      clear hip
      obtain ⟨ys, h1, h2, h3⟩ := hI.out
      have hfin : As (atl ys = conv (atl p) (atl q)) := ⟨by
        funext k
        by_cases hk : k < n
        · rw [h2 k hk, HIP.out, prt_all]
        · rw [atl_out (by omega), conv_supp (by have := HN.out; omega)]⟩
      have H1 := As.mk h1
      have H3 := As.mk h3
      clear h1 h2 h3
      go_wp2
      go_ret
      exact ⟨L, ys, rfl, H1.out, hfin, H3, hB.out⟩
end
end Go.Proofs.Ythcjmmicjbfpgaa.Rs
