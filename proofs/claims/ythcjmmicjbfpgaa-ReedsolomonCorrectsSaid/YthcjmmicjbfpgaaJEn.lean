/-
The walk of the generator polynomial.
The walk of Encode.
-/
import Derived.Test.YthcjmmicjbfpgaaJCl
import Derived.Test.YthcjmmicjbfpgaaJAa
import Derived.ArgAppend
import Derived.Deep.Onto
namespace Go.Proofs.Ythcjmmicjbfpgaa.Rs
open Go.RowKit Go.Proofs.Ythcjmmicjbfpgaa.Alg
open GF
set_option linter.unusedSimpArgs false

section
variable {K : Type} [GF K]

theorem OwnK.rd {w : World} {B n c : Nat} {A : Option Addr} {xs : List K} (h : OwnK w B (.slice A n c) xs) : RdK w A xs := by
  obtain ⟨A', c', e, _, _, hr⟩ := h.read
  cases e
  exact hr
theorem sub0K (g : Nat) (b : K) (w : World) (h : Arith K w g) :
    Calls Try.prog 35 #[.pointer (some ⟨g, 0, none⟩), .int .i64 0, .int .i64 (val b)] w fun e w' => e = .returned (.int .i64 (val (0 - b))) ∧ Below w.heap.size w w' := by
  have := subK g (0 : K) b w h
  rw [val_zero] at this
  exact this
theorem productL (g : Nat) (p q : List K) (A1 A2 : Option Addr) (n1 n2 c1 c2 : Nat) (w : World) (hA : Arith K w g) (hp : RdK w A1 p) (hq : RdK w A2 q) (e1 : p.length = n1) (e2 : q.length = n2) (hp0 : 0 < n1) (hq0 : 0 < n2) (hp1 : n1 ≤ 100000) (hq1 : n2 ≤ 100000) :
    Calls Try.prog 50 #[.pointer (some ⟨g, 0, none⟩), .slice A1 n1 c1, .slice A2 n2 c2] w fun e w' =>
      ∃ L : Nat, e = .returned (.slice (some ⟨L, 0, none⟩) (n1 + n2 - 1) (n1 + n2 - 1)) ∧ As (OwnK w' w.heap.size (.slice (some ⟨L, 0, none⟩) (n1 + n2 - 1) (n1 + n2 - 1)) (mulL p q)) ∧ Below w.heap.size w w' := by
  subst e1 e2
  refine (productK g p q A1 A2 c1 c2 w hA hp hq hp0 hq0 hp1 hq1).mono ?_
  rintro e w' ⟨L, zs, he, hl, hc, hown, hb⟩
  refine ⟨L, he, ⟨?_⟩, hb⟩
  have := mulL_of hl hc.out
  subst this
  unfold OwnK
  rw [hl]
  exact hown.out
theorem rd_two {w : World} {a b : K} {t : TypeId} : RdK (w.alloc (.cells #[.int .i64 (val a), .int .i64 (val b)] t)) (some ⟨w.heap.size, 0, none⟩) [a, b] := by
  intro i hi
  refine ⟨_, _, rfl, ?_⟩
  have : i = 0 ∨ i = 1 := by simp at hi; omega
  rcases this with rfl | rfl <;> go_simp <;> rfl
theorem rd_two1 {w : World} {a : K} {t : TypeId} : RdK (w.alloc (.cells #[.int .i64 (val a), .int .i64 1] t)) (some ⟨w.heap.size, 0, none⟩) [a, 1] := by
  have := rd_two (w := w) (a := a) (b := (1 : K)) (t := t)
  rw [val_one] at this
  exact this
theorem rd_one {w : World} {t : TypeId} : RdK (w.alloc (.cells #[.int .i64 1] t)) (some ⟨w.heap.size, 0, none⟩) [(1 : K)] := by
  intro i hi
  refine ⟨_, _, rfl, ?_⟩
  have : i = 0 := by simp at hi; omega
  subst this
  go_simp
  rw [atl_cons_zero, val_one]
  rfl

/-- the five cells of a code -/
structure Box5 (w : World) (b : Nat) (x y z u v : Int) : Prop where
  c0 : w.cell? ⟨b, 0, none⟩ = some (.int .i64 x)
  c1 : w.cell? ⟨b, 1, none⟩ = some (.int .i64 y)
  c2 : w.cell? ⟨b, 2, none⟩ = some (.int .i64 z)
  c3 : w.cell? ⟨b, 3, none⟩ = some (.int .i64 u)
  c4 : w.cell? ⟨b, 4, none⟩ = some (.int .i64 v)
theorem Box5.below {w w1 : World} {b : Nat} {x y z u v : Int} (h : Box5 w b x y z u v) (hb : Below w.heap.size w w1) : Box5 w1 b x y z u v :=
  ⟨cell_below hb h.c0, cell_below hb h.c1, cell_below hb h.c2, cell_below hb h.c3, cell_below hb h.c4⟩
theorem Box5.new {w : World} {x y z u v : Int} {t : TypeId} : Box5 (w.alloc (.cells #[.int .i64 x, .int .i64 y, .int .i64 z, .int .i64 u, .int .i64 v] t)) w.heap.size x y z u v := by
  constructor <;> simp [go_sem]

set_option maxRecDepth 100000 in
set_option maxHeartbeats 1600000 in
theorem generatorAK (g : Nat) (par fst : Nat) (hpar : par ≤ 5000) (hfst : fst ≤ 5000) (w : World) (h : Arith K w g) :
    Calls Try.prog 32 #[.pointer (some ⟨g, 0, none⟩), .agg #[.int .i64 (ch K), .int .i64 (sz K), .int .i64 (po K), .int .i64 par, .int .i64 fst]] w fun e w' =>
      ∃ L : Nat, e = .returned (.slice (some ⟨L, 0, none⟩) (par + 1) (par + 1)) ∧ As (RdK w' (some ⟨L, 0, none⟩) (genL K fst par)) ∧ Below w.heap.size w w' := by
  have HA := As.mk h
  clear h
  go_enter Try.func32, Try.ntmps32
  have HX := As.mk ((Box5.new (w := w) (x := ch K) (y := sz K) (z := po K) (u := par) (v := fst) (t := 25)).below (bl_alloc (o := .cells #[.int .i64 1] 3) (bl_refl _)))
  go_wp2
  go_loopw [5, 10] (fun v k wr => ∃ m L : Nat, v = .slice (some ⟨L, 0, none⟩) (m + 1) (m + 1) ∧ k = .int .i64 m ∧ m ≤ par ∧ As (RdK wr (some ⟨L, 0, none⟩) (genL K fst m)) ∧ As (Box5 wr w.heap.size (ch K) (sz K) (po K) par fst) ∧ As (Below w.heap.size w wr)) (fun _ k _ => par - (intOf k).toNat)
  case atStart => exact ⟨0, w.heap.size + 1, by simp, rfl, by omega, ⟨by show RdK _ _ [(1 : K)]; have := rd_one (K := K) (w := w.alloc (.cells #[.int .i64 (ch K), .int .i64 (sz K), .int .i64 (po K), .int .i64 par, .int .i64 fst] 25)) (t := 3); simpa using this⟩, HX, ⟨bl_alloc (bl_alloc (bl_refl _))⟩⟩
  case round =>
    clear HX
    obtain ⟨m, L, rfl, rfl, hm, hR, hX, hB⟩ := hrel
    by_cases hlt : m < par
    · have hd : decide (m < par) = true := decide_eq_true hlt
      have c4 := hX.out.c4
      have c3 := hX.out.c3
      have e1 : IntKind.i64.wrap ((fst : Int) + (m : Int)) = (fst : Int) + (m : Int) := in64 (by omega) (by omega)
      go_wp2_with fail
      refine (powerK (K := K) g _ _ (HA.out.below hB.out)).mono ?_
      rintro e w1 ⟨rfl, hb1⟩
      go_wp2_with fail
      refine (sub0K (K := K) g _ _ ((HA.out.below hB.out).below hb1)).mono ?_
      rintro e w2 ⟨rfl, hb2⟩
      have HB2 : As (Below w.heap.size w w2) := ⟨bl_then hb2 (bl_then hb1 hB.out)⟩
      have HX2 := As.mk ((hX.out.below hb1).below hb2)
      have HR2 := As.mk ((hR.out.below hb1).below hb2)
      clear hb1 hb2 c3 c4
      go_wp2_with fail
      refine (productL (K := K) g (genL K fst m) _ _ _ _ _ _ _ _ (HA.out.below (bl_alloc HB2.out)) (HR2.out.below (bl_alloc (bl_refl _))) rd_two1 (genL_length _ _) rfl (by omega) (by simp) (by omega) (by simp)).mono ?_
      rintro e w3 ⟨L', rfl, hown, hb3⟩
      go_wp2
      go_roundw
      case rel => exact ⟨m + 1, L', by go_num, by go_num, by omega, ⟨hown.out.rd⟩, ⟨(HX2.out.below (bl_alloc (bl_refl _))).below hb3⟩, ⟨bl_then hb3 (bl_alloc HB2.out)⟩⟩
      case measure => simp [intOf]; omega
    · have hd : decide (m < par) = false := decide_eq_false hlt
      obtain rfl : m = par := by omega
      go_wp2
      go_ret
      exact ⟨L, rfl, hR, hB.out⟩
end
end Go.Proofs.Ythcjmmicjbfpgaa.Rs

namespace Go.Proofs.Ythcjmmicjbfpgaa.Rs
open Go.RowKit Go.Proofs.Ythcjmmicjbfpgaa.Alg
open GF
set_option linter.unusedSimpArgs false

section
variable {K : Type} [GF K]

/-- the numbers of elements -/
def ints (xs : List K) : List Int := xs.map (fun a => (val a : Int))
theorem ints_length (xs : List K) : (ints xs).length = xs.length := by simp [ints]
theorem ints_getD (xs : List K) {i : Nat} (h : i < xs.length) : (ints xs).getD i 0 = (val (atl xs i) : Int) := by
  unfold ints atl
  rw [List.getD_eq_getElem?_getD, List.getD_eq_getElem?_getD, List.getElem?_map, List.getElem?_eq_getElem h]
  rfl
theorem RdK.toI {w : World} {A : Option Addr} {xs : List K} (h : RdK w A xs) : RdI w A (ints xs) := fun i hi => by
  rw [ints_length] at hi
  obtain ⟨b, o, e, hc⟩ := h i hi
  exact ⟨b, o, e, by rw [ints_getD xs hi]; exact hc⟩
theorem ints_enc (xs : List K) : (ints xs).map (Value.int .i64) = xs.map (fun a => Value.int .i64 (val a)) := by
  unfold ints; rw [List.map_map]; rfl
theorem ownI_K {w : World} {B : Nat} {v : Value} {xs : List K} : OwnI w B v (ints xs) ↔ OwnK w B v xs := by
  unfold OwnI OwnK
  rw [ints_length, ints_enc]
theorem anyOut_K (xs : List K) : anyOut (sz K : Int) (ints xs) = false := by
  unfold anyOut ints
  rw [List.any_eq_false]
  intro x hx
  obtain ⟨a, _, rfl⟩ := List.mem_map.mp hx
  have := val_lt a
  unfold outB
  rw [decide_eq_false (by omega), decide_eq_false (by omega)]
  decide
theorem ci_K {par fst : Nat} (h1 : 1 ≤ par) (h2 : par ≤ sz K - 2) (h3 : fst ≤ sz K - 2) : CI (ch K : Int) (sz K : Int) (po K : Int) par fst := by
  have := sz_two (K := K)
  exact ⟨viB_true.mp (vi_valid (K := K)), by omega, by omega, by omega, by omega⟩
theorem vld_K {par fst : Nat} (h1 : 1 ≤ par) (h2 : par ≤ sz K - 2) (h3 : fst ≤ sz K - 2) (xs : List K) : vldB (ch K : Int) (sz K : Int) (po K : Int) par fst (ints xs) = true := by
  have hc := ci_K (K := K) h1 h2 h3
  unfold vldB newE
  rw [if_neg (fun h => h hc.1), if_pos hc, anyOut_K]
  rfl
theorem vldK (par fst : Nat) (h1 : 1 ≤ par) (h2 : par ≤ sz K - 2) (h3 : fst ≤ sz K - 2) (A : Option Addr) (n cp : Nat) (xs : List K) (w : World) (hr : RdK w A xs) (hn : xs.length = n) (hl : n ≤ 100000) :
    Calls Try.prog 30 #[.agg #[.int .i64 (ch K), .int .i64 (sz K), .int .i64 (po K), .int .i64 par, .int .i64 fst], .slice A n cp] w fun e w' => e = .returned (.bool true) ∧ Below w.heap.size w w' := by
  have := vld_any (ch K) (sz K) (po K) par fst A cp (ints xs) w hr.toI (by rw [ints_length]; omega)
  rw [ints_length, hn, vld_K h1 h2 h3] at this
  exact this
theorem cloneK (A : Option Addr) (n c : Nat) (xs : List K) (w : World) (h : RdK w A xs) (hn : xs.length = n) (hl : n ≤ 1000000) (h0 : 0 < n) :
    Calls Try.prog 37 #[.slice A n c] w fun e w' => ∃ v, e = .returned v ∧ As (OwnK w' w.heap.size v xs) ∧ Below w.heap.size w w' := by
  have := cloneI A c (ints xs) w h.toI (by rw [ints_length]; omega) (fun e => by rw [← List.length_eq_zero_iff, ints_length] at e; omega)
  rw [ints_length, hn] at this
  refine this.mono ?_
  rintro e w' ⟨v, h1, h2, h3⟩
  exact ⟨v, h1, ⟨ownI_K.mp h2.out⟩, h3⟩
theorem OwnK.mono {w : World} {B B' : Nat} {v : Value} {xs : List K} (h : OwnK w B v xs) (hb : B' ≤ B) : OwnK w B' v xs := World.ownsRow.mono h hb
theorem OwnK.below {w w1 : World} {B : Nat} {v : Value} {xs : List K} (h : OwnK w B v xs) (hb : Below w.heap.size w w1) : OwnK w1 B v xs := own_below h hb
theorem OwnK.shape {w : World} {B n : Nat} {v : Value} {xs : List K} (h : OwnK w B v xs) (hn : xs.length = n + 1) : ∃ g cap, v = .slice (some ⟨g, 0, none⟩) (n + 1) cap ∧ B ≤ g := by
  unfold OwnK at h
  rw [hn] at h
  obtain ⟨g, cap, rfl⟩ := own_succ h
  exact ⟨g, cap, rfl, (own_block h rfl).1⟩

theorem OwnK.cell {w : World} {B g n c : Nat} {ys : List K} (h : OwnK w B (.slice (some ⟨g, 0, none⟩) n c) ys) (hl : ys.length = n) {j : Nat} (hj : j < n) :
    w.cell? ⟨g, j, none⟩ = some (.int .i64 (val (atl ys j))) ∧ w.frozen? ⟨g, j, none⟩ = false := by
  unfold OwnK at h
  rw [hl] at h
  exact own_cell h hl hj
theorem OwnK.put {w : World} {B g n c : Nat} {ys : List K} (h : OwnK w B (.slice (some ⟨g, 0, none⟩) n c) ys) (hl : ys.length = n) (j : Nat) (a : K) : OwnK (w.setCell ⟨g, j, none⟩ (.int .i64 (val a))) B (.slice (some ⟨g, 0, none⟩) n c) (ys.set j a) := by
  unfold OwnK at h ⊢
  rw [List.length_set, hl]
  rw [hl] at h
  exact OwnK.set h j a
theorem OwnK.cap {w : World} {B n c : Nat} {A : Option Addr} {xs : List K} (h : OwnK w B (.slice A n c) xs) : xs.length ≤ c := by
  obtain ⟨A', c', e, h4, _, _⟩ := h.read
  injection e with e1 e2 e3
  omega
theorem rd0 {w : World} {L : Nat} {xs : List K} (h : RdK w (some ⟨L, 0, none⟩) xs) {i : Nat} (hi : i < xs.length) : w.cell? ⟨L, i, none⟩ = some (.int .i64 (val (atl xs i))) := by
  obtain ⟨b, o, e, hc⟩ := h i hi
  cases e
  rw [Nat.zero_add] at hc
  exact hc
theorem OwnK.lo {w : World} {B g n c : Nat} {ys : List K} (h : OwnK w B (.slice (some ⟨g, 0, none⟩) n c) ys) : B ≤ g := (own_block h rfl).1
/-- append of one number to a row of the call's own -/
theorem appK {ops : Array Oper} {rest : List Oper} {o : Oper} {a : Act} {Q : Exit → Act → World → Prop} (w : World) (hgd : o.guard = none) (s x : Operand)
    (ho : o.op = .call { callee := .builtin .append, args := #[s, x], argTypes := #[30, 30] })
    (B : Nat) (v : Value) (ys : List K) (hs : a.eval s = v) (hown : OwnK w B v ys) (nb c : Nat) (y : K)
    (hx : a.eval x = .slice (some ⟨nb, 0, none⟩) 1 c) (hc : w.cell? ⟨nb, 0, none⟩ = some (.int .i64 (val y))) (hn : ys.length < 1000000) (hB : B ≤ w.heap.size)
    (h : ∀ v' w', OwnK w' B v' (ys ++ [y]) → Below B w w' → wpList Try.prog ops Q rest (a.put o.dst v') w') : wpList Try.prog ops Q (o :: rest) a w :=
  app1 w hgd s x ho B v ys.length _ hs hown nb c (val y) hx hc hn hB (fun v' w' h1 h2 => h v' w' (by
    unfold OwnK
    rw [List.length_append, List.map_append]
    exact h1) ((Below.refl B w).grown h2 hB (fun k e => (own_block hown e).1)))
/-- append onto a slice without room: the three-index form -/
theorem app_grow {ops : Array Oper} {rest : List Oper} {o : Oper} {a : Act} {Q : Exit → Act → World → Prop} (w : World) (hgd : o.guard = none) (s x : Operand)
    (ho : o.op = .call { callee := .builtin .append, args := #[s, x], argTypes := #[30, 30] })
    (L q : Nat) (zs : List K) (ao : Option Addr) (hs : a.eval s = .slice ao q q) (hao : ao = some ⟨L, 1, none⟩ ∨ q = 0 ∧ ao ≠ none) (hz : zs.length = q + 1) (B cap : Nat) (hown : OwnK w B (.slice (some ⟨L, 0, none⟩) (q + 1) cap) zs) (nb c : Nat) (y : K)
    (hx : a.eval x = .slice (some ⟨nb, 0, none⟩) 1 c) (hc : w.cell? ⟨nb, 0, none⟩ = some (.int .i64 (val y))) (hn : q < 1000000)
    (h : ∀ v' w', OwnK w' w.heap.size v' (zs.drop 1 ++ [y]) → Below w.heap.size w w' → wpList Try.prog ops Q rest (a.put o.dst v') w') : wpList Try.prog ops Q (o :: rest) a w := by
  obtain ⟨i0, hi, hz0, hz1, hz2⟩ := info_parts Try.infoI
  have hlen : ((zs.drop 1 ++ [y]).map (fun a => Value.int .i64 (val a))) = (zs.drop 1).map (fun a => Value.int .i64 (val a)) ++ [.int .i64 (val y)] := by rw [List.map_append]; rfl
  refine wpList_append_grows w hgd s x 30 ho 3 i0 (.int .i64 0) 1 8 Try.underlying30 hi hz0 hz1 hz2 rfl (by decide) ao q q ((zs.drop 1).map (fun a => Value.int .i64 (val a))) hs (fun e => by rcases hao with h | h; (rw [h] at e; cases e); exact absurd e h.2) (by simp [hz]) ?_ ⟨nb, 0, none⟩ 1 c [.int .i64 (val y)] hx rfl ?_ ?_ (by omega) ?_ (by omega)
    (fun v' w' h1 h2 => h v' w' ?_ ((bl_refl w).grown h2 (Nat.le_refl _) (fun k e => by cases e)))
  · intro b hb j u hj
    have hj2 : j < q := by
      have := (List.getElem?_eq_some_iff.mp hj).1
      simp [hz] at this; omega
    have hab : ao = some ⟨L, 1, none⟩ := by
      rcases hao with h | h
      · exact h
      · omega
    rw [hab] at hb
    cases hb
    have hcell := (hown.cell hz (j := 1 + j) (by omega)).1
    rw [Addr.add_lit, hcell]
    rw [List.getElem?_map, List.getElem?_drop, List.getElem?_eq_getElem (by omega)] at hj
    cases hj
    have : atl zs (1 + j) = zs[1 + j] := by unfold atl; rw [List.getD_eq_getElem?_getD, List.getElem?_eq_getElem (by omega)]; rfl
    rw [this]
  · intro j u hj
    have : j = 0 := by
      have := (List.getElem?_eq_some_iff.mp hj).1
      simp at this; omega
    subst this
    simp at hj
    subst hj
    exact hc
  · intro u hu
    simp at hu
    subst hu
    rfl
  · simp [maxLen]; omega
  · unfold OwnK
    rw [hlen]
    have e : (zs.drop 1 ++ [y]).length = q + 1 := by simp [hz]
    rw [e]
    exact h1

set_option maxRecDepth 100000 in
set_option maxHeartbeats 3200000 in
theorem encodeK (par fst : Nat) (h1 : 1 ≤ par) (h2 : par ≤ sz K - 2) (h3 : fst ≤ sz K - 2) (A : Option Addr) (cp : Nat) (xs : List K) (hx1 : 1 ≤ xs.length) (hx2 : xs.length ≤ sz K - 1 - par) (w : World) (hr : RdK w A xs) :
    Calls Try.prog 16 #[.agg #[.int .i64 (ch K), .int .i64 (sz K), .int .i64 (po K), .int .i64 par, .int .i64 fst], .slice A xs.length cp] w fun e w' =>
      ∃ v, e = .returned (.tuple #[v, .int .i64 0]) ∧ As (OwnK w' w.heap.size v (encL (genL K fst par) par xs)) ∧ Below w.heap.size w w' := by
  have hs := sz_two (K := K)
  have hs2 := sz_max (K := K)
  have HR := As.mk hr
  have HS := As.mk hs
  have HS2 := As.mk hs2
  clear hr
  obtain ⟨N, hN⟩ : ∃ N, xs.length = N := ⟨_, rfl⟩
  have HN := As.mk hN
  rw [hN] at hx1 hx2 ⊢
  clear hN
  obtain ⟨q, rfl⟩ : ∃ q, par = q + 1 := ⟨par - 1, by omega⟩
  have g1 : decide ((N : Int) < 1) = false := decide_eq_false (by omega)
  have g2 : decide ((sz K : Int) - 1 - ((q + 1 : Nat) : Int) < (N : Int)) = false := decide_eq_false (by omega)
  have e1 : IntKind.i64.wrap ((sz K : Int) - 1) = (sz K : Int) - 1 := in64 (by omega) (by omega)
  have e2 : IntKind.i64.wrap ((sz K : Int) - 1 - ((q + 1 : Nat) : Int)) = (sz K : Int) - 1 - ((q + 1 : Nat) : Int) := in64 (by omega) (by omega)
  have hmk : ∀ w : World, (Instr.makeSlice 30 (.int .i64 ((q : Int) + 1)) (.int .i64 ((q : Int) + 1))).run Try.prog w = .ok (.slice (some ⟨w.heap.size, 0, none⟩) (q + 1) (q + 1)) (w.alloc (.cells (zeros (q + 1)) 3)) := fun w => mk_ints (n := q + 1) (by omega) w
  obtain ⟨gn, hgn⟩ : ∃ gn, genL K fst (q + 1) = gn := ⟨_, rfl⟩
  have HGN := As.mk hgn
  have HGL : As (gn.length = q + 1 + 1) := ⟨by rw [← hgn]; exact genL_length _ _⟩
  rw [hgn]
  clear hgn
  go_enter Try.func16, Try.ntmps16
  have HX := As.mk (Box5.new (w := w) (x := ch K) (y := sz K) (z := po K) (u := (q + 1 : Nat)) (v := fst) (t := 25))
  have HB : As (Below w.heap.size w (w.alloc (.cells #[.int .i64 (ch K), .int .i64 (sz K), .int .i64 (po K), .int .i64 (q + 1 : Nat), .int .i64 fst] 25))) := ⟨bl_alloc (bl_refl _)⟩
  go_wp2_with fail
  refine (vldK (K := K) (q + 1) fst h1 h2 h3 A N cp xs _ (HR.out.below HB.out) HN.out (by omega)).mono ?_
  rintro e wa ⟨rfl, hba⟩
  have HXa := As.mk (HX.out.below hba)
  have HBa : As (Below w.heap.size w wa) := ⟨bl_then hba HB.out⟩
  have c0 := HXa.out.c0
  have c1 := HXa.out.c1
  have c2 := HXa.out.c2
  have c3 := HXa.out.c3
  have c4 := HXa.out.c4
  clear hba HX HB
  go_wp2_with fail
  refine (tablesK (K := K) _).mono ?_
  rintro e wb ⟨g, rfl, hAr, hbb⟩
  have HXb := As.mk (HXa.out.below hbb)
  have HBb : As (Below w.heap.size w wb) := ⟨bl_then hbb HBa.out⟩
  have HAb := As.mk hAr
  clear hbb hAr HXa HBa c0 c1 c2 c3 c4
  have c0 := HXb.out.c0
  have c1 := HXb.out.c1
  have c2 := HXb.out.c2
  have c3 := HXb.out.c3
  have c4 := HXb.out.c4
  go_wp2_with fail
  refine (generatorAK (K := K) g (q + 1) fst (by omega) (by omega) _ HAb.out).mono ?_
  rintro e wq ⟨Lg, rfl, hG, hbc⟩
  have HXc := As.mk (HXb.out.below hbc)
  have HBc : As (Below w.heap.size w wq) := ⟨bl_then hbc HBb.out⟩
  have HAc := As.mk (HAb.out.below hbc)
  clear hbc HAb HXb HBb c0 c1 c2 c3 c4
  rw [HGN.out] at hG
  have c3 := HXc.out.c3
  go_wp2
  have HO : As (OwnK (wq.alloc (.cells (zeros (q + 1)) 3)) wq.heap.size (.slice (some ⟨wq.heap.size, 0, none⟩) (q + 1) (q + 1)) (List.replicate (q + 1) (0 : K))) := ⟨by
    have := zeros_own (W := wq) (B := wq.heap.size) (n := q + 1) (Nat.le_refl _) (by have := HS2.out; omega)
    rw [zeros_K (K := K)] at this
    unfold OwnK
    rw [List.length_replicate]
    exact this⟩
  have HBd : As (Below wq.heap.size wq (wq.alloc (.cells (zeros (q + 1)) 3))) := ⟨bl_alloc (bl_refl _)⟩
  clear c3 hmk
  obtain ⟨wd, hwd⟩ : ∃ wd, wq.alloc (.cells (zeros (q + 1)) 3) = wd := ⟨_, rfl⟩
  rw [hwd] at HO HBd ⊢
  obtain ⟨L0, hL0⟩ : ∃ L0, wq.heap.size = L0 := ⟨_, rfl⟩
  have HL0 := As.mk hL0
  rw [hL0] at HO ⊢
  clear hwd hL0 e1 e2 g1 g2
  go_loopw [8, 48] (fun v k wr => ∃ m L cap : Nat, v = .slice (some ⟨L, 0, none⟩) (q + 1) cap ∧ k = .int .i64 m ∧ m ≤ N ∧ As (OwnK wr L0 v (remL gn (q + 1) (xs.take m))) ∧ As (Below wq.heap.size wq wr)) (fun _ k _ => N - (intOf k).toNat)
  case atStart => exact ⟨0, L0, q + 1, rfl, rfl, by omega, HO, HBd⟩
  case round =>
    clear HO HBd
    obtain ⟨m, L, cap, rfl, rfl, hm, hO, hB⟩ := hrel
    by_cases hlt : m < N
    · have hd : decide (m < N) = true := decide_eq_true hlt
      obtain ⟨b, o, rfl, hc⟩ := ((HR.out.below HBc.out).below hB.out) m (by have := HN.out; omega)
      obtain ⟨zs, hzs⟩ : ∃ zs, remL gn (q + 1) (xs.take m) = zs := ⟨_, rfl⟩
      have HZS := As.mk hzs
      rw [hzs] at hO
      have HZL : As (zs.length = q + 1) := ⟨by rw [← hzs]; exact remL_length _ _ _⟩
      clear hzs
      obtain ⟨k0, f0⟩ := hO.out.cell HZL.out (j := 0) (by omega)
      go_wp2_with fail
      refine (addK (K := K) g (atl xs m) (atl zs 0) _ (HAc.out.below hB.out)).mono ?_
      rintro e we ⟨rfl, hbe⟩
      have HOe := As.mk (hO.out.below hbe)
      have HBe : As (Below wq.heap.size wq we) := ⟨bl_then hbe hB.out⟩
      clear hbe hO hB hc k0 f0
      have hcap : q + 1 ≤ cap := by rw [← HZL.out]; exact HOe.out.cap
      have hN1 : As ((zs.drop 1 ++ [(0 : K)]).length = q + 1) := ⟨by simp [HZL.out]⟩
      go_upto_region 12 with fail
      go_cut [8, 48] from 48 to 92 (fun v k wr => ∃ L' cap' : Nat, v = .slice (some ⟨L', 0, none⟩) (q + 1) cap' ∧ k = .int .i64 m ∧ As (OwnK wr L0 v (zs.drop 1 ++ [0])) ∧ As (Below wq.heap.size wq wr))
      case first =>
        by_cases hq : q = 0
        · subst hq
          go_wp2_with (at_builtin; refine app_grow (K := K) _ rfl _ _ rfl L 0 zs _ rfl (Or.inr ⟨rfl, by simp⟩) HZL.out L0 cap (HOe.out.below (bl_alloc (bl_refl _))) we.heap.size 1 0 rfl (by rw [val_zero]; simp [go_sem]) (by omega) ?_; intro v' w2 hown hb2)
          obtain ⟨L', cap', rfl, _⟩ := hown.shape hN1.out
          go_meet
          exact ⟨L', cap', rfl, rfl, ⟨hown.mono (by have := HBe.out.size; have := HL0.out; simp; omega)⟩, ⟨bl_then hb2 (bl_alloc HBe.out)⟩⟩
        · go_wp2_with (at_builtin; refine app_grow (K := K) _ rfl _ _ rfl L q zs _ rfl (Or.inl rfl) HZL.out L0 cap (HOe.out.below (bl_alloc (bl_refl _))) we.heap.size 1 0 rfl (by rw [val_zero]; simp [go_sem]) (by have := HS2.out; omega) ?_; intro v' w2 hown hb2)
          obtain ⟨L', cap', rfl, _⟩ := hown.shape hN1.out
          go_meet
          exact ⟨L', cap', rfl, rfl, ⟨hown.mono (by have := HBe.out.size; have := HL0.out; simp; omega)⟩, ⟨bl_then hb2 (bl_alloc HBe.out)⟩⟩
      case rest =>
        clear HOe HBe
        obtain ⟨L', cap', rfl, rfl, hO, hB⟩ := hcut
        go_wp2
        go_loopw [68] (fun i wr => ∃ j : Nat, i = .int .i64 j ∧ j ≤ q + 1 ∧ As (∃ ys, RemI gn (q + 1) zs (atl xs m) j ys ∧ OwnK wr L0 (.slice (some ⟨L', 0, none⟩) (q + 1) cap') ys) ∧ As (Below wq.heap.size wq wr)) (fun i _ => q + 1 - (intOf i).toNat)
        case atStart => exact ⟨0, rfl, by omega, ⟨_, RemI.start HZL.out (by omega), hO.out⟩, hB⟩
        case round =>
          clear hO hB
          obtain ⟨j, rfl, hj, hO, hB⟩ := hrel
          by_cases hlt2 : j < q + 1
          · have hd2 : decide (j < q + 1) = true := decide_eq_true hlt2
            obtain ⟨ys, hI, hown⟩ := hO.out
            have HI := As.mk hI
            have HOW := As.mk hown
            clear hI hown hO
            obtain ⟨hc1, hf1⟩ := HOW.out.cell HI.out.1 (j := j) hlt2
            have c3 := (HXc.out.below hB.out).c3
            obtain ⟨r, hr⟩ : ∃ r, q + 1 - 1 - j = r := ⟨_, rfl⟩
            have HRR := As.mk hr
            have hcg := rd0 (hG.out.below hB.out) (i := r) (by have := HGL.out; omega)
            have hA := As.mk (HAc.out.below hB.out)
            have e3 : (q : Int) - (j : Int) = (r : Int) := by omega
            have e4 : IntKind.i64.wrap (q : Int) = (q : Int) := in64 (by omega) (by have := HS2.out; omega)
            have e5 : IntKind.i64.wrap (r : Int) = (r : Int) := in64 (by omega) (by have := HS2.out; omega)
            have g5 : (r : Int) < (q : Int) + 1 + 1 := by omega
            clear hr
            go_wp2
            refine wp_region_obl (fun w' => Below wr.heap.size wr w') (by kernel_rfl) (by kernel_rfl) (by kernel_rfl) (bl_drew (bl_refl _)) ?_
            iterate 17 (apply Obl.val; · (intro w' hS; have k1 := cell_below hS hc1; have k2 := cell_below hS c3; have k3 := cell_below hS hcg; go_simp; rfl))
            apply Obl.call
            · intro w' hS
              go_simp
              refine ⟨_, _, ⟨rfl, rfl⟩, ?_⟩
              refine (mulAK (K := K) g (atl xs m + atl zs 0) (atl gn r) _ (hA.out.below hS)).mono ?_
              rintro e w1 ⟨rfl, hb⟩
              exact ⟨rfl, bl_then hb hS⟩
            apply Obl.call
            · intro w' hS
              go_simp
              refine ⟨_, _, ⟨rfl, rfl⟩, ?_⟩
              refine (subK (K := K) g (atl ys j) ((atl xs m + atl zs 0) * atl gn r) _ (hA.out.below hS)).mono ?_
              rintro e w1 ⟨rfl, hb⟩
              exact ⟨rfl, bl_then hb hS⟩
            apply Obl.val
            · intro w' hS
              go_simp
              rfl
            refine Last.store (fun w' hS => ?_)
            obtain ⟨k1, kf⟩ := keep_cf hS ⟨hc1, hf1⟩
            have HSS := As.mk hS
            clear hS
            apply Stored.of
            · go_simp; rfl
            go_simp
            go_wp2
            go_roundw
            case rel => exact ⟨j + 1, by go_num, by omega, ⟨_, by rw [← HRR.out] at *; exact HI.out.step hlt2, (HOW.out.below HSS.out).put HI.out.1 j _⟩, ⟨bl_set (by have := HOW.out.lo; have := HL0.out; show wq.heap.size ≤ L'; omega) (bl_then HSS.out hB.out)⟩⟩
            case measure => simp [intOf]; omega
          · have hd2 : decide (j < q + 1) = false := decide_eq_false hlt2
            have hje : As (j = q + 1) := ⟨by omega⟩
            obtain ⟨ys, hI, hown⟩ := hO.out
            have HRS : As (ys = remL gn (q + 1) (xs.take (m + 1))) := ⟨by
              rw [hje.out] at hI
              rw [hI.last, remL_take (by have := HN.out; omega), HZS.out]⟩
            have HOW := As.mk hown
            clear hI hown hO
            go_wp2
            go_roundw
            case rel => exact ⟨m + 1, L', cap', rfl, by go_num, by omega, ⟨by rw [← HRS.out]; exact HOW.out⟩, hB⟩
            case measure => simp [intOf]; omega
    · have hd : decide (m < N) = false := decide_eq_false hlt
      have hme : As (m = N) := ⟨by omega⟩
      obtain ⟨zs, hzs⟩ : ∃ zs, remL gn (q + 1) (xs.take m) = zs := ⟨_, rfl⟩
      have HZS : As (remL gn (q + 1) xs = zs) := ⟨by rw [← hzs, hme.out, ← HN.out, List.take_length]⟩
      have HZL : As (zs.length = q + 1) := ⟨by rw [← hzs]; exact remL_length _ _ _⟩
      rw [hzs] at hO
      clear hzs
      obtain ⟨wz, hwz⟩ : ∃ wz, wr = wz := ⟨_, rfl⟩
      rw [hwz] at hO hB ⊢
      clear hwz
      go_wp2_with fail
      refine (cloneK (K := K) A N cp xs _ ((HR.out.below HBc.out).below hB.out) HN.out (by omega) hx1).mono ?_
      rintro e wk ⟨vo, rfl, hcl, hbk⟩
      have HBk := As.mk hbk
      clear hbk
      obtain ⟨L1, hL1⟩ : ∃ L1, wz.heap.size = L1 := ⟨_, rfl⟩
      have HL1 := As.mk hL1
      rw [hL1] at hcl
      clear hL1
      go_wp2
      go_loopw [13, 97] (fun v k wr => ∃ i : Nat, k = .int .i64 i ∧ i ≤ q + 1 ∧ As (OwnK wr L1 v (xs ++ (zs.take i).map (fun r => 0 - r))) ∧ As (Below wz.heap.size wz wr)) (fun _ k _ => q + 1 - (intOf k).toNat)
      case atStart => exact ⟨0, rfl, by omega, ⟨by rw [List.take_zero, List.map_nil, List.append_nil]; exact hcl.out⟩, HBk⟩
      case round =>
        clear hcl HBk
        obtain ⟨i, rfl, hi, hV, hBz⟩ := hrel
        by_cases hlt3 : i < q + 1
        · have hd3 : decide (i < q + 1) = true := decide_eq_true hlt3
          have hcr := ((hO.out.below hBz.out).cell HZL.out hlt3).1
          have hA := As.mk ((HAc.out.below hB.out).below hBz.out)
          go_wp2_with fail
          refine (sub0K (K := K) g _ _ hA.out).mono ?_
          rintro e wl ⟨rfl, hbl⟩
          have hVl := As.mk (hV.out.below hbl)
          have hBl : As (Below wz.heap.size wz wl) := ⟨bl_then hbl hBz.out⟩
          have hXL : As ((xs ++ (zs.take i).map (fun r => 0 - r)).length < 1000000) := ⟨by have := HS2.out; simp [HN.out, HZL.out]; omega⟩
          clear hbl hcr hV hBz hA
          go_wp2_with (at_builtin; refine appK (K := K) _ rfl _ _ rfl L1 _ _ rfl (hVl.out.below (bl_alloc (bl_refl _))) wl.heap.size 1 (0 - atl zs i) rfl (by simp [go_sem]) hXL.out (by have := hBl.out.size; have := HL1.out; simp; omega) ?_; intro v' w2 hown hb2)
          go_roundw
          case rel => exact ⟨i + 1, by go_num, by omega, ⟨by
            have e : zs.take (i + 1) = zs.take i ++ [atl zs i] := by
              rw [List.take_succ_eq_append_getElem (by rw [HZL.out]; exact hlt3)]
              congr 2
              unfold atl
              rw [List.getD_eq_getElem?_getD, List.getElem?_eq_getElem (by rw [HZL.out]; exact hlt3)]; rfl
            rw [e, List.map_append, ← List.append_assoc]
            exact hown⟩, ⟨(bl_alloc hBl.out).trans (by rw [HL1.out]; exact hb2)⟩⟩
          case measure => simp [intOf]; omega
        · have hd3 : decide (i < q + 1) = false := decide_eq_false hlt3
          have hie : As (i = q + 1) := ⟨by omega⟩
          go_wp2
          go_ret2
          refine ⟨_, rfl, ⟨?_⟩, bl_then hBz.out (bl_then hB.out HBc.out)⟩
          have e := hV.out
          rw [hie.out, ← HZL.out, List.take_length] at e
          unfold encL
          rw [HZS.out]
          exact e.mono (by rw [← HL1.out]; exact Nat.le_trans HBc.out.size hB.out.size)
end
end Go.Proofs.Ythcjmmicjbfpgaa.Rs
