/-
The examples in the field of seven elements, reckoned.
The walk of the examples: alive answers true.
A question's cells, and the walk of small.
What entries answer, in the field that the numbers tell.
-/
import Derived.Test.YthcjmmicjbfpgaaJLo
import Derived.Test.YthcjmmicjbfpgaaJAa
import Derived.Test.YthcjmmicjbfpgaaJDe
import Derived.Test.YthcjmmicjbfpgaaJRa
import Derived.Test.YthcjmmicjbfpgaaJSy
namespace Go.Proofs.Ythcjmmicjbfpgaa.Rs
open Go.RowKit Go.Proofs.Ythcjmmicjbfpgaa.Alg
open GF

/-- elements by their numbers -/
def e7 (l : List (Fin 7)) : List F7 := l.map F7.mk
theorem a_gen : genL F7 0 2 = e7 [3, 3, 1] := by
  simp only [genL, F7.gz_is]
  kernel_rfl
theorem a_enc : encL (genL F7 0 2) 2 (e7 [1]) = e7 [1, 3, 3] := by
  rw [a_gen]
  kernel_rfl
theorem a_syn : synL 0 2 (e7 [1, 3, 4]) = e7 [1, 1] := by
  unfold synL
  simp only [F7.gz_is]
  kernel_rfl
theorem a_sig : sigL (e7 [1, 3]) = e7 [1, 4] := by kernel_rfl
theorem a_syn0 : synL 0 2 (e7 [1, 3, 3]) = e7 [0, 0] := by
  unfold synL
  simp only [F7.gz_is]
  kernel_rfl
theorem a_syn2 : synL 0 2 (e7 [0, 0, 3]) = e7 [3, 3] := by
  unfold synL
  simp only [F7.gz_is]
  kernel_rfl
section
variable {K : Type} [GF K]
theorem corS_hit {fst : Nat} {om lc : List K} {n : Nat} {word out : List K} {i f : Nat} (h : corS fst om lc n word i = some (out, f)) (hr : roo lc n i) (hs : slo lc n i ≠ 0) : corS fst om lc n word (i + 1) = some (out.set i (atl out i + valE fst om lc n i), f + 1) := by
  unfold corS
  rw [h]
  simp only
  rw [if_pos hr, if_neg hs]
theorem corS_miss {fst : Nat} {om lc : List K} {n : Nat} {word out : List K} {i f : Nat} (h : corS fst om lc n word i = some (out, f)) (hr : ¬ roo lc n i) : corS fst om lc n word (i + 1) = some (out, f) := by
  unfold corS
  rw [h]
  simp only
  rw [if_neg hr]
end
theorem bk7 (n i : Nat) : bk F7 n i = F7.tab ((-((n : Int) - 1 - (i : Int))) % 6).toNat := by unfold bk; rw [F7.gz_is]
theorem ne7 {a b : F7} (h : (a.v == b.v) = false) : a ≠ b := fun e => by rw [e] at h; simp at h
theorem a_lost : lostL [] = [] := by
  unfold lostL srtL
  rw [List.mergeSort_nil]
  kernel_rfl
theorem a_lost2 : lostL [0, 1] = [0, 1] := by
  unfold lostL srtL
  rw [List.mergeSort_of_pairwise (by decide)]
  kernel_rfl
theorem a_gam : gamL F7 3 [0, 1] = e7 [1, 2, 6] := by
  unfold gamL
  simp only [F7.gz_is]
  kernel_rfl
theorem a_dec : decL 0 2 (e7 [1, 3, 4]) [] = some (e7 [1, 3, 3]) := by
  unfold decL
  rw [a_syn]
  have h1 : gamL F7 (e7 [1, 3, 4]).length [] = e7 [1] := rfl
  have h2 : modL (e7 [1, 1]) (e7 [1]) = e7 [1, 1] := by kernel_rfl
  have h3 : sigL (e7 [1, 1]) = e7 [1, 6] := by kernel_rfl
  have h4 : sizL (e7 [1, 1]) = 1 := by kernel_rfl
  have h5 : mulL (e7 [1, 6]) (e7 [1]) = e7 [1, 6] := by kernel_rfl
  have h6 : (mulL (e7 [1, 1]) (e7 [1, 6])).take 2 = e7 [1, 0] := by kernel_rfl
  rw [h1, h2, h3, h4, h5, h6, if_neg (by decide), if_neg (by decide)]
  have c0 : corS 0 (e7 [1, 0]) (e7 [1, 6]) 3 (e7 [1, 3, 4]) 0 = some (e7 [1, 3, 4], 0) := rfl
  have c1 := corS_miss c0 (by unfold roo; rw [bk7]; exact ne7 (by kernel_rfl))
  have c2 := corS_miss c1 (by unfold roo; rw [bk7]; exact ne7 (by kernel_rfl))
  have c3 := corS_hit c2 (by unfold roo; rw [bk7]; kernel_rfl) (by unfold slo; rw [bk7]; exact ne7 (by kernel_rfl))
  have e3 : (e7 [1, 3, 4]).set 2 (atl (e7 [1, 3, 4]) 2 + valE 0 (e7 [1, 0]) (e7 [1, 6]) 3 2) = e7 [1, 3, 3] := by
    unfold valE slo
    rw [bk7, F7.gz_is]
    kernel_rfl
  rw [e3] at c3
  show finL 0 2 _ _ _ (corS 0 (e7 [1, 0]) (e7 [1, 6]) 3 (e7 [1, 3, 4]) 3) = _
  rw [c3]
  refine if_pos ⟨rfl, ?_⟩
  unfold witB
  rw [a_syn0]
  kernel_rfl
theorem a_dec2 : decL 0 2 (e7 [0, 0, 3]) [0, 1] = some (e7 [1, 3, 3]) := by
  unfold decL
  rw [a_syn2]
  have h1 : gamL F7 (e7 [0, 0, 3]).length [0, 1] = e7 [1, 2, 6] := a_gam
  have h2 : modL (e7 [3, 3]) (e7 [1, 2, 6]) = e7 [] := by kernel_rfl
  have h3 : sigL (e7 []) = e7 [1] := by kernel_rfl
  have h4 : sizL (e7 []) = 0 := by kernel_rfl
  have h5 : mulL (e7 [1]) (e7 [1, 2, 6]) = e7 [1, 2, 6] := by kernel_rfl
  have h6 : (mulL (e7 [3, 3]) (e7 [1, 2, 6])).take 2 = e7 [3, 2] := by kernel_rfl
  rw [h1, h2, h3, h4, h5, h6, if_neg (by decide), if_neg (by decide)]
  have c0 : corS 0 (e7 [3, 2]) (e7 [1, 2, 6]) 3 (e7 [0, 0, 3]) 0 = some (e7 [0, 0, 3], 0) := rfl
  have c1 := corS_hit c0 (by unfold roo; rw [bk7]; kernel_rfl) (by unfold slo; rw [bk7]; exact ne7 (by kernel_rfl))
  have e1 : (e7 [0, 0, 3]).set 0 (atl (e7 [0, 0, 3]) 0 + valE 0 (e7 [3, 2]) (e7 [1, 2, 6]) 3 0) = e7 [1, 0, 3] := by
    unfold valE slo
    rw [bk7, F7.gz_is]
    kernel_rfl
  rw [e1] at c1
  have c2 := corS_hit c1 (by unfold roo; rw [bk7]; kernel_rfl) (by unfold slo; rw [bk7]; exact ne7 (by kernel_rfl))
  have e2 : (e7 [1, 0, 3]).set 1 (atl (e7 [1, 0, 3]) 1 + valE 0 (e7 [3, 2]) (e7 [1, 2, 6]) 3 1) = e7 [1, 3, 3] := by
    unfold valE slo
    rw [bk7, F7.gz_is]
    kernel_rfl
  have c2' : corS 0 (e7 [3, 2]) (e7 [1, 2, 6]) 3 (e7 [0, 0, 3]) 2 = some (e7 [1, 3, 3], 2) := by rw [← e2]; exact c2
  have c3 := corS_miss c2' (by unfold roo; rw [bk7]; exact ne7 (by kernel_rfl))
  show finL 0 2 _ _ _ (corS 0 (e7 [3, 2]) (e7 [1, 2, 6]) 3 (e7 [0, 0, 3]) 3) = _
  rw [c3]
  refine if_pos ⟨rfl, ?_⟩
  unfold witB
  rw [a_syn0]
  kernel_rfl
end Go.Proofs.Ythcjmmicjbfpgaa.Rs

namespace Go.Proofs.Ythcjmmicjbfpgaa.Rs
open Go.RowKit Go.Proofs.Ythcjmmicjbfpgaa.Alg
open GF
set_option linter.unusedSimpArgs false

open Classical in
theorem new_ok {c s p par fst : Int} (h : CI c s p par fst) : newV c s p par fst = .agg #[.int .i64 c, .int .i64 s, .int .i64 p, .int .i64 par, .int .i64 fst] ∧ newE c s p par fst = 0 := by
  unfold newV newE
  rw [if_pos h, if_neg (fun k => k h.1), if_pos h]
  exact ⟨rfl, rfl⟩
theorem ci7 : CI 7 7 0 2 0 := ci_K (K := F7) (par := 2) (fst := 0) (by decide) (by decide) (by decide)
theorem new7 (w : World) : Calls Try.prog 9 #[.agg #[.int .i64 7, .int .i64 7, .int .i64 0], .int .i64 2, .int .i64 0] w fun e w' => e = .returned (.tuple #[.agg #[.int .i64 7, .int .i64 7, .int .i64 0, .int .i64 2, .int .i64 0], .int .i64 0]) ∧ Below w.heap.size w w' := by
  have h := new_any 7 7 0 2 0 w
  rw [(new_ok ci7).1, (new_ok ci7).2] at h
  exact h
/-- a row that reads a list -/
theorem ownK_sl {w : World} {B : Nat} {v : Value} {l : List (Fin 7)} {xs : List Int} {n : Nat} (h : OwnK w B v (e7 l)) (hx : ints (e7 l) = xs) (hn : xs.length = n) : ∃ A c, v = .slice A n c ∧ As (RdI w A xs) := by
  have := ownI_K.mpr h
  rw [hx] at this
  obtain ⟨A, c, e, _, hr, _⟩ := this.read
  rw [hn] at e
  exact ⟨A, c, e, ⟨hr⟩⟩
theorem gen7 (w : World) : Calls Try.prog 12 #[.agg #[.int .i64 7, .int .i64 7, .int .i64 0, .int .i64 2, .int .i64 0]] w fun e w' =>
    ∃ A c, e = .returned (.tuple #[.slice A 3 c, .int .i64 0]) ∧ As (RdI w' A [3, 3, 1]) ∧ Below w.heap.size w w' := by
  refine (generatorC (K := F7) 2 0 (by decide) (by decide) (by decide) w).mono ?_
  rintro e w' ⟨v, rfl, ho, hb⟩
  have h := ho.out
  rw [a_gen] at h
  exact ⟨_, _, rfl, ⟨h.toI⟩, hb⟩
theorem rdK_7 {w : World} {A : Option Addr} {xs : List Int} (l : List (Fin 7)) (h : RdI w A xs) (hx : ints (e7 l) = xs) : RdK w A (e7 l) := fun i hi => by
  obtain ⟨b, o, e, hc⟩ := h i (by rw [← hx, ints_length]; exact hi)
  refine ⟨b, o, e, ?_⟩
  rw [hc, ← hx, ints_getD _ hi]
theorem enc7 (A0 : Option Addr) (c0 : Nat) (w : World) (h : RdI w A0 [1]) : Calls Try.prog 16 #[.agg #[.int .i64 7, .int .i64 7, .int .i64 0, .int .i64 2, .int .i64 0], .slice A0 1 c0] w fun e w' =>
    ∃ A c, e = .returned (.tuple #[.slice A 3 c, .int .i64 0]) ∧ As (RdI w' A [1, 3, 3]) ∧ Below w.heap.size w w' := by
  refine (encodeK (K := F7) 2 0 (by decide) (by decide) (by decide) A0 c0 (e7 [1]) (by decide) (by decide) w (rdK_7 [1] h rfl)).mono ?_
  rintro e w' ⟨v, rfl, ho, hb⟩
  have h := ho.out
  rw [a_enc] at h
  obtain ⟨A, c, rfl, hr⟩ := ownK_sl (n := 3) h rfl rfl
  exact ⟨A, c, rfl, hr, hb⟩
theorem syn7 (A0 : Option Addr) (c0 : Nat) (w : World) (h : RdI w A0 [1, 3, 4]) : Calls Try.prog 18 #[.agg #[.int .i64 7, .int .i64 7, .int .i64 0, .int .i64 2, .int .i64 0], .slice A0 3 c0] w fun e w' =>
    ∃ A c, e = .returned (.tuple #[.slice A 2 c, .int .i64 0]) ∧ As (RdI w' A [1, 1]) ∧ Below w.heap.size w w' := by
  refine (syndromesC (K := F7) 2 0 (by decide) (by decide) (by decide) A0 c0 (e7 [1, 3, 4]) (by decide) (by decide) w (rdK_7 [1, 3, 4] h rfl)).mono ?_
  rintro e w' ⟨v, rfl, ho, hb⟩
  have h := ho.out
  rw [a_syn] at h
  obtain ⟨A, c, rfl, hr⟩ := ownK_sl (n := 2) h rfl rfl
  exact ⟨A, c, rfl, hr, hb⟩
theorem loc7 (A0 : Option Addr) (c0 : Nat) (w : World) (h : RdI w A0 [1, 3]) : Calls Try.prog 20 #[.agg #[.int .i64 7, .int .i64 7, .int .i64 0], .slice A0 2 c0] w fun e w' =>
    ∃ A c, e = .returned (.tuple #[.slice A 2 c, .int .i64 0]) ∧ As (RdI w' A [1, 4]) ∧ Below w.heap.size w w' := by
  have hl := locatorC (K := F7) A0 c0 (e7 [1, 3]) (by decide) w (rdK_7 [1, 3] h rfl)
  rw [a_sig] at hl
  refine hl.mono ?_
  rintro e w' ⟨A, c, rfl, hr, hb⟩
  exact ⟨A, c, rfl, ⟨hr.out.toI⟩, hb⟩
theorem dec7 (l er : List Int) (fl : List (Fin 7)) (ch : List Int) (nc : Nat) (hl : ints (e7 fl) = l) (hl3 : l.length = 3) (out : List (Fin 7)) (hd : decL 0 2 (e7 fl) (lostL er) = some (e7 out)) (hout : ints (e7 out) = [1, 3, 3]) (hch : chgL (e7 fl) (e7 out) 3 = ch) (hnc : ch.length = nc) (hin : anyOut (3 : Int) er = false) (hel : er.length ≤ 100000) (A0 A1 : Option Addr) (c0 c1 n1 : Nat) (hn1 : er.length = n1) (w : World) (h0 : RdI w A0 l) (h1 : RdI w A1 er) :
    Calls Try.prog 24 #[.agg #[.int .i64 7, .int .i64 7, .int .i64 0, .int .i64 2, .int .i64 0], .slice A0 3 c0, .slice A1 n1 c1] w fun e w' =>
      ∃ A c A' c', e = .returned (.tuple #[.agg #[.slice A 3 c, .slice A' nc c'], .int .i64 0]) ∧ As (RdI w' A [1, 3, 3]) ∧ As (RdI w' A' ch) ∧ Below w.heap.size w w' := by
  have hfl : (e7 fl).length = 3 := by rw [← ints_length, hl, hl3]
  refine (decodeK (K := F7) 2 0 (by decide) (by decide) (by decide) A0 A1 c0 c1 3 n1 (e7 fl) er hfl (by decide) (by decide) hn1 (by omega) hin w (rdK_7 fl h0 hl) h1).mono ?_
  rintro e w' ⟨h, hb⟩
  rcases h with ⟨h, _⟩ | ⟨o, v1, v2, hd2, rfl, ho1, ho2⟩
  · have := h.out
    rw [hd] at this
    cases this
  · have h2 := hd2.out
    rw [hd] at h2
    cases h2
    obtain ⟨A, c, rfl, hr⟩ := ownK_sl (n := 3) ho1.out hout rfl
    have ho3 := ho2.out
    rw [hch] at ho3
    obtain ⟨A', c', e, _, hr', _⟩ := ho3.read
    rw [hnc] at e
    subst e
    exact ⟨A, c, A', c', rfl, hr, ⟨hr'⟩, hb⟩
theorem ints_same (xs : List Int) (n : Nat) (hn : xs.length = n) (A1 A2 : Option Addr) (c1 c2 : Nat) (w : World) (h1 : RdI w A1 xs) (h2 : RdI w A2 xs) (hl : n ≤ 1000000) :
    Calls Try.prog 14 #[.slice A1 n c1, .slice A2 n c2] w fun e w' => e = .returned (.bool true) ∧ Below w.heap.size w w' := by
  have := ints_any A1 A2 c1 c2 xs xs w h1 h2 (by omega)
  rw [decide_eq_true rfl, hn] at this
  exact this
/-- a literal row -/
theorem rdI_lit (w : World) (xs : List Int) (t : TypeId) : RdI (w.alloc (.cells (xs.map (Value.int .i64)).toArray t)) (some ⟨w.heap.size, 0, none⟩) xs := fun i hi => by
  refine ⟨_, _, rfl, ?_⟩
  rw [Nat.zero_add, blk_cell (heap_alloc_new w _) i]
  rw [List.getElem?_toArray, List.getElem?_map, List.getElem?_eq_getElem hi, List.getD_eq_getElem?_getD, List.getElem?_eq_getElem hi]
  rfl

theorem rdI_at (w : World) (xs : List Int) (t : TypeId) {n : Nat} (hn : w.heap.size = n) : RdI (w.alloc (.cells (xs.map (Value.int .i64)).toArray t)) (some ⟨n, 0, none⟩) xs := by
  rw [← hn]
  exact rdI_lit w xs t
/-- the cells of a result that is kept -/
def RepI (w : World) (Z : Nat) (a b : Value) : Prop := w.cell? ⟨Z, 0, none⟩ = some a ∧ w.cell? ⟨Z, 1, none⟩ = some b
theorem RepI.below {w w1 : World} {Z : Nat} {a b : Value} (h : RepI w Z a b) (hb : Below w.heap.size w w1) : RepI w1 Z a b := ⟨cell_below hb h.1, cell_below hb h.2⟩
theorem rep_new (w : World) (a b : Value) : RepI (w.alloc (.cells #[a, b] 47)) w.heap.size a b :=
  ⟨(blk_cell (heap_alloc_new w _) 0).trans rfl, (blk_cell (heap_alloc_new w _) 1).trans rfl⟩

set_option maxRecDepth 100000 in
set_option maxHeartbeats 6400000 in
theorem alive_any (w : World) : Calls Try.prog 11 #[] w fun e w' => e = .returned (.bool true) ∧ Below w.heap.size w w' := by
  go_enter Try.func11, Try.ntmps11
  have HF := As.mk (Box3.new (w := w) (x := .int .i64 7) (y := .int .i64 7) (z := .int .i64 0) (t := 23))
  go_wp2_with fail
  refine (new7 _).mono ?_
  rintro e w1 ⟨rfl, hb⟩
  have HB1 : As (Below w.heap.size w w1) := ⟨bl_then hb (bl_alloc (bl_refl _))⟩
  have HF1 := As.mk (HF.out.below hb)
  clear hb HF
  have HX := As.mk (Box5.new (w := w1) (x := 7) (y := 7) (z := 0) (u := 2) (v := 0) (t := 25))
  go_wp2_with fail
  refine (gen7 _).mono ?_
  rintro e w2 ⟨Ag, cg, rfl, hg, hb⟩
  have HB2 : As (Below w.heap.size w w2) := ⟨bl_then hb (bl_alloc HB1.out)⟩
  have HF2 := As.mk ((HF1.out.below (bl_alloc (bl_refl _))).below hb)
  have HX2 := As.mk (HX.out.below hb)
  have HBw2 := As.mk HB2.out
  have HFw2 := As.mk HF2.out
  have HXw2 := As.mk HX2.out
  have RGw2 := As.mk hg.out
  clear hb HF1 HX HB1 HB2 HF2 HX2 hg
  have c0 := HXw2.out.c0
  have c1 := HXw2.out.c1
  have c2 := HXw2.out.c2
  have c3 := HXw2.out.c3
  have c4 := HXw2.out.c4
  go_wp2_with fail
  refine (enc7 _ _ _ (rdI_lit w2 [1] 3)).mono ?_
  rintro e w3 ⟨Ae, ce, rfl, h1, hb⟩
  have HBw3 : As (Below w.heap.size w w3) := ⟨bl_then hb (bl_alloc (HBw2.out))⟩
  have HFw3 := As.mk ((HFw2.out.below ((bl_alloc (bl_refl _)))).below hb)
  have HXw3 := As.mk ((HXw2.out.below ((bl_alloc (bl_refl _)))).below hb)
  have RGw3 := As.mk ((RGw2.out.below ((bl_alloc (bl_refl _)))).below hb)
  have REw3 := As.mk (h1.out)
  clear hb HBw2 HFw2 HXw2 RGw2
  clear h1 c0 c1 c2 c3 c4
  have c0 := HXw3.out.c0
  have c1 := HXw3.out.c1
  have c2 := HXw3.out.c2
  have c3 := HXw3.out.c3
  have c4 := HXw3.out.c4
  go_wp2_with fail
  refine (dec7 [1, 3, 4] [] [1, 3, 4] [2] 1 rfl rfl [1, 3, 3] (by rw [a_lost]; exact a_dec) rfl (by kernel_rfl) rfl rfl (by decide) _ none _ 0 0 rfl _ (rdI_lit w3 [1, 3, 4] 3) RdI.nil).mono ?_
  rintro e w4 ⟨A1, k1, A2, k2, rfl, h1, h2, hb⟩
  have HBw4 : As (Below w.heap.size w w4) := ⟨bl_then hb (bl_alloc (HBw3.out))⟩
  have HFw4 := As.mk ((HFw3.out.below ((bl_alloc (bl_refl _)))).below hb)
  have HXw4 := As.mk ((HXw3.out.below ((bl_alloc (bl_refl _)))).below hb)
  have RGw4 := As.mk ((RGw3.out.below ((bl_alloc (bl_refl _)))).below hb)
  have REw4 := As.mk ((REw3.out.below ((bl_alloc (bl_refl _)))).below hb)
  have RAw4 := As.mk (h1.out)
  have RBw4 := As.mk (h2.out)
  clear hb HBw3 HFw3 HXw3 RGw3 REw3
  clear h1 h2 c0 c1 c2 c3 c4
  have d2 := As.mk (dec7 [0, 0, 3] [0, 1] [0, 0, 3] [0, 1] 2 rfl rfl [1, 3, 3] (by rw [a_lost2]; exact a_dec2) rfl (by kernel_rfl) rfl (by decide) (by decide) (some ⟨w4.heap.size + 1, 0, none⟩) (some ⟨w4.heap.size + 1 + 1, 0, none⟩) 3 2 2 rfl (((w4.alloc (.cells #[.slice A1 3 k1, .slice A2 1 k2] 47)).alloc (.cells #[.int .i64 0, .int .i64 0, .int .i64 3] 3)).alloc (.cells #[.int .i64 0, .int .i64 1] 3)) ((rdI_at (w4.alloc (.cells #[.slice A1 3 k1, .slice A2 1 k2] 47)) [0, 0, 3] 3 (by simp)).below (bl_alloc (bl_refl _))) (rdI_at ((w4.alloc (.cells #[.slice A1 3 k1, .slice A2 1 k2] 47)).alloc (.cells #[.int .i64 0, .int .i64 0, .int .i64 3] 3)) [0, 1] 3 (by simp)))
  have HP := As.mk (rep_new w4 (.slice A1 3 k1) (.slice A2 1 k2))
  have hx := HXw4.out.below (bl_alloc (o := .cells #[.slice A1 3 k1, .slice A2 1 k2] 47) (bl_refl _))
  have c0 := hx.c0
  have c1 := hx.c1
  have c2 := hx.c2
  have c3 := hx.c3
  have c4 := hx.c4
  clear hx
  go_wp2_with fail
  refine (d2.out).mono ?_
  rintro e w5 ⟨A3, k3, A4, k4, rfl, h1, h2, hb⟩
  have HBw5 : As (Below w.heap.size w w5) := ⟨bl_then hb (bl_alloc (bl_alloc (bl_alloc (HBw4.out))))⟩
  have HFw5 := As.mk ((HFw4.out.below ((bl_alloc (bl_alloc (bl_alloc (bl_refl _)))))).below hb)
  have HXw5 := As.mk ((HXw4.out.below ((bl_alloc (bl_alloc (bl_alloc (bl_refl _)))))).below hb)
  have RGw5 := As.mk ((RGw4.out.below ((bl_alloc (bl_alloc (bl_alloc (bl_refl _)))))).below hb)
  have REw5 := As.mk ((REw4.out.below ((bl_alloc (bl_alloc (bl_alloc (bl_refl _)))))).below hb)
  have RAw5 := As.mk ((RAw4.out.below ((bl_alloc (bl_alloc (bl_alloc (bl_refl _)))))).below hb)
  have RBw5 := As.mk ((RBw4.out.below ((bl_alloc (bl_alloc (bl_alloc (bl_refl _)))))).below hb)
  have RCw5 := As.mk (h1.out)
  have RDw5 := As.mk (h2.out)
  have HPw5 := As.mk ((HP.out.below (bl_alloc (bl_alloc (bl_refl _)))).below hb)
  clear hb HBw4 HFw4 HXw4 RGw4 REw4 RAw4 RBw4
  clear h1 h2 c0 c1 c2 c3 c4 HP
  clear d2
  have l2 := As.mk (loc7 (some ⟨w5.heap.size + 1, 0, none⟩) 2 ((w5.alloc (.cells #[.slice A3 3 k3, .slice A4 2 k4] 47)).alloc (.cells #[.int .i64 1, .int .i64 3] 3)) (rdI_at (w5.alloc (.cells #[.slice A3 3 k3, .slice A4 2 k4] 47)) [1, 3] 3 (by simp)))
  have HQ := As.mk (rep_new w5 (.slice A3 3 k3) (.slice A4 2 k4))
  have hx := HFw5.out.below (bl_alloc (o := .cells #[.slice A3 3 k3, .slice A4 2 k4] 47) (bl_refl _))
  have c0 := hx.c0
  have c1 := hx.c1
  have c2 := hx.c2
  clear hx
  go_wp2_with fail
  refine (l2.out).mono ?_
  rintro e w6 ⟨A5, k5, rfl, h1, hb⟩
  have HBw6 : As (Below w.heap.size w w6) := ⟨bl_then hb (bl_alloc (bl_alloc (HBw5.out)))⟩
  have HFw6 := As.mk ((HFw5.out.below ((bl_alloc (bl_alloc (bl_refl _))))).below hb)
  have HXw6 := As.mk ((HXw5.out.below ((bl_alloc (bl_alloc (bl_refl _))))).below hb)
  have RGw6 := As.mk ((RGw5.out.below ((bl_alloc (bl_alloc (bl_refl _))))).below hb)
  have REw6 := As.mk ((REw5.out.below ((bl_alloc (bl_alloc (bl_refl _))))).below hb)
  have RAw6 := As.mk ((RAw5.out.below ((bl_alloc (bl_alloc (bl_refl _))))).below hb)
  have RBw6 := As.mk ((RBw5.out.below ((bl_alloc (bl_alloc (bl_refl _))))).below hb)
  have RCw6 := As.mk ((RCw5.out.below ((bl_alloc (bl_alloc (bl_refl _))))).below hb)
  have RDw6 := As.mk ((RDw5.out.below ((bl_alloc (bl_alloc (bl_refl _))))).below hb)
  have HPw6 := As.mk ((HPw5.out.below ((bl_alloc (bl_alloc (bl_refl _))))).below hb)
  have RHw6 := As.mk (h1.out)
  have HQw6 := As.mk ((HQ.out.below (bl_alloc (bl_refl _))).below hb)
  clear hb HBw5 HFw5 HXw5 RGw5 REw5 RAw5 RBw5 RCw5 RDw5 HPw5
  clear h1 c0 c1 c2 HQ
  have c0 := HXw6.out.c0
  have c1 := HXw6.out.c1
  have c2 := HXw6.out.c2
  have c3 := HXw6.out.c3
  have c4 := HXw6.out.c4
  go_wp2_with fail
  refine (syn7 _ _ _ (rdI_lit w6 [1, 3, 4] 3)).mono ?_
  rintro e w7 ⟨A6, k6, rfl, h1, hb⟩
  have HBw7 : As (Below w.heap.size w w7) := ⟨bl_then hb (bl_alloc (HBw6.out))⟩
  have HFw7 := As.mk ((HFw6.out.below ((bl_alloc (bl_refl _)))).below hb)
  have HXw7 := As.mk ((HXw6.out.below ((bl_alloc (bl_refl _)))).below hb)
  have RGw7 := As.mk ((RGw6.out.below ((bl_alloc (bl_refl _)))).below hb)
  have REw7 := As.mk ((REw6.out.below ((bl_alloc (bl_refl _)))).below hb)
  have RAw7 := As.mk ((RAw6.out.below ((bl_alloc (bl_refl _)))).below hb)
  have RBw7 := As.mk ((RBw6.out.below ((bl_alloc (bl_refl _)))).below hb)
  have RCw7 := As.mk ((RCw6.out.below ((bl_alloc (bl_refl _)))).below hb)
  have RDw7 := As.mk ((RDw6.out.below ((bl_alloc (bl_refl _)))).below hb)
  have HPw7 := As.mk ((HPw6.out.below ((bl_alloc (bl_refl _)))).below hb)
  have RHw7 := As.mk ((RHw6.out.below ((bl_alloc (bl_refl _)))).below hb)
  have HQw7 := As.mk ((HQw6.out.below ((bl_alloc (bl_refl _)))).below hb)
  have RIw7 := As.mk (h1.out)
  clear hb HBw6 HFw6 HXw6 RGw6 REw6 RAw6 RBw6 RCw6 RDw6 HPw6 RHw6 HQw6
  clear h1 c0 c1 c2 c3 c4 HFw7 HXw7
  go_wp2_with fail
  refine (ints_same [3, 3, 1] 3 rfl _ _ _ _ _ (RGw7.out.below (bl_alloc (bl_refl _))) (rdI_lit w7 [3, 3, 1] 3) (by decide)).mono ?_
  rintro e w8 ⟨rfl, hb⟩
  have HBw8 : As (Below w.heap.size w w8) := ⟨bl_then hb (bl_alloc (HBw7.out))⟩
  have RGw8 := As.mk ((RGw7.out.below ((bl_alloc (bl_refl _)))).below hb)
  have REw8 := As.mk ((REw7.out.below ((bl_alloc (bl_refl _)))).below hb)
  have RAw8 := As.mk ((RAw7.out.below ((bl_alloc (bl_refl _)))).below hb)
  have RBw8 := As.mk ((RBw7.out.below ((bl_alloc (bl_refl _)))).below hb)
  have RCw8 := As.mk ((RCw7.out.below ((bl_alloc (bl_refl _)))).below hb)
  have RDw8 := As.mk ((RDw7.out.below ((bl_alloc (bl_refl _)))).below hb)
  have HPw8 := As.mk ((HPw7.out.below ((bl_alloc (bl_refl _)))).below hb)
  have RHw8 := As.mk ((RHw7.out.below ((bl_alloc (bl_refl _)))).below hb)
  have HQw8 := As.mk ((HQw7.out.below ((bl_alloc (bl_refl _)))).below hb)
  have RIw8 := As.mk ((RIw7.out.below ((bl_alloc (bl_refl _)))).below hb)
  clear hb HBw7 RGw7 REw7 RAw7 RBw7 RCw7 RDw7 HPw7 RHw7 HQw7 RIw7
  go_wp2_with fail
  refine (ints_same [1, 3, 3] 3 rfl _ _ _ _ _ (REw8.out.below (bl_alloc (bl_refl _))) (rdI_lit w8 [1, 3, 3] 3) (by decide)).mono ?_
  rintro e w9 ⟨rfl, hb⟩
  have HBw9 : As (Below w.heap.size w w9) := ⟨bl_then hb (bl_alloc (HBw8.out))⟩
  have RGw9 := As.mk ((RGw8.out.below ((bl_alloc (bl_refl _)))).below hb)
  have REw9 := As.mk ((REw8.out.below ((bl_alloc (bl_refl _)))).below hb)
  have RAw9 := As.mk ((RAw8.out.below ((bl_alloc (bl_refl _)))).below hb)
  have RBw9 := As.mk ((RBw8.out.below ((bl_alloc (bl_refl _)))).below hb)
  have RCw9 := As.mk ((RCw8.out.below ((bl_alloc (bl_refl _)))).below hb)
  have RDw9 := As.mk ((RDw8.out.below ((bl_alloc (bl_refl _)))).below hb)
  have HPw9 := As.mk ((HPw8.out.below ((bl_alloc (bl_refl _)))).below hb)
  have RHw9 := As.mk ((RHw8.out.below ((bl_alloc (bl_refl _)))).below hb)
  have HQw9 := As.mk ((HQw8.out.below ((bl_alloc (bl_refl _)))).below hb)
  have RIw9 := As.mk ((RIw8.out.below ((bl_alloc (bl_refl _)))).below hb)
  clear hb HBw8 RGw8 REw8 RAw8 RBw8 RCw8 RDw8 HPw8 RHw8 HQw8 RIw8
  have d0 := HPw9.out.1
  go_wp2_with fail
  refine (ints_same [1, 3, 3] 3 rfl _ _ _ _ _ RAw9.out REw9.out (by decide)).mono ?_
  rintro e wa ⟨rfl, hb⟩
  have HBwa : As (Below w.heap.size w wa) := ⟨bl_then hb (HBw9.out)⟩
  have RGwa := As.mk (RGw9.out.below hb)
  have REwa := As.mk (REw9.out.below hb)
  have RAwa := As.mk (RAw9.out.below hb)
  have RBwa := As.mk (RBw9.out.below hb)
  have RCwa := As.mk (RCw9.out.below hb)
  have RDwa := As.mk (RDw9.out.below hb)
  have HPwa := As.mk (HPw9.out.below hb)
  have RHwa := As.mk (RHw9.out.below hb)
  have HQwa := As.mk (HQw9.out.below hb)
  have RIwa := As.mk (RIw9.out.below hb)
  clear hb HBw9 RGw9 REw9 RAw9 RBw9 RCw9 RDw9 HPw9 RHw9 HQw9 RIw9
  clear d0
  have d0 := HPwa.out.2
  go_wp2_with fail
  refine (ints_same [2] 1 rfl _ _ _ _ _ (RBwa.out.below (bl_alloc (bl_refl _))) (rdI_lit wa [2] 3) (by decide)).mono ?_
  rintro e wb ⟨rfl, hb⟩
  have HBwb : As (Below w.heap.size w wb) := ⟨bl_then hb (bl_alloc (HBwa.out))⟩
  have RGwb := As.mk ((RGwa.out.below ((bl_alloc (bl_refl _)))).below hb)
  have REwb := As.mk ((REwa.out.below ((bl_alloc (bl_refl _)))).below hb)
  have RAwb := As.mk ((RAwa.out.below ((bl_alloc (bl_refl _)))).below hb)
  have RBwb := As.mk ((RBwa.out.below ((bl_alloc (bl_refl _)))).below hb)
  have RCwb := As.mk ((RCwa.out.below ((bl_alloc (bl_refl _)))).below hb)
  have RDwb := As.mk ((RDwa.out.below ((bl_alloc (bl_refl _)))).below hb)
  have HPwb := As.mk ((HPwa.out.below ((bl_alloc (bl_refl _)))).below hb)
  have RHwb := As.mk ((RHwa.out.below ((bl_alloc (bl_refl _)))).below hb)
  have HQwb := As.mk ((HQwa.out.below ((bl_alloc (bl_refl _)))).below hb)
  have RIwb := As.mk ((RIwa.out.below ((bl_alloc (bl_refl _)))).below hb)
  clear hb HBwa RGwa REwa RAwa RBwa RCwa RDwa HPwa RHwa HQwa RIwa
  clear d0
  have d0 := HQwb.out.1
  go_wp2_with fail
  refine (ints_same [1, 3, 3] 3 rfl _ _ _ _ _ RCwb.out REwb.out (by decide)).mono ?_
  rintro e wc ⟨rfl, hb⟩
  have HBwc : As (Below w.heap.size w wc) := ⟨bl_then hb (HBwb.out)⟩
  have RGwc := As.mk (RGwb.out.below hb)
  have REwc := As.mk (REwb.out.below hb)
  have RAwc := As.mk (RAwb.out.below hb)
  have RBwc := As.mk (RBwb.out.below hb)
  have RCwc := As.mk (RCwb.out.below hb)
  have RDwc := As.mk (RDwb.out.below hb)
  have HPwc := As.mk (HPwb.out.below hb)
  have RHwc := As.mk (RHwb.out.below hb)
  have HQwc := As.mk (HQwb.out.below hb)
  have RIwc := As.mk (RIwb.out.below hb)
  clear hb HBwb RGwb REwb RAwb RBwb RCwb RDwb HPwb RHwb HQwb RIwb
  clear d0
  have d0 := HQwc.out.2
  go_wp2_with fail
  refine (ints_same [0, 1] 2 rfl _ _ _ _ _ (RDwc.out.below (bl_alloc (bl_refl _))) (rdI_lit wc [0, 1] 3) (by decide)).mono ?_
  rintro e wd ⟨rfl, hb⟩
  have HBwd : As (Below w.heap.size w wd) := ⟨bl_then hb (bl_alloc (HBwc.out))⟩
  have RGwd := As.mk ((RGwc.out.below ((bl_alloc (bl_refl _)))).below hb)
  have REwd := As.mk ((REwc.out.below ((bl_alloc (bl_refl _)))).below hb)
  have RAwd := As.mk ((RAwc.out.below ((bl_alloc (bl_refl _)))).below hb)
  have RBwd := As.mk ((RBwc.out.below ((bl_alloc (bl_refl _)))).below hb)
  have RCwd := As.mk ((RCwc.out.below ((bl_alloc (bl_refl _)))).below hb)
  have RDwd := As.mk ((RDwc.out.below ((bl_alloc (bl_refl _)))).below hb)
  have HPwd := As.mk ((HPwc.out.below ((bl_alloc (bl_refl _)))).below hb)
  have RHwd := As.mk ((RHwc.out.below ((bl_alloc (bl_refl _)))).below hb)
  have HQwd := As.mk ((HQwc.out.below ((bl_alloc (bl_refl _)))).below hb)
  have RIwd := As.mk ((RIwc.out.below ((bl_alloc (bl_refl _)))).below hb)
  clear hb HBwc RGwc REwc RAwc RBwc RCwc RDwc HPwc RHwc HQwc RIwc
  clear d0
  go_wp2_with fail
  refine (ints_same [1, 4] 2 rfl _ _ _ _ _ (RHwd.out.below (bl_alloc (bl_refl _))) (rdI_lit wd [1, 4] 3) (by decide)).mono ?_
  rintro e we ⟨rfl, hb⟩
  have HBwe : As (Below w.heap.size w we) := ⟨bl_then hb (bl_alloc (HBwd.out))⟩
  have RGwe := As.mk ((RGwd.out.below ((bl_alloc (bl_refl _)))).below hb)
  have REwe := As.mk ((REwd.out.below ((bl_alloc (bl_refl _)))).below hb)
  have RAwe := As.mk ((RAwd.out.below ((bl_alloc (bl_refl _)))).below hb)
  have RBwe := As.mk ((RBwd.out.below ((bl_alloc (bl_refl _)))).below hb)
  have RCwe := As.mk ((RCwd.out.below ((bl_alloc (bl_refl _)))).below hb)
  have RDwe := As.mk ((RDwd.out.below ((bl_alloc (bl_refl _)))).below hb)
  have HPwe := As.mk ((HPwd.out.below ((bl_alloc (bl_refl _)))).below hb)
  have RHwe := As.mk ((RHwd.out.below ((bl_alloc (bl_refl _)))).below hb)
  have HQwe := As.mk ((HQwd.out.below ((bl_alloc (bl_refl _)))).below hb)
  have RIwe := As.mk ((RIwd.out.below ((bl_alloc (bl_refl _)))).below hb)
  clear hb HBwd RGwd REwd RAwd RBwd RCwd RDwd HPwd RHwd HQwd RIwd
  go_wp2_with fail
  refine (ints_same [1, 1] 2 rfl _ _ _ _ _ (RIwe.out.below (bl_alloc (bl_refl _))) (rdI_lit we [1, 1] 3) (by decide)).mono ?_
  rintro e wf ⟨rfl, hb⟩
  have HBwf : As (Below w.heap.size w wf) := ⟨bl_then hb (bl_alloc (HBwe.out))⟩
  have RGwf := As.mk ((RGwe.out.below ((bl_alloc (bl_refl _)))).below hb)
  have REwf := As.mk ((REwe.out.below ((bl_alloc (bl_refl _)))).below hb)
  have RAwf := As.mk ((RAwe.out.below ((bl_alloc (bl_refl _)))).below hb)
  have RBwf := As.mk ((RBwe.out.below ((bl_alloc (bl_refl _)))).below hb)
  have RCwf := As.mk ((RCwe.out.below ((bl_alloc (bl_refl _)))).below hb)
  have RDwf := As.mk ((RDwe.out.below ((bl_alloc (bl_refl _)))).below hb)
  have HPwf := As.mk ((HPwe.out.below ((bl_alloc (bl_refl _)))).below hb)
  have RHwf := As.mk ((RHwe.out.below ((bl_alloc (bl_refl _)))).below hb)
  have HQwf := As.mk ((HQwe.out.below ((bl_alloc (bl_refl _)))).below hb)
  have RIwf := As.mk ((RIwe.out.below ((bl_alloc (bl_refl _)))).below hb)
  clear hb HBwe RGwe REwe RAwe RBwe RCwe RDwe HPwe RHwe HQwe RIwe
  go_wp2
  go_ret
  exact ⟨rfl, HBwf.out⟩
end Go.Proofs.Ythcjmmicjbfpgaa.Rs

namespace Go.Proofs.Ythcjmmicjbfpgaa.Rs
set_option linter.unusedVariables false
set_option linter.unusedSimpArgs false
open Go.RowKit Go.Proofs.Ythcjmmicjbfpgaa.Alg
open GF

theorem ints_two (ys : List Int) (n : Nat) (hn : ys.length = n) (hl : n ≤ 1000000) (A1 A2 : Option Addr) (c1 c2 : Nat) (w : World) (h1 : RdI w A1 ys) (h2 : RdI w A2 ys) :
    Calls Try.prog 14 #[.slice A1 n c1, .slice A2 n c2] w fun e w' => e = .returned (.bool true) ∧ Below w.heap.size w w' := ints_same ys n hn A1 A2 c1 c2 w h1 h2 hl

/-- the cells of a question -/
structure AskI (w : World) (Z : Nat) (c s p par fst : Int) (A1 : Option Addr) (n1 c1 : Nat) (A2 : Option Addr) (n2 c2 : Nat) : Prop where
  b : Box5 w Z c s p par fst
  c5 : w.cell? ⟨Z, 5, none⟩ = some (.slice A1 n1 c1)
  c6 : w.cell? ⟨Z, 6, none⟩ = some (.slice A2 n2 c2)
theorem AskI.below {w w1 : World} {Z : Nat} {c s p par fst : Int} {A1 A2 : Option Addr} {n1 c1 n2 c2 : Nat} (h : AskI w Z c s p par fst A1 n1 c1 A2 n2 c2) (hb : Below w.heap.size w w1) : AskI w1 Z c s p par fst A1 n1 c1 A2 n2 c2 :=
  ⟨h.b.below hb, cell_below hb h.c5, cell_below hb h.c6⟩
theorem AskI.new {w : World} {c s p par fst : Int} {A1 A2 : Option Addr} {n1 c1 n2 c2 : Nat} {t : TypeId} :
    AskI (w.alloc (.cells #[.int .i64 c, .int .i64 s, .int .i64 p, .int .i64 par, .int .i64 fst, .slice A1 n1 c1, .slice A2 n2 c2] t)) w.heap.size c s p par fst A1 n1 c1 A2 n2 c2 := by
  have h := heap_alloc_new w (.cells #[.int .i64 c, .int .i64 s, .int .i64 p, .int .i64 par, .int .i64 fst, .slice A1 n1 c1, .slice A2 n2 c2] t)
  exact ⟨⟨(blk_cell h 0).trans rfl, (blk_cell h 1).trans rfl, (blk_cell h 2).trans rfl, (blk_cell h 3).trans rfl, (blk_cell h 4).trans rfl⟩, (blk_cell h 5).trans rfl, (blk_cell h 6).trans rfl⟩

/-- what small answers -/
def smB (par : Int) (n1 n2 : Nat) : Bool := decide (par ≤ 60) && decide (n1 ≤ 400) && decide (n2 ≤ 400)
set_option maxRecDepth 100000 in
set_option maxHeartbeats 1600000 in
theorem small_any (c s p par fst : Int) (A1 A2 : Option Addr) (n1 c1 n2 c2 : Nat) (w : World) :
    Calls Try.prog 15 #[.agg #[.int .i64 c, .int .i64 s, .int .i64 p, .int .i64 par, .int .i64 fst, .slice A1 n1 c1, .slice A2 n2 c2]] w fun e w' => e = .returned (.bool (smB par n1 n2)) ∧ Below w.heap.size w w' := by
  have fin : ∀ (b1 b2 b3 b : Bool), (b1 = false ∧ b = false ∨ b1 = true ∧ b2 = false ∧ b = false ∨ b1 = true ∧ b2 = true ∧ b3 = b) → decide (par ≤ 60) = b1 → decide ((n1 : Int) ≤ 400) = b2 → decide ((n2 : Int) ≤ 400) = b3 →
      Calls Try.prog 15 #[.agg #[.int .i64 c, .int .i64 s, .int .i64 p, .int .i64 par, .int .i64 fst, .slice A1 n1 c1, .slice A2 n2 c2]] w fun e w' => e = .returned (.bool b) ∧ Below w.heap.size w w' := by
    intro b1 b2 b3 b hor g1 g2 g3
    rcases hor with ⟨rfl, rfl⟩ | ⟨rfl, rfl, rfl⟩ | ⟨rfl, rfl, rfl⟩
    all_goals
      go_enter Try.func15, Try.ntmps15
      go_wp2
      go_ret
      exact ⟨rfl, bl_alloc (bl_refl _)⟩
  refine fin _ _ _ _ ?_ rfl rfl rfl
  unfold smB
  by_cases k1 : par ≤ 60
  · right
    by_cases k2 : n1 ≤ 400
    · right
      refine ⟨decide_eq_true k1, decide_eq_true (by omega), ?_⟩
      rw [decide_eq_true k1, decide_eq_true k2, Bool.true_and, Bool.true_and]
      by_cases k3 : n2 ≤ 400
      · rw [decide_eq_true k3]; exact decide_eq_true (by omega)
      · rw [decide_eq_false k3]; exact decide_eq_false (by omega)
    · left; exact ⟨decide_eq_true k1, decide_eq_false (by omega), by rw [decide_eq_true k1, decide_eq_false k2]; rfl⟩
  · left; exact ⟨decide_eq_false k1, by rw [decide_eq_false k1]; rfl⟩
end Go.Proofs.Ythcjmmicjbfpgaa.Rs

namespace Go.Proofs.Ythcjmmicjbfpgaa.Rs
set_option linter.unusedVariables false
set_option linter.unusedSimpArgs false
open Go.RowKit Go.Proofs.Ythcjmmicjbfpgaa.Alg
open GF

/-- the field that numbers tell -/
theorem field_at {c s p : Int} (h : VI c s p) : ∃ (K : Type) (_ : GF K), ((ch K : Nat) : Int) = c ∧ ((sz K : Nat) : Int) = s ∧ ((po K : Nat) : Int) = p := by
  obtain ⟨c', s', p', rfl, rfl, rfl, h4⟩ := h
  obtain ⟨K, i, e1, e2, e3⟩ := field_of h4
  exact ⟨K, i, by rw [e1], by rw [e2], by rw [e3]⟩
theorem lift_ints {K : Type} [GF K] {xs : List Int} (h : anyOut (sz K : Int) xs = false) : ∃ ws : List K, ints ws = xs := by
  refine ⟨xs.map (fun x => of x.toNat), ?_⟩
  unfold ints
  rw [List.map_map]
  have : ∀ x ∈ xs, ((fun a : K => (val a : Int)) ∘ fun x => of x.toNat) x = x := by
    intro x hx
    unfold anyOut at h
    have h2 := List.any_eq_false.mp h x hx
    unfold outB at h2
    simp only [Bool.or_eq_true, decide_eq_true_eq] at h2
    show ((val (of x.toNat : K) : Nat) : Int) = x
    rw [val_of _ (by omega)]
    omega
  rw [List.map_congr_left this, List.map_id'']
  exact fun _ => rfl
theorem rdI_K {K : Type} [GF K] {w : World} {A : Option Addr} {ws : List K} (h : RdI w A (ints ws)) : RdK w A ws := fun i hi => by
  obtain ⟨b, o, e, hc⟩ := h i (by rw [ints_length]; exact hi)
  exact ⟨b, o, e, by rw [hc, ints_getD _ hi]⟩
/-- a call that answers a list and a number -/
def Ans (f : FuncId) (args : Array Value) (w : World) (ys : List Int) (E : Int) : Prop := Calls Try.prog f args w fun e w' => ∃ A c, e = .returned (.tuple #[.slice A ys.length c, .int .i64 E]) ∧ As (RdI w' A ys) ∧ Below w.heap.size w w'
theorem ans_nil {f : FuncId} {args : Array Value} {w : World} {E : Int} (h : Calls Try.prog f args w fun e w' => e = .returned (.tuple #[.slice none 0 0, .int .i64 E]) ∧ Below w.heap.size w w') : Ans f args w [] E :=
  h.mono (fun e w' ⟨he, hb⟩ => ⟨none, 0, he, ⟨RdI.nil⟩, hb⟩)
theorem ans_own {K : Type} [GF K] {f : FuncId} {args : Array Value} {w : World} {ys : List K} (h : Calls Try.prog f args w fun e w' => ∃ v, e = .returned (.tuple #[v, .int .i64 0]) ∧ As (OwnK w' w.heap.size v ys) ∧ Below w.heap.size w w') : Ans f args w (ints ys) 0 :=
  h.mono (fun e w' ⟨v, he, ho, hb⟩ => by
    obtain ⟨A, c, e2, _, hr, _⟩ := (ownI_K.mpr ho.out).read
    exact ⟨A, c, by rw [he, e2], ⟨hr⟩, hb⟩)
end Go.Proofs.Ythcjmmicjbfpgaa.Rs
