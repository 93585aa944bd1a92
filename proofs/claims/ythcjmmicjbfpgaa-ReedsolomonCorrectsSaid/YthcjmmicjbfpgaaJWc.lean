/-
What the operations on a map do whose keys are structs of three numbers: the known generators of package galois.
A region of open order, by one obligation an operation: in program order, at whatever world keeps a condition.
A region of open order: the operations that only read first, each at whatever world keeps a condition; then those that act, which are bound to one order, as a list.
-/
import Derived.Test.YthcjmmicjbfpgaaJWb
import Derived.WideMake
import Derived.WideKeyRuns
import Derived.Laws.StructEq
import Derived.Orders
import Derived.OrdersIn
import Derived.RangeFuncCalls
namespace Go.Proofs.Ythcjmmicjbfpgaa.Rs
open Go.RowKit Go.Proofs.Ythcjmmicjbfpgaa.Alg

def key3 (a b c : Int) : Value := .agg #[.int .i64 a, .int .i64 b, .int .i64 c]

theorem eq3 (a b c x y z : Int) (w : World) : (Op.equalIn 10000 23 (key3 a b c) (key3 x y z)).run Try.prog w = .ok (decide (a = x ∧ b = y ∧ c = z)) w := by
  unfold key3
  have u3 := Try.underlying3
  have a3 := Try.isAgg3
  have z3 := Try.sizeOf3
  have hS : Try.prog.underlying 23 = some (.struct (Try.prog.fieldsOf 23)) := by kernel_rfl
  have hp : Try.prog.stoodInHeld 23 = false := by kernel_rfl
  rw [show (10000 : Nat) = 9999 + 1 from rfl, run_equalIn_agg w 9999 23 _ _ hS hp]
  simp only [Program.fieldsOf, Try.underlying23]
  go_simp
  by_cases h1 : a = x <;> by_cases h2 : b = y <;> by_cases h3 : c = z <;> simp [h1, h2, h3]

theorem check3 (em : Bool) (x y z : Int) (w : World) : (Instr.checkKey em 10000 23 (key3 x y z)).run Try.prog w = .ok () w := by
  kernel_rfl

theorem ask_none {x y z : Int} {w : World} : ∀ (es : List MapEntry) (i : Nat), (∀ e ∈ es, ∃ a b c, e.key = key3 a b c ∧ ¬ (x = a ∧ y = b ∧ z = c)) →
    (Instr.findAsking 23 (key3 x y z) es i).run Try.prog w = .ok none w
  | [], i, _ => by simp [Instr.findAsking]
  | e :: es, i, h => by
    obtain ⟨a, b, c, h1, h2⟩ := h e List.mem_cons_self
    have he : (Op.equal 23 (key3 x y z) (key3 a b c)).run Try.prog w = .ok false w := by
      have := eq3 x y z a b c w
      rw [decide_eq_false h2] at this
      exact this
    have ih := ask_none (w := w) es (i + 1) (fun e he => h e (List.mem_cons_of_mem _ he))
    simp only [Instr.findAsking, h1]
    simp [he, ih]

theorem ask_some {x y z : Int} {v : Value} {w : World} : ∀ (es : List MapEntry) (i : Nat), (∀ e ∈ es, ∃ a b c, e.key = key3 a b c ∧ ((x = a ∧ y = b ∧ z = c) → e.val = v)) →
    (∃ e ∈ es, e.key = key3 x y z) → ∃ j, (Instr.findAsking 23 (key3 x y z) es i).run Try.prog w = .ok (some (j, v)) w
  | [], _, _, h => by obtain ⟨_, h, _⟩ := h; cases h
  | e :: es, i, h, hx => by
    obtain ⟨a, b, c, h1, h2⟩ := h e List.mem_cons_self
    by_cases hk : x = a ∧ y = b ∧ z = c
    · have he : (Op.equal 23 (key3 x y z) (key3 a b c)).run Try.prog w = .ok true w := by
        have := eq3 x y z a b c w
        rw [decide_eq_true hk] at this
        exact this
      refine ⟨i, ?_⟩
      simp only [Instr.findAsking, h1]
      simp [he, h2 hk]
    · have he : (Op.equal 23 (key3 x y z) (key3 a b c)).run Try.prog w = .ok false w := by
        have := eq3 x y z a b c w
        rw [decide_eq_false hk] at this
        exact this
      obtain ⟨j, hj⟩ := ask_some (w := w) es (i + 1) (fun e he => h e (List.mem_cons_of_mem _ he)) (by
        obtain ⟨e', h3, h4⟩ := hx
        rcases List.mem_cons.mp h3 with rfl | h3
        · exfalso
          rw [h1] at h4
          unfold key3 at h4
          simp only [Value.agg.injEq, Array.mk.injEq, List.cons.injEq, Value.int.injEq, true_and, and_true] at h4
          exact hk ⟨h4.1.symm, h4.2.1.symm, h4.2.2.symm⟩
        · exact ⟨e', h3, h4⟩)
      refine ⟨j, ?_⟩
      simp only [Instr.findAsking, h1]
      simp [he, hj]

theorem map_put {w : World} {r ck : Nat} {es : Array MapEntry} {x y z : Int} {v : Value} (hb : w.heap[r]? = some (.map es ck))
    (h : ∀ e ∈ es.toList, ∃ a b c, e.key = key3 a b c ∧ ¬ (x = a ∧ y = b ∧ z = c)) :
    (Instr.mapUpdate 115 (.map (some r)) (key3 x y z) v).run Try.prog w = .ok () { w with heap := w.heap.setIfInBounds r (.map (es.push { key := key3 x y z, val := v, born := ck }) (ck + 1)) } := by
  have hf : (Instr.findKey 23 (key3 x y z) es.toList).run Try.prog w = .ok none w := by
    rw [run_findKey_eq w (by rw [Try.underlying23])]
    exact ask_none es.toList 0 h
  simp [Instr.mapUpdate, run_underlying Try.underlying115, MapKept.run_getObj_map hb, check3, hf, MapKept.run_setObj_map _ hb, Result.andThen]

theorem map_get_none {w : World} {r ck : Nat} {es : Array MapEntry} {x y z : Int} (hb : w.heap[r]? = some (.map es ck))
    (h : ∀ e ∈ es.toList, ∃ a b c, e.key = key3 a b c ∧ ¬ (x = a ∧ y = b ∧ z = c)) :
    (Instr.lookup 115 (.map (some r)) (key3 x y z) true).run Try.prog w = .ok (.tuple #[.int .i64 0, .bool false]) w := by
  have hf : (Instr.findKey 23 (key3 x y z) es.toList).run Try.prog w = .ok none w := by
    rw [run_findKey_eq w (by rw [Try.underlying23])]
    exact ask_none es.toList 0 h
  simp [Instr.lookup, run_underlying Try.underlying115, MapKept.run_getObj_map hb, check3, hf, Result.andThen, Try.zeroValue3]

theorem map_get_some {w : World} {r ck : Nat} {es : Array MapEntry} {x y z : Int} {v : Value} (hb : w.heap[r]? = some (.map es ck))
    (h : ∀ e ∈ es.toList, ∃ a b c, e.key = key3 a b c ∧ ((x = a ∧ y = b ∧ z = c) → e.val = v)) (hx : ∃ e ∈ es.toList, e.key = key3 x y z) :
    (Instr.lookup 115 (.map (some r)) (key3 x y z) true).run Try.prog w = .ok (.tuple #[v, .bool true]) w := by
  have hf : ∃ j, (Instr.findKey 23 (key3 x y z) es.toList).run Try.prog w = .ok (some (j, v)) w := by
    rw [run_findKey_eq w (by rw [Try.underlying23])]
    exact ask_some es.toList 0 h hx
  obtain ⟨j, hf⟩ := hf
  simp [Instr.lookup, run_underlying Try.underlying115, MapKept.run_getObj_map hb, check3, hf, Result.andThen]

/-! a region of open order, by one relation over what is listed so far -/
def earlier (ops : Array Oper) : Bool := (List.range ops.size).all fun i => match ops[i]? with
  | some o => o.after.all fun e => !Region.binds .any e || decide (e.on < i)
  | none => true

theorem ready_iff {ops : Array Oper} {l : Array Bool} {i : Nat} : i ∈ Region.ready .any ops l ↔
    i < ops.size ∧ l.getD i true = false ∧ ((ops[i]?).map (·.after.all fun e => !Region.binds .any e || l.getD e.on false)).getD false = true := by
  unfold Region.ready
  rw [List.mem_filter, List.mem_range]
  simp

theorem all_listed {ops : Array Oper} (he : earlier ops = true) {l : Array Bool} (hl : l.size = ops.size) (h : Region.ready .any ops l = []) : ∀ i, i < ops.size → l.getD i false = true := by
  intro i
  induction i using Nat.strongRecOn with
  | ind i ih =>
    intro hi
    apply Classical.byContradiction
    intro hno
    have hf : l.getD i true = false := by
      have h1 : i < l.size := by omega
      simp only [Array.getD, h1, dif_pos] at hno ⊢
      exact Bool.eq_false_iff.mpr hno
    have : i ∈ Region.ready .any ops l := by
      refine ready_iff.mpr ⟨hi, hf, ?_⟩
      have h2 := List.all_eq_true.mp he i (List.mem_range.mpr hi)
      have h3 : ops[i]? = some ops[i] := Array.getElem?_eq_getElem hi
      rw [h3] at h2 ⊢
      simp only [Option.map_some, Option.getD_some] at h2 ⊢
      rw [Array.all_eq_true'] at h2 ⊢
      intro e hm
      have h4 := h2 e hm
      simp only [Bool.or_eq_true, decide_eq_true_eq] at h4 ⊢
      rcases h4 with h4 | h4
      · exact Or.inl h4
      · exact Or.inr (ih e.on h4 (by omega))
    rw [h] at this
    cases this

theorem wpAny_inv {P : Program} {ops : Array Oper} {Q : Exit → Act → World → Prop} (he : earlier ops = true) (I : Array Bool → Act → World → Prop)
    (hend : ∀ l a w, I l a w → (∀ i, i < ops.size → l.getD i false = true) → Q .normal a w)
    (hstep : ∀ l a w, l.size = ops.size → I l a w → ∀ i, i < ops.size → l.getD i true = false → ((ops[i]?).map (·.after.all fun e => !Region.binds .any e || l.getD e.on false)).getD false = true →
      wpOp P ops Q i (fun a' w' => I (l.setIfInBounds i true) a' w') a w) :
    ∀ (fuel : Nat) (l : Array Bool) (a : Act) (w : World), l.size = ops.size → l.toList.countP (fun b => !b) ≤ fuel → I l a w → wpAny P .any ops Q fuel l a w
  | 0, l, a, w, hl, hc, hI => by
    have hall : ∀ i, i < ops.size → l.getD i false = true := by
      intro i hi
      have h1 : i < l.size := by omega
      have h2 := List.countP_eq_zero.mp (Nat.le_zero.mp hc) l[i] (by rw [Array.mem_toList_iff]; exact Array.getElem_mem h1)
      simp only [Array.getD, h1, dif_pos]
      simpa using h2
    unfold wpAny
    refine ⟨?_, hend l a w hI hall⟩
    rw [List.eq_nil_iff_forall_not_mem]
    intro i hi
    obtain ⟨h1, h2, _⟩ := ready_iff.mp hi
    have h3 := hall i h1
    have h4 : i < l.size := by omega
    simp only [Array.getD, h4, dif_pos] at h2 h3
    rw [h3] at h2
    cases h2
  | fuel + 1, l, a, w, hl, hc, hI => by
    unfold wpAny
    refine ⟨fun hr => hend l a w hI (all_listed he hl hr), ?_⟩
    intro i hi
    obtain ⟨h1, h2, h3⟩ := ready_iff.mp hi
    refine wpOp_mono (fun a' w' h => wpAny_inv he I hend hstep fuel _ a' w' (by simpa using hl) ?_ h) (hstep l a w hl hI i h1 h2 h3)
    have h4 : i < l.size := by omega
    have h5 : l[i] = false := by
      have h2' := h2
      simp only [Array.getD, h4, dif_pos] at h2'
      exact h2'
    rw [Array.toList_setIfInBounds]
    have h6 : l.toList.countP (fun b => !b) = (l.toList.set i true).countP (fun b => !b) + 1 := by
      have h7 : i < l.toList.length := by simpa using h4
      have h8 : l.toList[i] = false := by simpa using h5
      rw [List.countP_set h7, h8]
      have h9 : 0 < l.toList.countP (fun b => !b) := List.countP_pos_iff.mpr ⟨l.toList[i], List.getElem_mem h7, by rw [h8]; rfl⟩
      have e1 : (if (!false) = true then 1 else 0) = 1 := rfl
      have e2 : (if (!true) = true then 1 else 0) = 0 := rfl
      rw [e1, e2]
      omega
    omega
end Go.Proofs.Ythcjmmicjbfpgaa.Rs

namespace Go.Proofs.Ythcjmmicjbfpgaa.Rs
open Go.RowKit

/-- the acts in program order -/
def prefA (ops : List Oper) (vs : List Value) (a : Act) : Nat → Act
  | 0 => a
  | i + 1 => match ops[i]? with
    | some o => (prefA ops vs a i).put o.dst (vs.getD i undef)
    | none => prefA ops vs a i
def dependsOn (o : Oper) (j : Nat) : Bool := o.after.any fun e => e.on == j && Region.binds .any e
def readsTmp (o : Oper) (t : Tmp) : Bool := o.op.operands.toList.any fun x => match x with | .tmp u => u == t | _ => false
/-- whatever an operation reads is written ahead of it, or behind it, in each order; and each slot is written once -/
def orderly (ops : List Oper) : Bool := (List.range ops.length).all fun i => match ops[i]? with
  | none => true
  | some o => o.guard.isNone && (match o.op with | .select .. => false | .defer .. => false | _ => true) && (o.after.all fun e => !Region.binds .any e || decide (e.on < i)) &&
    (List.range ops.length).all fun j => match ops[j]? with
      | none => true
      | some u => match u.dst with
        | none => true
        | some d => i == j || (!(o.dst == some d) && (!readsTmp o d || (decide (j < i) && dependsOn o j) || (decide (i < j) && dependsOn u i)))

section
variable {ops : List Oper} {vs : List Value} {a : Act} {l : Array Bool} {x : Act}

structure Orderly (ops : List Oper) : Prop where
  guard : ∀ (i : Nat) (o : Oper), ops[i]? = some o → o.guard = none
  sel : ∀ (i : Nat) (o : Oper), ops[i]? = some o → ∀ cs b, o.op ≠ .select cs b
  defer : ∀ (i : Nat) (o : Oper), ops[i]? = some o → ∀ c, o.op ≠ .defer c
  early : ∀ (i : Nat) (o : Oper), ops[i]? = some o → ∀ e ∈ o.after, Region.binds .any e = true → e.on < i
  once : ∀ (i j : Nat) (o u : Oper) (d : Tmp), ops[i]? = some o → ops[j]? = some u → u.dst = some d → i ≠ j → o.dst ≠ some d
  reads : ∀ (i j : Nat) (o u : Oper) (d : Tmp), ops[i]? = some o → ops[j]? = some u → u.dst = some d → i ≠ j → readsTmp o d = true → (j < i ∧ dependsOn o j = true) ∨ (i < j ∧ dependsOn u i = true)
theorem orderly_iff (h : orderly ops = true) : Orderly ops := by
  have key : ∀ (i : Nat) (o : Oper), ops[i]? = some o → (o.guard.isNone && (match o.op with | .select .. => false | .defer .. => false | _ => true) && (o.after.all fun e => !Region.binds .any e || decide (e.on < i)) &&
    (List.range ops.length).all fun j => match ops[j]? with
      | none => true
      | some u => match u.dst with
        | none => true
        | some d => i == j || (!(o.dst == some d) && (!readsTmp o d || (decide (j < i) && dependsOn o j) || (decide (i < j) && dependsOn u i)))) = true := fun i o ho => by
    have h1 := List.all_eq_true.mp h i (List.mem_range.mpr (List.getElem?_eq_some_iff.mp ho).1)
    rw [ho] at h1
    exact h1
  have key2 : ∀ (i j : Nat) (o u : Oper) (d : Tmp), ops[i]? = some o → ops[j]? = some u → u.dst = some d → i ≠ j → (!(o.dst == some d) && (!readsTmp o d || (decide (j < i) && dependsOn o j) || (decide (i < j) && dependsOn u i))) = true := fun i j o u d ho hu hd hne => by
    have h1 := key i o ho
    simp only [Bool.and_eq_true] at h1
    have h2 := List.all_eq_true.mp h1.2 j (List.mem_range.mpr (List.getElem?_eq_some_iff.mp hu).1)
    simp only [hu, hd, Bool.or_eq_true, beq_iff_eq, hne, false_or] at h2
    exact h2
  refine ⟨fun i o ho => ?_, fun i o ho cs b e => ?_, fun i o ho c e => ?_, fun i o ho e he hb => ?_, fun i j o u d ho hu hd hne e => ?_, fun i j o u d ho hu hd hne hr => ?_⟩
  · have h1 := key i o ho
    simp only [Bool.and_eq_true] at h1
    exact Option.isNone_iff_eq_none.mp h1.1.1.1
  · have h1 := key i o ho
    simp only [Bool.and_eq_true, e] at h1
    exact absurd h1.1.1.2 (by decide)
  · have h1 := key i o ho
    simp only [Bool.and_eq_true, e] at h1
    exact absurd h1.1.1.2 (by decide)
  · have h1 := key i o ho
    simp only [Bool.and_eq_true] at h1
    have h2 := Array.all_eq_true'.mp h1.1.2 e he
    simp only [hb, Bool.not_true, Bool.false_or, decide_eq_true_eq] at h2
    exact h2
  · have h1 := key2 i j o u d ho hu hd hne
    simp [e] at h1
  · have h1 := key2 i j o u d ho hu hd hne
    simp only [hr, Bool.not_true, Bool.false_or, Bool.and_eq_true, Bool.or_eq_true, decide_eq_true_eq] at h1
    exact h1.2

/-- what an act holds when some operations are listed -/
structure ActI (ops : List Oper) (vs : List Value) (a : Act) (l : Nat → Prop) (x : Act) : Prop where
  defers : x.defers = a.defers
  size : x.tmps.size = a.tmps.size
  made : ∀ (j : Nat) (o : Oper) (d : Tmp), ops[j]? = some o → o.dst = some d → l j → x.eval (.tmp d) = if d < a.tmps.size then vs.getD j undef else undef
  kept : ∀ t : Tmp, (∀ (j : Nat) (o : Oper), ops[j]? = some o → o.dst = some t → ¬ l j) → x.eval (.tmp t) = a.eval (.tmp t)
theorem eval_put_self {x : Act} {d : Tmp} {v : Value} : (x.put (some d) v).eval (.tmp d) = if d < x.tmps.size then v else undef := by
  unfold Act.put Act.eval
  simp only
  by_cases h : d < x.tmps.size
  · rw [if_pos h]; simp [h]
  · rw [if_neg h]; simp [h]
theorem ActI.put {l l' : Nat → Prop} (h : ActI ops vs a l x) (ho : Orderly ops) {i : Nat} {o : Oper} (hi : ops[i]? = some o) (hl : ∀ j, l' j ↔ l j ∨ j = i) : ActI ops vs a l' (x.put o.dst (vs.getD i undef)) := by
  refine ⟨?_, ?_, ?_, ?_⟩
  · cases hd : o.dst <;> exact h.defers
  · cases hd : o.dst
    · exact h.size
    · simp only [Act.put, Array.size_setIfInBounds]; exact h.size
  · intro j u d hu hd hlj
    by_cases e : j = i
    · subst e
      rw [hu] at hi
      cases hi
      rw [hd, eval_put_self, h.size]
    · rw [Act.eval_put (fun d' hd' he => by
        cases he
        exact ho.once i j o u d hi hu hd (fun e' => e e'.symm) hd')]
      rcases (hl j).mp hlj with h1 | h1
      · exact h.made j u d hu hd h1
      · exact absurd h1 e
  · intro t ht
    rw [Act.eval_put (fun d' hd' he => by
      cases he
      exact ht i o hi hd' ((hl i).mpr (Or.inr rfl)))]
    exact h.kept t (fun j u hu hd hlj => ht j u hu hd ((hl j).mpr (Or.inl hlj)))
theorem ActI.start : ActI ops vs a (fun _ => False) a := ⟨rfl, rfl, fun _ _ _ _ _ h => h.elim, fun _ _ => rfl⟩
theorem ActI.pref (ho : Orderly ops) : ∀ i, i ≤ ops.length → ActI ops vs a (fun j => j < i) (prefA ops vs a i)
  | 0, _ => by
    have : (fun j => j < 0) = (fun _ : Nat => False) := by funext j; simp
    rw [this]
    exact ActI.start
  | i + 1, hi => by
    have ih := ActI.pref ho i (by omega)
    have h1 : ops[i]? = some ops[i] := List.getElem?_eq_getElem (by omega)
    unfold prefA
    rw [h1]
    exact ih.put ho h1 (fun j => by omega)
/-- the act is told by what is listed -/
theorem ActI.ext {l : Nat → Prop} {y : Act} (h : ActI ops vs a l x) (k : ActI ops vs a l y) : x = y := by
  have hev : ∀ t, x.eval (.tmp t) = y.eval (.tmp t) := by
    intro t
    by_cases c : ∃ (j : Nat) (o : Oper), ops[j]? = some o ∧ o.dst = some t ∧ l j
    · obtain ⟨j, o, h1, h2, h3⟩ := c
      rw [h.made j o t h1 h2 h3, k.made j o t h1 h2 h3]
    · have c' : ∀ (j : Nat) (o : Oper), ops[j]? = some o → o.dst = some t → ¬ l j := fun j o h1 h2 h3 => c ⟨j, o, h1, h2, h3⟩
      rw [h.kept t c', k.kept t c']
  obtain ⟨tx, dx⟩ := x
  obtain ⟨ty, dy⟩ := y
  have h1 : dx = dy := h.defers.trans k.defers.symm
  have h2 : tx.size = ty.size := h.size.trans k.size.symm
  subst h1
  congr 1
  apply Array.ext h2
  intro i hi1 hi2
  have := hev i
  simpa [Act.eval, Array.getD, hi1, hi2] using this
theorem ActI.eval {l : Nat → Prop} {y : Act} {i : Nat} {o : Oper} (ho : Orderly ops) (hi : ops[i]? = some o) (h : ActI ops vs a l x) (k : ActI ops vs a (fun j => j < i) y) (hli : ¬ l i)
    (hdep : ∀ j, dependsOn o j = true → l j) (hclo : ∀ (j : Nat) (u : Oper), ops[j]? = some u → l j → ∀ k, dependsOn u k = true → l k) : execOp x.eval o = execOp y.eval o := by
  refine execOp_congr o (ho.sel i o hi) fun e he => ?_
  cases e with
  | tmp t =>
    have hr : readsTmp o t = true := by
      unfold readsTmp
      rw [List.any_eq_true]
      exact ⟨.tmp t, by simpa using he, by simp⟩
    by_cases c : ∃ (j : Nat) (u : Oper), ops[j]? = some u ∧ u.dst = some t
    · obtain ⟨j, u, h1, h2⟩ := c
      by_cases e : i = j
      · have no : ∀ (m : Nat → Prop), ¬ m i → ∀ (j' : Nat) (u' : Oper), ops[j']? = some u' → u'.dst = some t → ¬ m j' := fun m hm j' u' h3 h4 h5 => by
          by_cases e2 : j' = j
          · rw [e2, ← e] at h5; exact hm h5
          · exact ho.once j' j u' u t h3 h1 h2 e2 h4
        rw [h.kept t (no l hli), k.kept t (no _ (by omega))]
      · rcases ho.reads i j o u t hi h1 h2 e hr with ⟨h3, h4⟩ | ⟨h3, h4⟩
        · rw [h.made j u t h1 h2 (hdep j h4), k.made j u t h1 h2 h3]
        · have hlj : ¬ l j := fun hj => hli (hclo j u h1 hj i h4)
          have no : ∀ (m : Nat → Prop), ¬ m j → ∀ (j' : Nat) (u' : Oper), ops[j']? = some u' → u'.dst = some t → ¬ m j' := fun m hm j' u' h5 h6 h7 => by
            by_cases e2 : j' = j
            · rw [e2] at h7; exact hm h7
            · exact ho.once j' j u' u t h5 h1 h2 e2 h6
          rw [h.kept t (no l hlj), k.kept t (no _ (by omega))]
    · have no : ∀ (m : Nat → Prop), ∀ (j' : Nat) (u' : Oper), ops[j']? = some u' → u'.dst = some t → ¬ m j' := fun m j' u' h5 h6 _ => c ⟨j', u', h5, h6⟩
      rw [h.kept t (no l), k.kept t (no _)]
  | _ => rfl

/-- one operation at whatever world keeps the condition: a value, or a call that keeps it too -/
def Step (P : Program) (S : World → Prop) (A : Act) (o : Oper) (v : Value) : Prop :=
  (∀ w', S w' → (execOp A.eval o).run P w' = .ok (.value v) w') ∨
  (∀ w', S w' → ∃ f args, (execOp A.eval o).run P w' = .ok (.enter f args) w' ∧ Calls P f args w' fun e w'' => e = .returned v ∧ S w'')
/-- the operations one after the other; of the last one what the caller asks -/
def Obl (P : Program) (S : World → Prop) (F : Oper → Act → Prop) : List Oper → Act → Prop
  | [], _ => False
  | [o], A => F o A
  | o :: u :: r, A => ∃ v, Step P S A o v ∧ Obl P S F (u :: r) (A.put o.dst v)
theorem Obl.val {P : Program} {S : World → Prop} {F : Oper → Act → Prop} {o u : Oper} {r : List Oper} {A : Act} {v : Value} (h1 : ∀ w', S w' → (execOp A.eval o).run P w' = .ok (.value v) w') (h2 : Obl P S F (u :: r) (A.put o.dst v)) : Obl P S F (o :: u :: r) A := ⟨v, Or.inl h1, h2⟩
theorem Obl.call {P : Program} {S : World → Prop} {F : Oper → Act → Prop} {o u : Oper} {r : List Oper} {A : Act} {v : Value} (h1 : ∀ w', S w' → ∃ f args, (execOp A.eval o).run P w' = .ok (.enter f args) w' ∧ Calls P f args w' fun e w'' => e = .returned v ∧ S w'') (h2 : Obl P S F (u :: r) (A.put o.dst v)) : Obl P S F (o :: u :: r) A := ⟨v, Or.inr h1, h2⟩
theorem prefA_cons (o : Oper) (r : List Oper) (v : Value) (vs : List Value) (a : Act) : ∀ i, prefA (o :: r) (v :: vs) a (i + 1) = prefA r vs (a.put o.dst v) i
  | 0 => rfl
  | i + 1 => by
    have ih := prefA_cons o r v vs a i
    show (match (o :: r)[i + 1]? with | some o' => (prefA (o :: r) (v :: vs) a (i + 1)).put o'.dst ((v :: vs).getD (i + 1) undef) | none => prefA (o :: r) (v :: vs) a (i + 1)) = _
    rw [ih]
    rfl
theorem Obl.all {P : Program} {S : World → Prop} {F : Oper → Act → Prop} : ∀ (ops : List Oper) (a : Act), Obl P S F ops a →
    ∃ vs k o, ops.length = k + 1 ∧ vs.length = k ∧ ops[k]? = some o ∧ (∀ i u, i < k → ops[i]? = some u → Step P S (prefA ops vs a i) u (vs.getD i undef)) ∧ F o (prefA ops vs a k)
  | [], _, h => h.elim
  | [o], a, h => ⟨[], 0, o, rfl, rfl, rfl, fun i u hi _ => absurd hi (by omega), h⟩
  | o :: u :: r, a, h => by
    obtain ⟨v, h1, h2⟩ := h
    obtain ⟨vs, k, z, e1, e0, e2, e3, e4⟩ := Obl.all (u :: r) _ h2
    refine ⟨v :: vs, k + 1, z, by rw [List.length_cons, e1], by rw [List.length_cons, e0], e2, ?_, by rw [prefA_cons]; exact e4⟩
    intro i x hi hx
    cases i with
    | zero => cases hx; exact h1
    | succ i => rw [prefA_cons]; exact e3 i x (by omega) hx
theorem prefA_snoc (ops : List Oper) (vs : List Value) (v : Value) (a : Act) : ∀ i, i ≤ vs.length → prefA ops (vs ++ [v]) a i = prefA ops vs a i
  | 0, _ => rfl
  | i + 1, h => by
    unfold prefA
    rw [prefA_snoc ops vs v a i (by omega)]
    have : (vs ++ [v]).getD i undef = vs.getD i undef := by
      rw [List.getD_eq_getElem?_getD, List.getD_eq_getElem?_getD, List.getElem?_append_left (by omega)]
    rw [this]
theorem getD_last (vs : List Value) (v : Value) : (vs ++ [v]).getD vs.length undef = v := by simp [List.getD_eq_getElem?_getD]
theorem getD_front (vs : List Value) (v : Value) {i : Nat} (h : i < vs.length) : (vs ++ [v]).getD i undef = vs.getD i undef := by
  rw [List.getD_eq_getElem?_getD, List.getD_eq_getElem?_getD, List.getElem?_append_left h]
/-- the last operation comes behind all others -/
def covers (ops : List Oper) : Bool := match ops.getLast? with
  | some o => (List.range (ops.length - 1)).all fun j => dependsOn o j
  | none => false

theorem ActI.congr {l l' : Nat → Prop} (h : ActI ops vs a l x) (hl : ∀ j, j < ops.length → (l' j ↔ l j)) : ActI ops vs a l' x :=
  ⟨h.defers, h.size, fun j o d h1 h2 h3 => h.made j o d h1 h2 ((hl j (List.getElem?_eq_some_iff.mp h1).1).mp h3),
   fun t ht => h.kept t (fun j o h1 h2 h3 => ht j o h1 h2 ((hl j (List.getElem?_eq_some_iff.mp h1).1).mpr h3))⟩

/-- what holds at each point of each order -/
structure Pt (ops : List Oper) (vs : List Value) (a : Act) (S : World → Prop) (E : Act → World → Prop) (k : Nat) (l : Array Bool) (x : Act) (w : World) : Prop where
  size : l.size = ops.length
  act : ActI ops vs a (fun j => l.getD j false = true) x
  clo : ∀ (j : Nat) (u : Oper), ops[j]? = some u → l.getD j false = true → ∀ i, dependsOn u i = true → l.getD i false = true
  open' : l.getD k false = false → S w
  done : l.getD k false = true → E x w
theorem Pt.next {S : World → Prop} {E : Act → World → Prop} {k : Nat} {w w' : World} (h : Pt ops vs a S E k l x w) (ho : Orderly ops) {i : Nat} {o : Oper} (hi : ops[i]? = some o)
    (hd : ∀ j, dependsOn o j = true → l.getD j false = true) (h1 : i ≠ k → l.getD k false = false ∧ S w') (h2 : i = k → E (x.put o.dst (vs.getD i undef)) w') : Pt ops vs a S E k (l.setIfInBounds i true) (x.put o.dst (vs.getD i undef)) w' := by
  have hlt : i < l.size := by rw [h.size]; exact (List.getElem?_eq_some_iff.mp hi).1
  have hg : ∀ j, (l.setIfInBounds i true).getD j false = true ↔ l.getD j false = true ∨ j = i := fun j => by
    by_cases e : i = j
    · subst e; simp [Array.getD, hlt]
    · rw [getD_set_ne _ e]; exact ⟨Or.inl, fun h => h.resolve_right (fun e' => e e'.symm)⟩
  refine ⟨by rw [Array.size_setIfInBounds]; exact h.size, h.act.put ho hi hg, ?_, ?_, ?_⟩
  · intro j u hj hl q hq
    rcases (hg j).mp hl with h3 | h3
    · exact (hg q).mpr (Or.inl (h.clo j u hj h3 q hq))
    · subst h3
      rw [hi] at hj
      cases hj
      exact (hg q).mpr (Or.inl (hd q hq))
  · intro hk
    by_cases e : i = k
    · exact absurd ((hg k).mpr (Or.inr e.symm)) (by rw [hk]; decide)
    · exact (h1 e).2
  · intro hk
    by_cases e : i = k
    · exact h2 e
    · rcases (hg k).mp hk with h3 | h3
      · rw [(h1 e).1] at h3; cases h3
      · exact absurd h3.symm e
end

section
variable {P : Program} {Q : Exit → Act → World → Prop}
theorem earlier_of {ops : List Oper} (ho : Orderly ops) : earlier ops.toArray = true := by
  unfold earlier
  rw [List.all_eq_true]
  intro i hi
  have : i < ops.length := by simpa using List.mem_range.mp hi
  have h1 : ops.toArray[i]? = some ops[i] := by simp [this]
  rw [h1]
  simp only
  rw [Array.all_eq_true']
  intro e he
  by_cases hb : Region.binds .any e = true
  · simp only [hb, Bool.not_true, Bool.false_or, decide_eq_true_eq]
    exact ho.early i _ (List.getElem?_eq_getElem this) e he hb
  · simp [Bool.eq_false_iff.mpr hb]

theorem covers_spec {ops : List Oper} {k : Nat} {o : Oper} (hc : covers ops = true) (hl : ops.length = k + 1) (hk : ops[k]? = some o) : ∀ j, j < k → dependsOn o j = true := by
  intro j hj
  unfold covers at hc
  have e : ops.getLast? = some o := by
    rw [List.getLast?_eq_getElem?, hl]; exact hk
  rw [e] at hc
  simp only at hc
  exact List.all_eq_true.mp hc j (List.mem_range.mpr (by omega))

/-- what the last operation does -/
def Last (P : Program) (S : World → Prop) (R : Act → World → Prop) (o : Oper) (A : Act) (v : Value) : Prop :=
  ∀ w', S w' → (∃ w'', (execOp A.eval o).run P w' = .ok (.value v) w'' ∧ R (A.put o.dst v) w'') ∨ (∃ w'', (execOp A.eval o).run P w' = .ok .skip w'' ∧ v = undef ∧ R (A.put o.dst v) w'') ∨
    (∃ f args, (execOp A.eval o).run P w' = .ok (.enter f args) w' ∧ Calls P f args w' fun e w'' => e = .returned v ∧ R (A.put o.dst v) w'')

/-- a store at the end -/
def Stored (P : Program) (R : Act → World → Prop) (o : Oper) (A : Act) (w' : World) : Prop := ∃ w'', (execOp A.eval o).run P w' = .ok .skip w'' ∧ R (A.put o.dst undef) w''
theorem Stored.of {P : Program} {R : Act → World → Prop} {o : Oper} {A : Act} {w' w'' : World} (h1 : (execOp A.eval o).run P w' = .ok .skip w'') (h2 : R (A.put o.dst undef) w'') : Stored P R o A w' := ⟨w'', h1, h2⟩
theorem Last.store {P : Program} {S : World → Prop} {R : Act → World → Prop} {o : Oper} {A : Act} (h : ∀ w', S w' → Stored P R o A w') : ∃ v, Last P S R o A v :=
  ⟨undef, fun w' hS => Or.inr (Or.inl (by obtain ⟨w'', h1, h2⟩ := h w' hS; exact ⟨w'', h1, rfl, h2⟩))⟩
theorem Last.val {P : Program} {S : World → Prop} {R : Act → World → Prop} {o : Oper} {A : Act} {v : Value} (h : ∀ w', S w' → (execOp A.eval o).run P w' = .ok (.value v) w') (h2 : ∀ w', S w' → R (A.put o.dst v) w') : ∃ v, Last P S R o A v :=
  ⟨v, fun w' hS => Or.inl ⟨w', h w' hS, h2 w' hS⟩⟩
/-- what is known of an operation that comes up -/
theorem Pt.up {S : World → Prop} {E : Act → World → Prop} {ops : List Oper} {vs : List Value} {a x : Act} {l : Array Bool} {w : World} {k : Nat} {ol : Oper} (h : Pt ops vs a S E k l x w) (ho : Orderly ops) (hcov : ∀ j, j < k → dependsOn ol j = true) (hk : ops[k]? = some ol) (hlen : ops.length = k + 1)
    {i : Nat} (hi : i < ops.toArray.size) (hf : l.getD i true = false) (hd : ((ops.toArray[i]?).map (·.after.all fun e => !Region.binds .any e || l.getD e.on false)).getD false = true) :
    ∃ o, ops[i]? = some o ∧ (∀ j, dependsOn o j = true → l.getD j false = true) ∧ l.getD k false = false ∧ S w ∧ execOp x.eval o = execOp (prefA ops vs a i).eval o ∧ (i = k → x = prefA ops vs a k) := by
  have hi' : i < ops.length := by simpa using hi
  have ho1 : ops[i]? = some ops[i] := List.getElem?_eq_getElem hi'
  have hdep : ∀ j, dependsOn ops[i] j = true → l.getD j false = true := by
    intro j hj
    have h1 : ops.toArray[i]? = some ops[i] := by simp [hi']
    rw [h1] at hd
    simp only [Option.map_some, Option.getD_some] at hd
    unfold dependsOn at hj
    rw [Array.any_eq_true'] at hj
    obtain ⟨e, he, h2⟩ := hj
    simp only [Bool.and_eq_true, beq_iff_eq] at h2
    have h3 := Array.all_eq_true'.mp hd e he
    rw [h2.2, h2.1] at h3
    simpa using h3
  have hli : l.getD i false = false := by
    have h1 : i < l.size := by rw [h.size]; exact hi'
    simp only [Array.getD, h1, dif_pos] at hf ⊢
    exact hf
  have hlk : l.getD k false = false := by
    by_cases e : i = k
    · rw [← e]; exact hli
    · cases hb : l.getD k false with
      | false => rfl
      | true =>
        have := h.clo k ol hk hb i (hcov i (by omega))
        rw [hli] at this
        cases this
  have hev := ActI.eval ho ho1 h.act (ActI.pref ho i (by omega)) (by rw [hli]; decide) hdep h.clo
  refine ⟨ops[i], ho1, hdep, hlk, h.open' hlk, hev, fun e => ?_⟩
  subst e
  refine (h.act.congr (l' := fun j => j < i) (fun j hj => ?_)).ext (ActI.pref ho i (by omega))
  have : ops[i] = ol := by rw [ho1] at hk; exact Option.some.inj hk
  by_cases c : j < i
  · exact ⟨fun _ => hdep j (by rw [this]; exact hcov j c), fun _ => c⟩
  · have : j = i := by omega
    subst this
    rw [hli]
    exact ⟨fun h => absurd h c, fun h => by cases h⟩
theorem Pt.first {S : World → Prop} {E : Act → World → Prop} {ops : List Oper} {vs : List Value} {a : Act} {w : World} {k : Nat} (hS : S w) : Pt ops vs a S E k (Array.replicate ops.length false) a w := by
  have no : ∀ j, (Array.replicate ops.length false).getD j false = false := fun j => by
    rw [Array.getD_eq_getD_getElem?, Array.getElem?_replicate]; split <;> rfl
  refine ⟨by simp, ActI.start.congr (fun j _ => by rw [no]; simp), fun j u _ h => ?_, fun _ => hS, fun h => ?_⟩
  · rw [no] at h; cases h
  · rw [no] at h; cases h

/-- A REGION OF OPEN ORDER, BY ITS OPERATIONS IN PROGRAM ORDER. -/
theorem wp_region_obl {id : Nat} {ops : List Oper} {a : Act} {w : World} (S : World → Prop) (hm : P.follows .mixedOrders = true) (ho : orderly ops = true) (hc : covers ops = true) (hS : S w.drew)
    (h : Obl P S (fun o A => ∃ v, Last P S (fun a' w' => Q .normal a' w') o A v) ops a) : (Code.region id ops.toArray true).wp P Q a w := by
  obtain ⟨vs0, k, ol, hlen, hvl, hk, hst, v, hF⟩ := h.all
  have hO := orderly_iff ho
  have hcov := covers_spec hc hlen hk
  refine wp_region_any hm (wpAny_inv (earlier_of hO) (Pt ops (vs0 ++ [v]) a S (fun x w => Q .normal x w) k) ?hend ?hstep _ _ _ _ (by simp) ?hcnt ?hinit)
  case hend => exact fun l x w' hp hall => hp.done (hall k (by simp [hlen]))
  case hcnt =>
    rw [Array.toList_replicate, List.countP_replicate]
    simp
  case hinit =>
    have := Pt.first (ops := ops) (vs := vs0 ++ [v]) (a := a) (E := fun x w => Q .normal x w) (k := k) hS
    simpa using this
  case hstep =>
    intro l x w' hls hp i hi hf hd
    obtain ⟨o, ho1, hdep, hlk, hSw, hev, hlast⟩ := hp.up hO hcov hk hlen hi hf hd
    have ha : ops.toArray[i]? = some o := by simpa using ho1
    unfold wpOp
    rw [ha]
    simp only [Region.wanted, hO.guard i o ho1, if_true]
    left
    unfold Oper.wp
    rw [hev, prefA_snoc _ _ _ _ _ (by rw [hvl]; have := (List.getElem?_eq_some_iff.mp ho1).1; omega)]
    by_cases e : i = k
    · subst e
      rw [hk] at ho1
      cases ho1
      have hx := hlast rfl
      rw [prefA_snoc _ _ _ _ _ (by omega)] at hx
      have hv : (vs0 ++ [v]).getD i undef = v := by rw [← hvl]; exact getD_last _ _
      rcases hF w' hSw with ⟨w'', h1, h2⟩ | ⟨w'', h1, h2, h3⟩ | ⟨f, args, h1, h2⟩
      · rw [h1]
        show Pt _ _ _ _ _ _ _ (x.put ol.dst v) w''
        have := hp.next (w' := w'') hO hk hdep (fun e => absurd rfl e) (fun _ => by rw [hv, hx]; exact h2)
        rw [hv] at this
        exact this
      · rw [h1]
        show Pt _ _ _ _ _ _ _ (x.put ol.dst undef) w''
        have := hp.next (w' := w'') hO hk hdep (fun e => absurd rfl e) (fun _ => by rw [hv, hx]; exact h3)
        rw [hv, h2] at this
        rw [h2]
        exact this
      · rw [h1]
        show Calls P f args w' _
        refine h2.mono ?_
        rintro e w'' ⟨rfl, h3⟩
        show Pt _ _ _ _ _ _ _ (x.put ol.dst v) w''
        have := hp.next (w' := w'') hO hk hdep (fun e => absurd rfl e) (fun _ => by rw [hv, hx]; exact h3)
        rw [hv] at this
        exact this
    · have hik : i < k := by have := (List.getElem?_eq_some_iff.mp ho1).1; omega
      have hv : (vs0 ++ [v]).getD i undef = vs0.getD i undef := getD_front _ _ (by omega)
      rcases hst i o hik ho1 with h1 | h1
      · rw [h1 w' hSw]
        show Pt _ _ _ _ _ _ _ (x.put o.dst _) w'
        have := hp.next (w' := w') hO ho1 hdep (fun _ => ⟨hlk, hSw⟩) (fun e' => absurd e' e)
        rw [hv] at this
        exact this
      · obtain ⟨f, args, h2, h3⟩ := h1 w' hSw
        rw [h2]
        show Calls P f args w' _
        refine h3.mono ?_
        rintro e' w'' ⟨rfl, h4⟩
        show Pt _ _ _ _ _ _ _ (x.put o.dst _) w''
        have := hp.next (w' := w'') hO ho1 hdep (fun _ => ⟨hlk, h4⟩) (fun e' => absurd e' e)
        rw [hv] at this
        exact this

theorem wpAnyIn_inv {G : Fence} {m : Nat} {ops : Array Oper} (he : earlier ops = true) (I : Array Bool → Act → World → Prop)
    (hend : ∀ l a w, I l a w → (∀ i, i < ops.size → l.getD i false = true) → Q .normal a w)
    (hstep : ∀ l a w, l.size = ops.size → I l a w → ∀ i, i < ops.size → l.getD i true = false → ((ops[i]?).map (·.after.all fun e => !Region.binds .any e || l.getD e.on false)).getD false = true →
      wpOpIn G m P ops Q i (fun a' w' => I (l.setIfInBounds i true) a' w') a w) :
    ∀ (fuel : Nat) (l : Array Bool) (a : Act) (w : World), l.size = ops.size → l.toList.countP (fun b => !b) ≤ fuel → I l a w → wpAnyIn G m P .any ops Q fuel l a w
  | 0, l, a, w, hl, hc, hI => by
    have hall : ∀ i, i < ops.size → l.getD i false = true := by
      intro i hi
      have h1 : i < l.size := by omega
      have h2 := List.countP_eq_zero.mp (Nat.le_zero.mp hc) l[i] (by rw [Array.mem_toList_iff]; exact Array.getElem_mem h1)
      simp only [Array.getD, h1, dif_pos]
      simpa using h2
    unfold wpAnyIn
    refine ⟨?_, hend l a w hI hall⟩
    rw [List.eq_nil_iff_forall_not_mem]
    intro i hi
    obtain ⟨h1, h2, _⟩ := ready_iff.mp hi
    have h3 := hall i h1
    have h4 : i < l.size := by omega
    simp only [Array.getD, h4, dif_pos] at h2 h3
    rw [h3] at h2
    cases h2
  | fuel + 1, l, a, w, hl, hc, hI => by
    unfold wpAnyIn
    refine ⟨fun hr => hend l a w hI (all_listed he hl hr), ?_⟩
    intro i hi
    obtain ⟨h1, h2, h3⟩ := ready_iff.mp hi
    refine wpOpIn_mono (fun a' w' h => wpAnyIn_inv he I hend hstep fuel _ a' w' (by simpa using hl) ?_ h) (hstep l a w hl hI i h1 h2 h3)
    have h4 : i < l.size := by omega
    have h5 : l[i] = false := by
      have h2' := h2
      simp only [Array.getD, h4, dif_pos] at h2'
      exact h2'
    rw [Array.toList_setIfInBounds]
    have h6 : l.toList.countP (fun b => !b) = (l.toList.set i true).countP (fun b => !b) + 1 := by
      have h7 : i < l.toList.length := by simpa using h4
      have h8 : l.toList[i] = false := by simpa using h5
      rw [List.countP_set h7, h8]
      have h9 : 0 < l.toList.countP (fun b => !b) := List.countP_pos_iff.mpr ⟨l.toList[i], List.getElem_mem h7, by rw [h8]; rfl⟩
      have e1 : (if (!false) = true then 1 else 0) = 1 := rfl
      have e2 : (if (!true) = true then 1 else 0) = 0 := rfl
      rw [e1, e2]
      omega
    omega

/-- The same in a round of a range over a function. -/
theorem wpIn_region_obl {lp m id : Nat} {ops : List Oper} {a : Act} {w : World} (S : World → Prop) (hm : P.follows .mixedOrders = true) (ho : orderly ops = true) (hc : covers ops = true) (hS : S w.drew)
    (h : Obl P S (fun o A => ∃ v, Last P S (fun a' w' => Q .normal a' w') o A v) ops a) : (Code.region id ops.toArray true).wpIn (Fence.wide.inRound lp) m P Q a w := by
  obtain ⟨vs0, k, ol, hlen, hvl, hk, hst, v, hF⟩ := h.all
  have hO := orderly_iff ho
  have hcov := covers_spec hc hlen hk
  refine wpIn_region_any hm (wpAnyIn_inv (earlier_of hO) (Pt ops (vs0 ++ [v]) a S (fun x w => Q .normal x w) k) ?hend ?hstep _ _ _ _ (by simp) ?hcnt ?hinit)
  case hend => exact fun l x w' hp hall => hp.done (hall k (by simp [hlen]))
  case hcnt =>
    rw [Array.toList_replicate, List.countP_replicate]
    simp
  case hinit =>
    have := Pt.first (ops := ops) (vs := vs0 ++ [v]) (a := a) (E := fun x w => Q .normal x w) (k := k) hS
    simpa using this
  case hstep =>
    intro l x w' hls hp i hi hf hd
    obtain ⟨o, ho1, hdep, hlk, hSw, hev, hlast⟩ := hp.up hO hcov hk hlen hi hf hd
    have ha : ops.toArray[i]? = some o := by simpa using ho1
    unfold wpOpIn
    rw [ha]
    simp only [Region.wanted, hO.guard i o ho1, if_true]
    unfold Oper.wpIn
    rw [Oper.semAt_eq _ _ _ (hO.defer i o ho1)]
    refine ⟨fun _ _ => trivial, ?_⟩
    rw [hev, prefA_snoc _ _ _ _ _ (by rw [hvl]; have := (List.getElem?_eq_some_iff.mp ho1).1; omega)]
    by_cases e : i = k
    · subst e
      rw [hk] at ho1
      cases ho1
      have hx := hlast rfl
      rw [prefA_snoc _ _ _ _ _ (by omega)] at hx
      have hv : (vs0 ++ [v]).getD i undef = v := by rw [← hvl]; exact getD_last _ _
      rcases hF w' hSw with ⟨w'', h1, h2⟩ | ⟨w'', h1, h2, h3⟩ | ⟨f, args, h1, h2⟩
      · rw [h1]
        show Pt _ _ _ _ _ _ _ (x.put ol.dst v) w''
        have := hp.next (w' := w'') hO hk hdep (fun e => absurd rfl e) (fun _ => by rw [hv, hx]; exact h2)
        rw [hv] at this
        exact this
      · rw [h1]
        show Pt _ _ _ _ _ _ _ (x.put ol.dst undef) w''
        have := hp.next (w' := w'') hO hk hdep (fun e => absurd rfl e) (fun _ => by rw [hv, hx]; exact h3)
        rw [hv, h2] at this
        rw [h2]
        exact this
      · rw [h1]
        show _ ∧ CallsIn _ _ P f args w' _
        refine ⟨fun h => (by cases h), CallsIn.inRound lp (callsIn_wide.2 (h2.mono ?_))⟩
        rintro e w'' ⟨rfl, h3⟩
        show Pt _ _ _ _ _ _ _ (x.put ol.dst v) w''
        have := hp.next (w' := w'') hO hk hdep (fun e => absurd rfl e) (fun _ => by rw [hv, hx]; exact h3)
        rw [hv] at this
        exact this
    · have hik : i < k := by have := (List.getElem?_eq_some_iff.mp ho1).1; omega
      have hv : (vs0 ++ [v]).getD i undef = vs0.getD i undef := getD_front _ _ (by omega)
      rcases hst i o hik ho1 with h1 | h1
      · rw [h1 w' hSw]
        show Pt _ _ _ _ _ _ _ (x.put o.dst _) w'
        have := hp.next (w' := w') hO ho1 hdep (fun _ => ⟨hlk, hSw⟩) (fun e' => absurd e' e)
        rw [hv] at this
        exact this
      · obtain ⟨f, args, h2, h3⟩ := h1 w' hSw
        rw [h2]
        show _ ∧ CallsIn _ _ P f args w' _
        refine ⟨fun h => (by cases h), CallsIn.inRound lp (callsIn_wide.2 (h3.mono ?_))⟩
        rintro e' w'' ⟨rfl, h4⟩
        show Pt _ _ _ _ _ _ _ (x.put o.dst _) w''
        have := hp.next (w' := w'') hO ho1 hdep (fun _ => ⟨hlk, h4⟩) (fun e' => absurd e' e)
        rw [hv] at this
        exact this
end
end Go.Proofs.Ythcjmmicjbfpgaa.Rs

namespace Go.Proofs.Ythcjmmicjbfpgaa.Rs
open Go.RowKit

section
variable {ops : List Oper} {vs : List Value} {a : Act} {x : Act}
theorem ActI.vals {vs' : List Value} {l : Nat → Prop} (h : ActI ops vs a l x) (e : ∀ j, l j → vs'.getD j undef = vs.getD j undef) : ActI ops vs' a l x :=
  ⟨h.defers, h.size, fun j o d h1 h2 h3 => by rw [e j h3]; exact h.made j o d h1 h2 h3, h.kept⟩
theorem ActI.iff {l l' : Nat → Prop} (h : ActI ops vs a l x) (hl : ∀ j, j < ops.length → (l' j ↔ l j)) : ActI ops vs a l' x := h.congr hl
/-- an operation comes to the same at two acts that hold what it reads -/
theorem ActI.same {vs' : List Value} {l l2 : Nat → Prop} {y : Act} {i : Nat} {o : Oper} (ho : Orderly ops) (hi : ops[i]? = some o) (h : ActI ops vs a l x) (k : ActI ops vs' a l2 y) (hli : ¬ l i) (hl2 : ¬ l2 i)
    (hd : ∀ j, dependsOn o j = true → l j) (hd2 : ∀ j, dependsOn o j = true → l2 j) (hv : ∀ j, dependsOn o j = true → vs'.getD j undef = vs.getD j undef)
    (hc : ∀ (j : Nat) (u : Oper), ops[j]? = some u → l j → ∀ k, dependsOn u k = true → l k) (hc2 : ∀ (j : Nat) (u : Oper), ops[j]? = some u → l2 j → ∀ k, dependsOn u k = true → l2 k) : execOp x.eval o = execOp y.eval o := by
  refine execOp_congr o (ho.sel i o hi) fun e he => ?_
  cases e with
  | tmp t =>
    have hr : readsTmp o t = true := by
      unfold readsTmp
      rw [List.any_eq_true]
      exact ⟨.tmp t, by simpa using he, by simp⟩
    by_cases c : ∃ (j : Nat) (u : Oper), ops[j]? = some u ∧ u.dst = some t
    · obtain ⟨j, u, h1, h2⟩ := c
      have no : ∀ (m : Nat → Prop), ¬ m j → ∀ (j' : Nat) (u' : Oper), ops[j']? = some u' → u'.dst = some t → ¬ m j' := fun m hm j' u' h3 h4 h5 => by
        by_cases e2 : j' = j
        · rw [e2] at h5; exact hm h5
        · exact ho.once j' j u' u t h3 h1 h2 e2 h4
      by_cases e : i = j
      · subst e
        rw [h.kept t (no l hli), k.kept t (no l2 hl2)]
      · rcases ho.reads i j o u t hi h1 h2 e hr with ⟨h3, h4⟩ | ⟨h3, h4⟩
        · rw [h.made j u t h1 h2 (hd j h4), k.made j u t h1 h2 (hd2 j h4), hv j h4]
        · rw [h.kept t (no l (fun hj => hli (hc j u h1 hj i h4))), k.kept t (no l2 (fun hj => hl2 (hc2 j u h1 hj i h4)))]
    · have no : ∀ (m : Nat → Prop), ∀ (j' : Nat) (u' : Oper), ops[j']? = some u' → u'.dst = some t → ¬ m j' := fun m j' u' h5 h6 _ => c ⟨j', u', h5, h6⟩
      rw [h.kept t (no l), k.kept t (no l2)]
  | _ => rfl
end

/-- the operations that only read, in program order; those of a list are passed over -/
def OblH (P : Program) (S : World → Prop) (t : List Nat) (F : Act → Prop) : Nat → List Oper → Act → Prop
  | _, [], A => F A
  | i, o :: r, A => if t.contains i then OblH P S t F (i + 1) r A else ∃ v, (∀ w', S w' → (execOp A.eval o).run P w' = .ok (.value v) w') ∧ OblH P S t F (i + 1) r (A.put o.dst v)
/-- a continuation of the normal end alone -/
def onlyN (K : Act → World → Prop) : Exit → Act → World → Prop
  | .normal, a, w => K a w
  | _, _, _ => False
/-- the operations of a list, one after the other -/
def Chain (P : Program) (S : World → Prop) (ops : List Oper) (R : Act → World → Prop) : List Nat → Act → World → Prop
  | [], A, w => R A w
  | m :: [], A, w => ∀ o, ops[m]? = some o → wpList P ops.toArray (onlyN (fun a' w' => a'.defers = A.defers ∧ R a' w')) [o] A w
  | m :: r, A, w => ∀ o, ops[m]? = some o → wpList P ops.toArray (onlyN (fun a' w' => a'.defers = A.defers ∧ S w' ∧ Chain P S ops R r a' w')) [o] A w

section
variable {P : Program} {S : World → Prop} {t : List Nat} {F : Act → Prop} {i : Nat} {o : Oper} {r ops : List Oper} {A a' : Act} {R : Act → World → Prop} {w w' : World}
theorem OblH.val {v : Value} (h0 : t.contains i = false) (h1 : ∀ w', S w' → (execOp A.eval o).run P w' = .ok (.value v) w') (h2 : OblH P S t F (i + 1) r (A.put o.dst v)) : OblH P S t F i (o :: r) A := by
  unfold OblH
  rw [h0, if_neg (by decide)]
  exact ⟨v, h1, h2⟩
theorem OblH.skip (h0 : t.contains i = true) (h : OblH P S t F (i + 1) r A) : OblH P S t F i (o :: r) A := by
  unfold OblH
  rw [h0, if_pos rfl]
  exact h
theorem OblH.done (h : F A) : OblH P S t F i [] A := h
theorem Chain.step {m m2 : Nat} {q : List Nat} (ho : ops[m]? = some o) (h : wpList P ops.toArray (onlyN (fun a' w' => a'.defers = A.defers ∧ S w' ∧ Chain P S ops R (m2 :: q) a' w')) [o] A w) : Chain P S ops R (m :: m2 :: q) A w := by
  intro o' ho'
  rw [ho] at ho'
  cases ho'
  exact h
theorem Chain.last {m : Nat} (ho : ops[m]? = some o) (h : wpList P ops.toArray (onlyN (fun a' w' => a'.defers = A.defers ∧ R a' w')) [o] A w) : Chain P S ops R [m] A w := by
  intro o' ho'
  rw [ho] at ho'
  cases ho'
  exact h
theorem onlyN.next {q : List Nat} {d : List Deferred} (h1 : a'.defers = d) (h2 : S w) (h3 : Chain P S ops R q a' w) : onlyN (fun a' w' => a'.defers = d ∧ S w' ∧ Chain P S ops R q a' w') .normal a' w := ⟨h1, h2, h3⟩
theorem onlyN.last {d : List Deferred} (h1 : a'.defers = d) (h3 : R a' w) : onlyN (fun a' w' => a'.defers = d ∧ R a' w') .normal a' w := ⟨h1, h3⟩

/-- the puts of the operations that only read -/
def prefH (t : List Nat) (ops : List Oper) (vs : List Value) (a : Act) : Nat → Act
  | 0 => a
  | i + 1 => if t.contains i then prefH t ops vs a i else match ops[i]? with
    | some o => (prefH t ops vs a i).put o.dst (vs.getD i undef)
    | none => prefH t ops vs a i
theorem prefH_of (t : List Nat) (vs : List Value) (a : Act) (ho : Orderly ops) : ∀ i, i ≤ ops.length → ActI ops vs a (fun j => j < i ∧ t.contains j = false) (prefH t ops vs a i)
  | 0, _ => ActI.start.iff (fun j _ => by simp)
  | i + 1, hi => by
    have ih := prefH_of t vs a ho i (by omega)
    have h1 : ops[i]? = some ops[i] := List.getElem?_eq_getElem (by omega)
    unfold prefH
    cases hc : t.contains i with
    | true =>
      rw [if_pos rfl]
      refine ih.iff (fun j _ => ⟨fun h => ⟨?_, h.2⟩, fun h => ⟨by omega, h.2⟩⟩)
      have : j ≠ i := fun e => by rw [e, hc] at h; cases h.2
      omega
    | false =>
      rw [if_neg (by decide), h1]
      refine ih.put ho h1 (fun j => ⟨fun h => ?_, fun h => ?_⟩)
      · by_cases e : j = i
        · exact Or.inr e
        · exact Or.inl ⟨by omega, h.2⟩
      · rcases h with h | h
        · exact ⟨by omega, h.2⟩
        · subst h; exact ⟨by omega, hc⟩
/-- the obligations, as a list of values -/
theorem OblH.all (a : Act) : ∀ (r pre : List Oper) (vs : List Value), vs.length = pre.length → OblH P S t F pre.length r (prefH t (pre ++ r) vs a pre.length) → 
    ∃ vs', vs'.length = (pre ++ r).length ∧ (∀ j, j < pre.length → vs'.getD j undef = vs.getD j undef) ∧ (∀ j u, pre.length ≤ j → (pre ++ r)[j]? = some u → t.contains j = false → ∀ w', S w' → (execOp (prefH t (pre ++ r) vs' a j).eval u).run P w' = .ok (.value (vs'.getD j undef)) w') ∧
      F (prefH t (pre ++ r) vs' a (pre ++ r).length)
  | [], pre, vs, hl, h => by
    refine ⟨vs, by simpa using hl, fun _ _ => rfl, ?_, by simpa [OblH] using h⟩
    intro j u h1 h2
    rw [List.append_nil, List.getElem?_eq_none h1] at h2
    cases h2
  | o :: r, pre, vs, hl, h => by
    have ho : (pre ++ o :: r)[pre.length]? = some o := by simp
    have e1 : pre ++ o :: r = (pre ++ [o]) ++ r := by simp
    have cong : ∀ (vs' : List Value) (j : Nat), (∀ q, q < j → vs'.getD q undef = vs.getD q undef) → prefH t (pre ++ o :: r) vs' a j = prefH t (pre ++ o :: r) vs a j := by
      intro vs' j
      induction j with
      | zero => exact fun _ => rfl
      | succ j ih =>
        intro hq
        unfold prefH
        rw [ih (fun q hq' => hq q (by omega)), hq j (by omega)]
    have step : ∀ v, OblH P S t F (pre.length + 1) r ((if t.contains pre.length then prefH t (pre ++ o :: r) vs a pre.length else (prefH t (pre ++ o :: r) vs a pre.length).put o.dst v)) →
        (t.contains pre.length = false → ∀ w', S w' → (execOp (prefH t (pre ++ o :: r) vs a pre.length).eval o).run P w' = .ok (.value v) w') →
        ∃ vs', vs'.length = (pre ++ o :: r).length ∧ (∀ j, j < pre.length → vs'.getD j undef = vs.getD j undef) ∧ (∀ j u, pre.length ≤ j → (pre ++ o :: r)[j]? = some u → t.contains j = false → ∀ w', S w' → (execOp (prefH t (pre ++ o :: r) vs' a j).eval u).run P w' = .ok (.value (vs'.getD j undef)) w') ∧
          F (prefH t (pre ++ o :: r) vs' a (pre ++ o :: r).length) := by
      intro v h2 h3
      have hgl : (vs ++ [v]).getD pre.length undef = v := by rw [← hl]; exact getD_last vs v
      have hgf : ∀ q, q < pre.length → (vs ++ [v]).getD q undef = vs.getD q undef := fun q hq => getD_front vs v (by omega)
      have ea : prefH t (pre ++ o :: r) (vs ++ [v]) a (pre.length + 1) = (if t.contains pre.length then prefH t (pre ++ o :: r) vs a pre.length else (prefH t (pre ++ o :: r) vs a pre.length).put o.dst v) := by
        conv => lhs; unfold prefH
        rw [cong _ _ hgf, ho, hgl]
      rw [← ea] at h2
      obtain ⟨vs', k1, k2, k3, k4⟩ := OblH.all a r (pre ++ [o]) (vs ++ [v]) (by simp [hl]) (by
        rw [← e1, show (pre ++ [o]).length = pre.length + 1 by simp]; exact h2)
      rw [← e1] at k1 k3 k4
      rw [show (pre ++ [o]).length = pre.length + 1 by simp] at k2 k3
      refine ⟨vs', k1, fun j hj => by rw [k2 j (by omega), hgf j hj], fun j u hj hu ht => ?_, k4⟩
      by_cases e : j = pre.length
      · subst e
        rw [ho] at hu
        cases hu
        intro w' hS
        rw [k2 pre.length (by omega), hgl, cong vs' pre.length (fun q hq => by rw [k2 q (by omega), hgf q hq])]
        exact h3 ht w' hS
      · exact k3 j u (by omega) hu ht
    unfold OblH at h
    cases hc : t.contains pre.length with
    | true =>
      rw [hc, if_pos rfl] at h
      exact step undef (by rw [hc, if_pos rfl]; exact h) (fun h => by rw [hc] at h; cases h)
    | false =>
      rw [hc, if_neg (by decide)] at h
      obtain ⟨v, h1, h2⟩ := h
      exact step v (by rw [hc, if_neg (by decide)]; exact h2) (fun _ => h1)

/-- the list of those that act is bound to one order, and no other depends on one of them -/
def chained (ops : List Oper) : List Nat → Bool
  | [] => true
  | [m] => decide (m + 1 = ops.length)
  | m :: m2 :: r => decide (m < m2) && (match ops[m2]? with | some o => dependsOn o m | none => false) && chained ops (m2 :: r)
def apart (ops : List Oper) (t : List Nat) : Bool := (List.range ops.length).all fun j => t.contains j || (match ops[j]? with | some o => t.all fun i => !dependsOn o i | none => true)

theorem chained_lt {ops : List Oper} : ∀ (t : List Nat), chained ops t = true → ∀ m ∈ t, m < ops.length
  | [], _, m, hm => absurd hm (by simp)
  | [m], h, q, hq => by
    have h1 : m + 1 = ops.length := by simpa [chained] using h
    have : q = m := by simpa using hq
    omega
  | m :: m2 :: r, h, q, hq => by
    have h1 : m < m2 ∧ (match ops[m2]? with | some o => dependsOn o m | none => false) = true ∧ chained ops (m2 :: r) = true := by simpa [chained, and_assoc] using h
    have ih := chained_lt (m2 :: r) h1.2.2
    rcases List.mem_cons.mp hq with e | e
    · have := ih m2 (by simp); omega
    · exact ih q e
theorem chained_head {ops : List Oper} : ∀ (m : Nat) (t : List Nat), chained ops (m :: t) = true → ∀ q ∈ t, m < q
  | m, [], _, q, hq => absurd hq (by simp)
  | m, m2 :: r, h, q, hq => by
    have h1 : m < m2 ∧ (match ops[m2]? with | some o => dependsOn o m | none => false) = true ∧ chained ops (m2 :: r) = true := by simpa [chained, and_assoc] using h
    rcases List.mem_cons.mp hq with e | e
    · omega
    · have := chained_head m2 r h1.2.2 q e; omega
theorem chained_tail {ops : List Oper} {m : Nat} {t : List Nat} (h : chained ops (m :: t) = true) : chained ops t = true := by
  cases t with
  | nil => rfl
  | cons m2 r => simp [chained] at h ⊢; exact h.2

/-- what holds at each point of each order: the list t1 is over, the list t2 is to come -/
structure Cp (P : Program) (S : World → Prop) (t : List Nat) (R : Act → World → Prop) (ops : List Oper) (vs0 : List Value) (a : Act) (l : Array Bool) (x : Act) (w : World) (t1 t2 : List Nat) (vs : List Value) (A : Act) : Prop where
  size : l.size = ops.length
  eq : t = t1 ++ t2
  val : vs.length = ops.length
  same : ∀ j, t.contains j = false → vs.getD j undef = vs0.getD j undef
  act : ActI ops vs a (fun j => l.getD j false = true) x
  vir : ActI ops vs a (fun j => t.contains j = false ∨ j ∈ t1) A
  clo : ∀ (j : Nat) (u : Oper), ops[j]? = some u → l.getD j false = true → ∀ i, dependsOn u i = true → l.getD i false = true
  over : ∀ j ∈ t1, l.getD j false = true
  come : ∀ j ∈ t2, l.getD j false = false
  open' : t2 ≠ [] → S w ∧ Chain P S ops R t2 A w
  done : t2 = [] → R x w

theorem getD_set_list (vs : List Value) (i j : Nat) (v : Value) (h : i < vs.length) : (vs.set i v).getD j undef = if j = i then v else vs.getD j undef := by
  rw [List.getD_eq_getElem?_getD, List.getD_eq_getElem?_getD]
  by_cases e : j = i
  · subst e; rw [if_pos rfl, List.getElem?_set_self h]; rfl
  · rw [if_neg e, List.getElem?_set_ne (fun h => e h.symm)]

theorem apart_spec {ops : List Oper} {t : List Nat} (h : apart ops t = true) {j : Nat} {o : Oper} (ho : ops[j]? = some o) (ht : t.contains j = false) {i : Nat} (hi : dependsOn o i = true) : t.contains i = false := by
  have h1 := List.all_eq_true.mp h j (List.mem_range.mpr (List.getElem?_eq_some_iff.mp ho).1)
  rw [ht, ho] at h1
  simp only [Bool.false_or] at h1
  cases hc : t.contains i with
  | false => rfl
  | true =>
    have h2 := List.all_eq_true.mp h1 i (by simpa using hc)
    rw [hi] at h2
    cases h2

theorem dep_lt {ops : List Oper} (ho : Orderly ops) {i j : Nat} {o : Oper} (hi : ops[i]? = some o) (hd : dependsOn o j = true) : j < i := by
  unfold dependsOn at hd
  rw [Array.any_eq_true'] at hd
  obtain ⟨e, he, h2⟩ := hd
  simp only [Bool.and_eq_true, beq_iff_eq] at h2
  have := ho.early i o hi e he h2.2
  omega
theorem chained_pred {ops : List Oper} {i : Nat} {o : Oper} (hi : ops[i]? = some o) : ∀ (m : Nat) (r : List Nat), chained ops (m :: r) = true → i ∈ r → ∃ q, q ∈ m :: r ∧ dependsOn o q = true
  | m, [], _, h => absurd h (by simp)
  | m, m2 :: r, hc, h => by
    have h1 : m < m2 ∧ (match ops[m2]? with | some o => dependsOn o m | none => false) = true ∧ chained ops (m2 :: r) = true := by simpa [chained, and_assoc] using hc
    rcases List.mem_cons.mp h with e | e
    · subst e
      have h2 := h1.2.1
      rw [hi] at h2
      exact ⟨m, by simp, h2⟩
    · obtain ⟨q, k1, k2⟩ := chained_pred hi m2 r h1.2.2 e
      exact ⟨q, List.mem_cons_of_mem _ k1, k2⟩
theorem chained_last {ops : List Oper} : ∀ (t : List Nat), t ≠ [] → chained ops t = true → ops.length - 1 ∈ t ∧ 0 < ops.length
  | [], h, _ => absurd rfl h
  | [m], _, h => by
    have h1 : m + 1 = ops.length := by simpa [chained] using h
    exact ⟨by simp; omega, by omega⟩
  | m :: m2 :: r, _, h => by
    have := chained_last (m2 :: r) (by simp) (chained_tail h)
    exact ⟨List.mem_cons_of_mem _ this.1, this.2⟩

theorem upon_same {P : Program} {o : Oper} {A x : Act} {K N : Act → World → Prop} {Q : Exit → Act → World → Prop} {ops : Array Oper} {res : Result Next} (h : o.upon P A (wpList P ops (onlyN K) []) (onlyN K) res)
    (hK : ∀ v w', K (A.put o.dst v) w' → N (x.put o.dst v) w') (hdef : ∀ d w', ¬ K ({ A with defers := d :: A.defers }.put o.dst undef) w') : o.upon P x N Q res := by
  cases res with
  | ok n w' =>
    cases n with
    | value v => exact hK v w' h
    | skip => exact hK undef w' h
    | defer d => exact absurd h (hdef d w')
    | enter f args =>
      refine Calls.mono (show Calls P f args w' _ from h) (fun e w'' he => ?_)
      cases e with
      | returned v => exact hK v w'' he
      | panicked c => exact absurd he id
      | outgrown => obtain ⟨a', w1, h1⟩ := he; exact h1.elim
    | row row args => exact Rows.mono (show Rows P row args w' _ from h) (fun v w'' he => hK v w'' he)
    | _ => exact absurd h id
  | halt y w' => cases y <;> exact absurd h id

theorem put_defers (A : Act) (d : Option Tmp) (v : Value) : (A.put d v).defers = A.defers := by cases d <;> rfl

/-- each operation but the last is wanted by another -/
def used (ops : List Oper) : Bool := (List.range (ops.length - 1)).all fun j => ops.any fun o => dependsOn o j
theorem used_all {ops : List Oper} {k : Nat} {ol : Oper} (ho : Orderly ops) (hu : used ops = true) (hk : ops.length = k + 1) (hol : ops[k]? = some ol) (L : Nat → Prop) (h1 : ∀ j, dependsOn ol j = true → L j)
    (h2 : ∀ (j : Nat) (u : Oper), ops[j]? = some u → L j → ∀ q, dependsOn u q = true → L q) : ∀ n j, j < k → k - j ≤ n → L j
  | 0, j, h, hn => by omega
  | n + 1, j, h, hn => by
    have h3 := List.all_eq_true.mp hu j (List.mem_range.mpr (by omega))
    obtain ⟨o, hom, hd⟩ := List.any_eq_true.mp h3
    obtain ⟨i, hi, rfl⟩ := List.getElem_of_mem hom
    have hio : ops[i]? = some ops[i] := List.getElem?_eq_getElem hi
    have := dep_lt ho hio hd
    by_cases e : i = k
    · subst e
      rw [hio] at hol
      cases hol
      exact h1 j hd
    · exact h2 i _ hio (used_all ho hu hk hol L h1 h2 n i (by omega) (by omega)) j hd

/-- A REGION OF OPEN ORDER: THE READERS, THEN THE LIST OF THOSE THAT ACT. -/
theorem wp_region_chain {P : Program} {Q : Exit → Act → World → Prop} {id : Nat} {ops : List Oper} {a : Act} {w : World} (S : World → Prop) (t : List Nat) (hm : P.follows .mixedOrders = true) (ho : orderly ops = true) (hc : used ops = true)
    (hch : chained ops t = true) (hne : t.isEmpty = false) (hap : apart ops t = true) (hS : S w.drew)
    (h : OblH P S t (fun A => Chain P S ops (fun a' w' => Q .normal a' w') t A w.drew) 0 ops a) : (Code.region id ops.toArray true).wp P Q a w := by
  have hne' : t ≠ [] := fun e => by rw [e] at hne; cases hne
  have hO := orderly_iff ho
  obtain ⟨hlt, h0⟩ := chained_last t hne' hch
  obtain ⟨k, hk⟩ : ∃ k, ops.length = k + 1 := ⟨ops.length - 1, by omega⟩
  rw [hk, Nat.add_sub_cancel] at hlt
  obtain ⟨ol, hol⟩ : ∃ o, ops[k]? = some o := ⟨ops[k], List.getElem?_eq_getElem (by omega)⟩
  have hcov := used_all hO hc hk hol
  obtain ⟨vs0, hvl, _, hvals, hF⟩ := OblH.all (P := P) (S := S) (t := t) a ops [] [] rfl h
  rw [List.nil_append] at hvl hvals hF
  have ht1 : ∀ m ∈ t, m < ops.length := chained_lt t hch
  have depl : ∀ {l : Array Bool} {j : Nat} {u : Oper}, ((ops.toArray[j]?).map (·.after.all fun e => !Region.binds .any e || l.getD e.on false)).getD false = true → ops[j]? = some u → ∀ q, dependsOn u q = true → l.getD q false = true := by
    intro l j u hd hu q hq
    have h1 : ops.toArray[j]? = some u := by simpa using hu
    rw [h1] at hd
    simp only [Option.map_some, Option.getD_some] at hd
    unfold dependsOn at hq
    rw [Array.any_eq_true'] at hq
    obtain ⟨e, he, h2⟩ := hq
    simp only [Bool.and_eq_true, beq_iff_eq] at h2
    have h3 := Array.all_eq_true'.mp hd e he
    rw [h2.2, h2.1] at h3
    simpa using h3
  refine wp_region_any hm (wpAny_inv (earlier_of hO) (fun l x w => ∃ t1 t2 vs A, chained ops t2 = true ∧ Cp P S t (fun a' w' => Q .normal a' w') ops vs0 a l x w t1 t2 vs A) ?hend ?hstep _ _ _ _ (by simp) ?hcnt ?hinit)
  case hend =>
    rintro l x w' ⟨t1, t2, vs, A, _, hp⟩ hall
    cases t2 with
    | nil => exact hp.done rfl
    | cons m r =>
      have h1 := hp.come m (by simp)
      rw [hall m (by have := ht1 m (by rw [hp.eq]; simp); simpa using this)] at h1
      cases h1
  case hcnt =>
    rw [Array.toList_replicate, List.countP_replicate]
    simp
  case hinit =>
    have no : ∀ j, (Array.replicate ops.toArray.size false).getD j false = false := fun j => by
      rw [Array.getD_eq_getD_getElem?, Array.getElem?_replicate]; split <;> rfl
    refine ⟨[], t, vs0, _, hch, ⟨by simp, rfl, by simpa using hvl, fun _ _ => rfl, ActI.start.iff (fun j _ => by rw [no]; simp), (prefH_of t vs0 a hO ops.length (Nat.le_refl _)).iff (fun j hj => by simp [hj]), ?_, fun j hj => absurd hj (by simp), fun j _ => no j, fun _ => ⟨hS, hF⟩, fun e => absurd e hne'⟩⟩
    intro j u _ hl
    rw [no] at hl; cases hl
  case hstep =>
    rintro l x w' hls ⟨t1, t2, vs, A, hct, hp⟩ i hi hf hd
    have hi' : i < ops.length := by simpa using hi
    obtain ⟨o, hio⟩ : ∃ o, ops[i]? = some o := ⟨ops[i], List.getElem?_eq_getElem hi'⟩
    have hdep := depl hd hio
    have hli : l.getD i false = false := by
      have h1 : i < l.size := by rw [hp.size]; exact hi'
      simp only [Array.getD, h1, dif_pos] at hf ⊢
      exact hf
    have hne2 : t2 ≠ [] := by
      intro e
      have h1 : k ∈ t1 := by have := hlt; rw [hp.eq, e, List.append_nil] at this; exact this
      have h2 := hp.over k h1
      by_cases e2 : i = k
      · rw [← e2, hli] at h2; cases h2
      · have h3 := hcov (fun j => l.getD j false = true) (hp.clo k ol hol h2) hp.clo _ i (by omega) (Nat.le_refl _)
        rw [hli] at h3; cases h3
    obtain ⟨hSw, hCh⟩ := hp.open' hne2
    have hnew : ∀ j, (l.setIfInBounds i true).getD j false = true ↔ l.getD j false = true ∨ j = i := fun j => by
      have hlt2 : i < l.size := by rw [hp.size]; exact hi'
      by_cases e : i = j
      · subst e; simp [Array.getD, hlt2]
      · rw [getD_set_ne _ e]; exact ⟨Or.inl, fun h => h.resolve_right (fun e' => e e'.symm)⟩
    have hclo : ∀ (j : Nat) (u : Oper), ops[j]? = some u → (l.setIfInBounds i true).getD j false = true → ∀ q, dependsOn u q = true → (l.setIfInBounds i true).getD q false = true := by
      intro j u hu hl q hq
      rcases (hnew j).mp hl with h3 | h3
      · exact (hnew q).mpr (Or.inl (hp.clo j u hu h3 q hq))
      · subst h3
        rw [hio] at hu
        cases hu
        exact (hnew q).mpr (Or.inl (hdep q hq))
    have ha : ops.toArray[i]? = some o := by simpa using hio
    unfold wpOp
    rw [ha]
    simp only [Region.wanted, hO.guard i o hio, if_true]
    left
    unfold Oper.wp
    cases hti : t.contains i with
    | false =>
      have hev : execOp x.eval o = execOp (prefH t ops vs0 a i).eval o := by
        refine ActI.same hO hio hp.act (prefH_of t vs0 a hO i (by omega)) (by rw [hli]; decide) (by omega) hdep (fun j hj => ⟨dep_lt hO hio hj, apart_spec hap hio hti hj⟩) (fun j hj => (hp.same j (apart_spec hap hio hti hj)).symm) hp.clo
          (fun j u hu hj q hq => ⟨by have := dep_lt hO hu hq; omega, apart_spec hap hu hj.2 hq⟩)
      rw [hev, hvals i o (by simp) hio hti w' hSw]
      show ∃ t1 t2 vs A, _ ∧ Cp _ _ _ _ _ _ _ _ (x.put o.dst _) w' t1 t2 vs A
      refine ⟨t1, t2, vs, A, hct, ⟨by rw [Array.size_setIfInBounds]; exact hp.size, hp.eq, hp.val, hp.same, ?_, hp.vir, hclo, fun j hj => (hnew j).mpr (Or.inl (hp.over j hj)), fun j hj => ?_, fun _ => ⟨hSw, hCh⟩, fun e => absurd e hne2⟩⟩
      · rw [← hp.same i hti]
        exact hp.act.put hO hio hnew
      · cases hb : (l.setIfInBounds i true).getD j false with
        | false => rfl
        | true =>
          rcases (hnew j).mp hb with h3 | h3
          · rw [hp.come j hj] at h3; cases h3
          · subst h3
            have : t.contains j = true := by rw [hp.eq]; simp [hj]
            rw [hti] at this; cases this
    | true =>
      have hit : i ∈ t := by simpa using hti
      have hi1 : ¬ i ∈ t1 := fun e => by have := hp.over i e; rw [hli] at this; cases this
      have hi2 : i ∈ t2 := by
        have := hit
        rw [hp.eq] at this
        rcases List.mem_append.mp this with h1 | h1
        · exact absurd h1 hi1
        · exact h1
      have inOne : ∀ j, l.getD j false = true → (t.contains j = false ∨ j ∈ t1) := by
        intro j hj
        cases hc : t.contains j with
        | false => exact Or.inl rfl
        | true =>
          right
          have h1 : j ∈ t := by simpa using hc
          rw [hp.eq] at h1
          rcases List.mem_append.mp h1 with h2 | h2
          · exact h2
          · rw [hp.come j h2] at hj; cases hj
      obtain ⟨m, r, hmr⟩ : ∃ m r, t2 = m :: r := by cases t2 with | nil => exact absurd rfl hne2 | cons m r => exact ⟨m, r, rfl⟩
      subst hmr
      have him : i = m := by
        rcases List.mem_cons.mp hi2 with h1 | h1
        · exact h1
        · obtain ⟨q, k1, k2⟩ := chained_pred hio m r hct h1
          have h2 := hdep q k2
          rw [hp.come q k1] at h2
          cases h2
      subst him
      have hir : ¬ i ∈ r := fun e => absurd (chained_head i r hct i e) (by omega)
      have hev : execOp x.eval o = execOp A.eval o := by
        refine ActI.same hO hio hp.act hp.vir (by rw [hli]; decide) (by rw [hti]; simp [hi1]) hdep (fun j hj => inOne j (hdep j hj)) (fun _ _ => rfl) hp.clo ?_
        intro j u hu hj q hq
        rcases hj with h1 | h1
        · exact Or.inl (apart_spec hap hu h1 hq)
        · exact inOne q (hp.clo j u hu (hp.over j h1) q hq)
      rw [hev]
      have hvi : i < vs.length := by rw [hp.val]; exact hi'
      have hx : ∀ v, ActI ops (vs.set i v) a (fun j => (l.setIfInBounds i true).getD j false = true) (x.put o.dst v) := fun v => by
        have h1 : ActI ops (vs.set i v) a (fun j => l.getD j false = true) x := hp.act.vals (fun j hj => by
          rw [getD_set_list _ _ _ _ hvi, if_neg (fun e => by rw [e, hli] at hj; cases hj)])
        have h2 := h1.put hO hio hnew
        rw [getD_set_list _ _ _ _ hvi, if_pos rfl] at h2
        exact h2
      have hA : ∀ v, ActI ops (vs.set i v) a (fun j => t.contains j = false ∨ j ∈ t1 ++ [i]) (A.put o.dst v) := fun v => by
        have h1 : ActI ops (vs.set i v) a (fun j => t.contains j = false ∨ j ∈ t1) A := hp.vir.vals (fun j hj => by
          rw [getD_set_list _ _ _ _ hvi, if_neg (fun e => by subst e; rcases hj with h1 | h1; (rw [hti] at h1; cases h1); exact hi1 h1)])
        have h2 := h1.put (l' := fun j => t.contains j = false ∨ j ∈ t1 ++ [i]) hO hio (fun j => by simp only [List.mem_append, List.mem_singleton, or_assoc])
        rw [getD_set_list _ _ _ _ hvi, if_pos rfl] at h2
        exact h2
      have base : ∀ v w'', (r ≠ [] → S w'' ∧ Chain P S ops (fun a' w' => Q .normal a' w') r (A.put o.dst v) w'') → (r = [] → Q .normal (x.put o.dst v) w'') → ∃ t1 t2 vs A, chained ops t2 = true ∧ Cp P S t (fun a' w' => Q .normal a' w') ops vs0 a (l.setIfInBounds i true) (x.put o.dst v) w'' t1 t2 vs A := by
        intro v w'' g1 g2
        refine ⟨t1 ++ [i], r, vs.set i v, A.put o.dst v, chained_tail hct, ⟨by rw [Array.size_setIfInBounds]; exact hp.size, by rw [hp.eq]; simp, by rw [List.length_set]; exact hp.val, fun j hj => ?_, hx v, hA v, hclo, fun j hj => ?_, fun j hj => ?_, g1, g2⟩⟩
        · rw [getD_set_list _ _ _ _ hvi, if_neg (fun e => by rw [e, hti] at hj; cases hj)]
          exact hp.same j hj
        · rcases List.mem_append.mp hj with h1 | h1
          · exact (hnew j).mpr (Or.inl (hp.over j h1))
          · exact (hnew j).mpr (Or.inr (by simpa using h1))
        · cases hb : (l.setIfInBounds i true).getD j false with
          | false => rfl
          | true =>
            rcases (hnew j).mp hb with h3 | h3
            · rw [hp.come j (List.mem_cons_of_mem _ hj)] at h3; cases h3
            · subst h3; exact absurd hj hir
      cases r with
      | nil =>
        have h1 := hCh o hio
        unfold wpList at h1
        simp only [Region.wanted, hO.guard i o hio, if_true] at h1
        rcases h1 with h1 | ⟨_, a', w1, h1⟩
        · refine upon_same h1 (fun v w'' h2 => base v w'' (fun e => absurd rfl e) (fun _ => ?_)) (fun d w'' h2 => ?_)
          · have e : x.put o.dst v = A.put o.dst v := by
              refine (hx v).ext ((hA v).iff (fun j hj => ?_))
              have hik : i = k := by have := hct; simp [chained] at this; omega
              refine iff_of_true ?_ ?_
              · by_cases e : j = i
                · exact (hnew j).mpr (Or.inr e)
                · refine (hnew j).mpr (Or.inl ?_)
                  have : o = ol := by rw [hik, hol] at hio; exact (Option.some.inj hio).symm
                  exact hcov (fun j => l.getD j false = true) (by rw [← this]; exact hdep) hp.clo _ j (by omega) (Nat.le_refl _)
              · cases hc : t.contains j with
                | false => exact Or.inl rfl
                | true =>
                  right
                  have h3 : j ∈ t := by simpa using hc
                  rw [hp.eq] at h3
                  exact h3
            rw [e]; exact h2.2
          · have := h2.1
            rw [put_defers] at this
            exact absurd this (by simp)
        · exact h1.elim
      | cons m2 r2 =>
        have h1 := hCh o hio
        unfold wpList at h1
        simp only [Region.wanted, hO.guard i o hio, if_true] at h1
        rcases h1 with h1 | ⟨_, a', w1, h1⟩
        · refine upon_same h1 (fun v w'' h2 => base v w'' (fun _ => h2.2) (fun e => absurd e (by simp))) (fun d w'' h2 => ?_)
          have := h2.1
          rw [put_defers] at this
          exact absurd this (by simp)
        · exact h1.elim
end
end Go.Proofs.Ythcjmmicjbfpgaa.Rs
