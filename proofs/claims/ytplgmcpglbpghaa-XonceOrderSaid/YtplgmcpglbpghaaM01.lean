/- Part 1 of the proof: WSeq, Base, Xpure. -/
import Derived.OrdersHeld
import Derived.Deep.Draws
import Derived.Test.YtplgmcpglbpghaaRows
import Derived.WalkKit
import Derived.WalkSpells
import Derived.WalkLawsBesides
import Derived.Deep.QuietTactic
import Derived.Deep.MidRow
import Derived.BigQuiet
import Derived.IntWalk
import Derived.Lib.MinMax
import Derived.Lib.Hide
import Derived.Deep.LoopGhost
set_option linter.all false
set_option linter.unusedVariables false
set_option linter.unusedSimpArgs false

namespace Go.Proofs.Ytplgmcpglbpghaa.WS
open Go
section
variable {P : Program} {ops : Array Oper} {Q : Exit → Act → World → Prop}

/-- No operation of the late ones has come up. -/
def early (late : List Nat) (L : Array Bool) : Bool := late.all fun e => !L.getD e false

/-- Whatever order is picked from here on; as long as no late operation has come up, S holds. -/
def wpG (P : Program) (ops : Array Oper) (Q : Exit → Act → World → Prop) (S : World → Prop) (late : List Nat) : Nat → Array Bool → Act → World → Prop
  | 0, L, a, w => Region.ready .any ops L = [] ∧ Q .normal a w
  | n + 1, L, a, w => (Region.ready .any ops L = [] → Q .normal a w) ∧
    ∀ i ∈ Region.ready .any ops L, wpOp P ops Q i (fun a' w' => (early late (L.setIfInBounds i true) = true → S w') ∧ wpG P ops Q S late n (L.setIfInBounds i true) a' w') a w

theorem wpAny_of_wpG {S : World → Prop} {late : List Nat} : ∀ (n : Nat) (L : Array Bool) (a : Act) (w : World), wpG P ops Q S late n L a w → wpAny P .any ops Q n L a w
  | 0, _, _, _, h => h
  | n + 1, _, _, _, h => ⟨h.1, fun i hi => wpOp_mono (fun a' w' h' => wpAny_of_wpG n _ a' w' h'.2) (h.2 i hi)⟩

theorem early_set {late : List Nat} {L : Array Bool} {i : Nat} (h : early late L = true) (hi : i ∉ late) : early late (L.setIfInBounds i true) = true := by
  simp only [early, List.all_eq_true] at h ⊢
  intro e he
  have hne : i ≠ e := fun hh => hi (by rw [hh]; exact he)
  rw [getD_set_ne false hne]
  exact h e he

theorem early_of_set {late : List Nat} {L : Array Bool} {i : Nat} (h : early late (L.setIfInBounds i true) = true) : early late L = true := by
  simp only [early, List.all_eq_true] at h ⊢
  intro e he
  have h1 := h e he
  cases hL : L.getD e false with
  | false => rfl
  | true => rw [getD_set_true hL] at h1; exact h1

/-- Does number e wait for number i, by whatever way? -/
def waits (ops : Array Oper) : Nat → Nat → Nat → Bool
  | 0, _, _ => false
  | k + 1, e, i => match ops[e]? with
    | some o => o.after.any fun g => Region.binds .any g && (g.on == i || (decide (i < g.on) && waits ops k g.on i))
    | none => false

/-- What has come up came behind all that it waits for. -/
def Closed (ops : Array Oper) (L : Array Bool) : Prop := ∀ j oj, ops[j]? = some oj → L.getD j false = true → ∀ e ∈ oj.after, Region.binds .any e = true → L.getD e.on false = true

theorem waits_listed {L : Array Bool} (hc : Closed ops L) : ∀ (k e i : Nat), waits ops k e i = true → (∀ oe, ops[e]? = some oe → ∀ g ∈ oe.after, Region.binds .any g = true → L.getD g.on false = true) → L.getD i false = true
  | 0, _, _, h, _ => by simp [waits] at h
  | k + 1, e, i, h, hp => by
    simp only [waits] at h
    split at h
    · rename_i o ho
      obtain ⟨g, hg, hb⟩ := Array.any_eq_true'.1 h
      simp only [Bool.and_eq_true, Bool.or_eq_true, beq_iff_eq] at hb
      have h1 := hp o ho g hg hb.1
      rcases hb.2 with hh | hh
      · rw [← hh]; exact h1
      · exact waits_listed hc k g.on i hh.2 (fun oe hoe g' hg' hb' => hc g.on oe hoe h1 g' hg' hb')
    · cases h

theorem Closed.set {L : Array Bool} (hc : Closed ops L) {i : Nat} (hi : i ∈ Region.ready .any ops L) : Closed ops (L.setIfInBounds i true) := fun j oj hj hl e he hb => by
  by_cases hij : i = j
  · subst hij
    obtain ⟨_, o, ho, hall⟩ := mem_ready.1 hi
    rw [hj] at ho; cases ho
    exact getD_set_true (hall e he hb)
  · rw [getD_set_ne false hij] at hl
    exact getD_set_true (hc j oj hj hl e he hb)

theorem wpG_first {S : World → Prop} {late : List Nat} {i : Nat} {oi : Oper} {v : Value} (hi : ops[i]? = some oi) (hns : Region.noSelect ops = true)
    (hQ : ∀ c a w, Q (.panic c) (a.put oi.dst v) w → Q (.panic c) a w)
    (hlate : ∀ e ∈ late, waits ops ops.size e i = true) (hil : i ∉ late) :
    ∀ (n : Nat) (L : Array Bool) (a : Act) (w : World), Closed ops L → early late L = true →
      (∀ j oj, ops[j]? = some oj → j ≠ i → L.getD j true = false → (∀ e ∈ oj.after, Region.binds .any e = true → e.on ≠ i) → oi.apart ops oj = true) →
      i ∈ Region.ready .any ops L → YieldsIf P ops S oi v a → S w →
      wpG P ops Q S late n (L.setIfInBounds i true) (a.put oi.dst v) w → wpG P ops Q S late (n + 1) L a w := by
  intro n
  have hsel := Region.noSelect_spec hns
  induction n with
  | zero =>
    intro L a w _ hE _ hr hy hS H
    refine ⟨fun h => (by rw [h] at hr; cases hr), fun j hj => ?_⟩
    by_cases hji : j = i
    · subst hji; exact hy.wpOp hi hS ⟨fun _ => hS, H⟩
    · have := ready_mono hj hji
      rw [H.1] at this
      cases this
  | succ n ih =>
    intro L a w hC hE hfree hr hy hS H
    refine ⟨fun h => (by rw [h] at hr; cases hr), fun j hj => ?_⟩
    by_cases hji : j = i
    · subst hji; exact hy.wpOp hi hS ⟨fun _ => hS, H⟩
    · have h1 := H.2 j (ready_mono hj hji)
      obtain ⟨hjun, oj, hoj, hall⟩ := mem_ready.1 hj
      have h0 := (mem_ready.1 hr).1
      have hiF : L.getD i false = false := by
        rcases Nat.lt_or_ge i L.size with h' | h'
        · simp [h'] at h0 ⊢; exact h0
        · simp [Array.getElem?_eq_none h'] at h0
      have hnot : ∀ e ∈ oj.after, Region.binds .any e = true → e.on ≠ i := fun e he hb heq => by
        have h1 := hall e he hb
        rw [heq, hiF] at h1
        cases h1
      have hjl : j ∉ late := fun hl => by
        have h5 := waits_listed hC _ j i (hlate j hl) (fun oe hoe g hg hb => by rw [hoj] at hoe; cases hoe; exact hall g hg hb)
        rw [hiF] at h5; cases h5
      have h2 := wpOp_putIf hoj (hfree j oj hoj hji hjun hnot) (fun cs b => hsel i oi cs b hi) (fun cs b => hsel j oj cs b hoj) hQ hy h1
      have hE1 : early late (L.setIfInBounds j true) = true := early_set hE hjl
      have hE2 : early late ((L.setIfInBounds i true).setIfInBounds j true) = true := early_set (early_set hE hil) hjl
      have hfree' : ∀ k ok, ops[k]? = some ok → k ≠ i → (L.setIfInBounds j true).getD k true = false →
          (∀ e ∈ ok.after, Region.binds .any e = true → e.on ≠ i) → oi.apart ops ok = true := fun k ok hk hki hun hno => by
        refine hfree k ok hk hki ?_ hno
        by_cases hjk : j = k
        · subst hjk; exact hjun
        · rw [getD_set_ne true hjk] at hun; exact hun
      refine wpOp_mono (fun a' w' h3 => ?_) h2
      have hS' := h3.2.1 hE2
      refine ⟨fun _ => hS', ih (L.setIfInBounds j true) a' w' (hC.set hj) hE1 hfree' (ready_mono hr (Ne.symm hji)) h3.1 hS' ?_⟩
      rw [Array.setIfInBounds_comm _ _ hji]
      exact h3.2.2

/-- The canonical walk: number and kind of each operation in turn (true: it only reads). -/
def wpS (P : Program) (ops : Array Oper) (Q : Exit → Act → World → Prop) (S : World → Prop) (late : List Nat) : List (Nat × Bool) → Act → World → Prop
  | [], a, w => Q .normal a w
  | (i, true) :: rest, a, w => ∃ o v, ops[i]? = some o ∧ YieldsIf P ops S o v a ∧ wpS P ops Q S late rest (a.put o.dst v) w
  | (i, false) :: rest, a, w => wpOp P ops Q i (fun a' w' => (i ∉ late → S w') ∧ wpS P ops Q S late rest a' w') a w

/-- The static look at a canonical order. -/
def chk (ops : Array Oper) (late : List Nat) : List (Nat × Bool) → Array Bool → Bool
  | [], L => (Region.ready .any ops L).isEmpty
  | (i, true) :: rest, L => early late L && !late.contains i && Region.free .any ops L i && (Region.ready .any ops L).contains i &&
      (late.all fun e => waits ops ops.size e i) && chk ops late rest (L.setIfInBounds i true)
  | (i, false) :: rest, L => (Region.ready .any ops L == [i]) && (early late L || late.contains i) && chk ops late rest (L.setIfInBounds i true)

theorem wpG_of_wpS {S : World → Prop} {late : List Nat} (hns : Region.noSelect ops = true) (hQ : ∀ c (d : Option Tmp) (v : Value) a w, Q (.panic c) (a.put d v) w → Q (.panic c) a w) :
    ∀ (l : List (Nat × Bool)) (L : Array Bool) (a : Act) (w : World), Closed ops L → chk ops late l L = true → (early late L = true → S w) → wpS P ops Q S late l a w → wpG P ops Q S late l.length L a w
  | [], L, a, w, _, hc, _, h => ⟨by simpa [chk] using hc, h⟩
  | (i, true) :: rest, L, a, w, hC, hc, hS, h => by
    simp only [chk, Bool.and_eq_true, Bool.not_eq_true', List.contains_eq_mem, decide_eq_true_eq, decide_eq_false_iff_not] at hc
    obtain ⟨⟨⟨⟨⟨hE, hil⟩, hf⟩, hr⟩, hl⟩, hrest⟩ := hc
    obtain ⟨o, v, ho, hy, hk⟩ := h
    refine wpG_first ho hns (fun c a w => hQ c o.dst v a w) (fun e he => List.all_eq_true.1 hl e he) hil rest.length L a w hC hE (Region.free_spec ho hf) hr hy (hS hE) (wpG_of_wpS hns hQ rest _ _ w (hC.set hr) hrest (fun _ => hS hE) hk)
  | (i, false) :: rest, L, a, w, hC, hc, hS, h => by
    simp only [chk, Bool.and_eq_true, beq_iff_eq, Bool.or_eq_true, List.contains_eq_mem, decide_eq_true_eq] at hc
    obtain ⟨⟨hr, hE⟩, hrest⟩ := hc
    refine ⟨fun h0 => (by rw [hr] at h0; cases h0), fun j hj => ?_⟩
    rw [hr, List.mem_singleton] at hj
    subst hj
    refine wpOp_mono (fun a' w' h' => ?_) h
    have hS' : early late (L.setIfInBounds j true) = true → S w' := fun he => by
      refine h'.1 (fun hl => ?_)
      have hjr : j ∈ Region.ready .any ops L := by rw [hr]; simp
      obtain ⟨hju, oj, hoj, _⟩ := mem_ready.1 hjr
      have h2 := List.all_eq_true.1 he j hl
      have hlt : j < L.size := by
        rcases Nat.lt_or_ge j L.size with h' | h'
        · exact h'
        · simp [Array.getElem?_eq_none h'] at hju
      simp [hlt] at h2
    exact ⟨hS', wpG_of_wpS hns hQ rest _ a' w' (hC.set (by rw [hr]; simp)) hrest hS' h'.2⟩

/-- The operations of an order, written out. -/
def pick (ops : Array Oper) : List (Nat × Bool) → List (Nat × Bool × Oper)
  | [] => []
  | (i, q) :: r => match ops[i]? with
    | some o => (i, q, o) :: pick ops r
    | none => pick ops r

/-- The canonical walk over operations that are written out. -/
def wpL (P : Program) (ops : Array Oper) (Q : Exit → Act → World → Prop) (S : World → Prop) (late : List Nat) : List (Nat × Bool × Oper) → Act → World → Prop
  | [], a, w => Q .normal a w
  | (_, true, o) :: rest, a, w => ∃ v, YieldsIf P ops S o v a ∧ wpL P ops Q S late rest (a.put o.dst v) w
  | (i, false, o) :: rest, a, w => if Region.wanted o (yielded ops a.tmps) then o.wp P a w (fun a' w' => (i ∉ late → S w') ∧ wpL P ops Q S late rest a' w') Q
      else (i ∉ late → S w) ∧ wpL P ops Q S late rest (a.put o.dst undef) w

theorem wpS_of_wpL {S : World → Prop} {late : List Nat} : ∀ (l : List (Nat × Bool)) (a : Act) (w : World), (l.all fun x => (ops[x.1]?).isSome) = true → wpL P ops Q S late (pick ops l) a w → wpS P ops Q S late l a w
  | [], _, _, _, h => h
  | (i, true) :: rest, a, w, hc, h => by
    simp only [List.all_cons, Bool.and_eq_true] at hc
    obtain ⟨o, ho⟩ := Option.isSome_iff_exists.1 hc.1
    simp only [pick, ho] at h
    obtain ⟨v, hy, hk⟩ := h
    exact ⟨o, v, ho, hy, wpS_of_wpL rest _ w hc.2 hk⟩
  | (i, false) :: rest, a, w, hc, h => by
    simp only [List.all_cons, Bool.and_eq_true] at hc
    obtain ⟨o, ho⟩ := Option.isSome_iff_exists.1 hc.1
    simp only [pick, ho, wpL] at h
    simp only [wpS, wpOp, ho]
    split
    · rename_i hw
      rw [if_pos hw] at h
      exact .inl (Oper.wp_mono (fun a' w' h' => ⟨h'.1, wpS_of_wpL rest _ _ hc.2 h'.2⟩) h)
    · rename_i hw
      rw [if_neg hw] at h
      exact ⟨h.1, wpS_of_wpL rest _ _ hc.2 h.2⟩

theorem getD_replicate (n j : Nat) : (Array.replicate n false).getD j false = false := by
  rw [Array.getD_eq_getD_getElem?, Array.getElem?_replicate]
  split <;> rfl

/-- A region that draws its order goes by the canonical walk. -/
theorem wp_region_seq {id : Nat} {a : Act} {w : World} (S : World → Prop) (late : List Nat) (l : List (Nat × Bool)) (hm : P.follows .mixedOrders = true)
    (hc : (Region.noSelect ops && (l.length == ops.size) && (l.all fun x => (ops[x.1]?).isSome) && chk ops late l (Array.replicate ops.size false)) = true)
    (hQ : ∀ c (d : Option Tmp) (v : Value) a w, Q (.panic c) (a.put d v) w → Q (.panic c) a w)
    (hS : S w.drew) (h : wpL P ops Q S late (pick ops l) a w.drew) : (Code.region id ops true).wp P Q a w := by
  simp only [Bool.and_eq_true, beq_iff_eq] at hc
  refine wp_region_any hm ?_
  have := wpG_of_wpS (P := P) hc.1.1.1 hQ l _ a w.drew (fun j oj _ hl => by rw [getD_replicate] at hl; cases hl) hc.2 (fun _ => hS) (wpS_of_wpL l a _ hc.1.2 h)
  rw [hc.1.1.2] at this
  exact wpAny_of_wpG _ _ _ _ this

theorem wpL_nil {S : World → Prop} {late : List Nat} {a : Act} {w : World} (h : Q .normal a w) : wpL P ops Q S late [] a w := h
/-- An operation that only reads. -/
theorem wpL_q {S : World → Prop} {late : List Nat} {a : Act} {w : World} {i : Nat} {o : Oper} {rest : List (Nat × Bool × Oper)} (v : Value)
    (hg : Region.wanted o (yielded ops a.tmps) = true) (hy : ∀ w, S w → (execOp a.eval o).run P w = .ok (.value v) w)
    (h : wpL P ops Q S late rest (a.put o.dst v) w) : wpL P ops Q S late ((i, true, o) :: rest) a w := ⟨v, .inl ⟨hg, hy⟩, h⟩
theorem wpL_skip {S : World → Prop} {late : List Nat} {a : Act} {w : World} {i : Nat} {o : Oper} {rest : List (Nat × Bool × Oper)}
    (hg : Region.wanted o (yielded ops a.tmps) = false) (h : wpL P ops Q S late rest (a.put o.dst undef) w) : wpL P ops Q S late ((i, true, o) :: rest) a w := ⟨undef, .inr ⟨hg, rfl⟩, h⟩
/-- One that does more. -/
theorem wpL_e {S : World → Prop} {late : List Nat} {a : Act} {w : World} {i : Nat} {o : Oper} {rest : List (Nat × Bool × Oper)}
    (hg : Region.wanted o (yielded ops a.tmps) = true)
    (h : ∀ K : Act → World → Prop, (∀ a w, (i ∉ late → S w) → wpL P ops Q S late rest a w → K a w) → o.wp P a w K Q) : wpL P ops Q S late ((i, false, o) :: rest) a w := by
  simp only [wpL, hg, if_true]
  exact h _ fun a w h1 h2 => ⟨h1, h2⟩
theorem wpL_eskip {S : World → Prop} {late : List Nat} {a : Act} {w : World} {i : Nat} {o : Oper} {rest : List (Nat × Bool × Oper)}
    (hg : Region.wanted o (yielded ops a.tmps) = false) (hS : i ∉ late → S w) (h : wpL P ops Q S late rest (a.put o.dst undef) w) : wpL P ops Q S late ((i, false, o) :: rest) a w := by
  simp only [wpL, hg]
  exact ⟨hS, h⟩
theorem panic_put {P : Program} {fn : Func} {R : Ending → World → Prop} (c : List PanicEntry) (d : Option Tmp) (v : Value) (a : Act) (w : World) : bodyPost P fn R (.panic c) (a.put d v) w → bodyPost P fn R (.panic c) a w := by
  cases d <;> exact id
end
end Go.Proofs.Ytplgmcpglbpghaa.WS

/- The words in which the contracts of this seat speak of memory. -/
namespace Go.Proofs.Ytplgmcpglbpghaa
open Go.RowKit

/-- The type of a block's elements. -/
def typ (w : World) (b : Nat) : Option TypeId := match w.heap[b]? with
  | some (.cells _ t _) => some t
  | _ => none

/-- From w to w' no block that was there has turned, but those of S. -/
structure Fr (S : Nat → Prop) (w w' : World) : Prop where
  os : w'.os = w.os
  tape : w'.tape = w.tape
  output : w'.output = w.output
  size : w.heap.size ≤ w'.heap.size
  block : ∀ k, k < w.heap.size → ¬ S k → w'.heap[k]? = w.heap[k]?
  ty : ∀ k t, typ w k = some t → typ w' k = some t

theorem typ_block {w w' : World} {k : Nat} (h : w'.heap[k]? = w.heap[k]?) : typ w' k = typ w k := by unfold typ; rw [h]
theorem typ_lt {w : World} {b : Nat} {t : TypeId} (h : typ w b = some t) : b < w.heap.size := by
  unfold typ at h
  rcases Nat.lt_or_ge b w.heap.size with h' | h'
  · exact h'
  · simp [h'] at h
theorem typ_setCell (w : World) (p : Addr) (v : Value) (k : Nat) : typ (w.setCell p v) k = typ w k := by
  by_cases e : k = p.block
  · subst e
    unfold typ
    simp only [World.setCell, Array.getElem?_modify, if_true]
    cases w.heap[p.block]? with
    | none => rfl
    | some o => cases o <;> rfl
  · exact typ_block (Below.heap_setCell _ _ _ _ e)

def No : Nat → Prop := fun _ => False
/-- The one block k. -/
def One (k : Nat) : Nat → Prop := fun b => b = k
/-- From k on. -/
def From (k : Nat) : Nat → Prop := fun b => k ≤ b

namespace Fr
theorem refl (S : Nat → Prop) (w : World) : Fr S w w := ⟨rfl, rfl, rfl, Nat.le_refl _, fun _ _ _ => rfl, fun _ _ h => h⟩
theorem mono {S S' : Nat → Prop} {w w' : World} (h : Fr S w w') (hs : ∀ b, b < w.heap.size → S b → S' b) : Fr S' w w' :=
  ⟨h.os, h.tape, h.output, h.size, fun k hk hn => h.block k hk (fun hS => hn (hs k hk hS)), h.ty⟩
theorem trans' {S S' : Nat → Prop} {a b c : World} (h : Fr S a b) (k : Fr S' b c) (hs : ∀ x, x < a.heap.size → S' x → S x) : Fr S a c :=
  ⟨k.os.trans h.os, k.tape.trans h.tape, k.output.trans h.output, Nat.le_trans h.size k.size,
   fun i hi hn => (k.block i (Nat.lt_of_lt_of_le hi h.size) (fun hS => hn (hs i hi hS))).trans (h.block i hi hn), fun i t ht => k.ty i t (h.ty i t ht)⟩
theorem trans {S : Nat → Prop} {a b c : World} (h : Fr S a b) (k : Fr S b c) : Fr S a c := h.trans' k (fun _ _ h => h)
/-- Behind a step that turns nothing of what was there. -/
theorem then0 {S : Nat → Prop} {a b c : World} (h : Fr S a b) (k : Fr No b c) : Fr S a c := h.trans' k (fun _ _ h => h.elim)
theorem drew {S : Nat → Prop} {a w : World} (h : Fr S a w) : Fr S a w.drew := ⟨h.os, h.tape, h.output, h.size, h.block, h.ty⟩
theorem drewN {S : Nat → Prop} {a w : World} (h : Fr S a w) (n : Nat) : Fr S a (w.drewN n) := ⟨h.os, h.tape, h.output, h.size, h.block, h.ty⟩
theorem ofDrew {S : Nat → Prop} {a w : World} (h : Fr S a.drew w) : Fr S a w := ⟨h.os, h.tape, h.output, h.size, h.block, h.ty⟩
theorem alloc0 (w : World) (o : Obj) : Fr No w (w.alloc o) := ⟨rfl, rfl, rfl, by simp, fun k hk _ => heap_alloc_old w o hk, fun k t ht => by rw [typ_block (heap_alloc_old w o (typ_lt ht))]; exact ht⟩
theorem alloc {S : Nat → Prop} {a w : World} (h : Fr S a w) (o : Obj) : Fr S a (w.alloc o) := h.then0 (alloc0 w o)
theorem setCell0 (w : World) (p : Addr) (v : Value) : Fr (One p.block) w (w.setCell p v) :=
  ⟨rfl, rfl, rfl, by simp [World.setCell], fun k _ hn => Below.heap_setCell _ _ _ _ hn, fun k t ht => by rw [typ_setCell]; exact ht⟩
/-- A store into a block of S, or into a new one. -/
theorem setCell {S : Nat → Prop} {a w : World} (h : Fr S a w) (p : Addr) (v : Value) (hp : a.heap.size ≤ p.block ∨ S p.block) : Fr S a (w.setCell p v) :=
  h.trans' (setCell0 w p v) (fun x hx e => hp.elim (fun hp => by rw [e] at hx; omega) (fun hp => by rw [e]; exact hp))
theorem toBelow {B : Nat} {S : Nat → Prop} {w w' : World} (h : Fr S w w') (hs : ∀ b, S b → B ≤ b) (hB : B ≤ w.heap.size) : Below B w w' :=
  ⟨h.os, h.tape, h.output, h.size, fun k hk => h.block k (by omega) (fun hS => by have := hs k hS; omega)⟩
theorem below {w w' : World} (h : Fr No w w') : Below w.heap.size w w' := h.toBelow (fun _ h => h.elim) (Nat.le_refl _)
theorem cell {S : Nat → Prop} {w w' : World} (h : Fr S w w') {b : Nat} (hb : b < w.heap.size) (hn : ¬ S b) (o : Nat) : w'.cell? ⟨b, o, none⟩ = w.cell? ⟨b, o, none⟩ :=
  World.cell?_of_block (w := w) (h.block b hb hn)
theorem froz {S : Nat → Prop} {w w' : World} (h : Fr S w w') {b : Nat} (hb : b < w.heap.size) (hn : ¬ S b) (o : Nat) : w'.frozen? ⟨b, o, none⟩ = w.frozen? ⟨b, o, none⟩ :=
  World.frozen?_of_block (w := w) (h.block b hb hn)
/-- As rules for the walk. -/
theorem rules {w w' : World} (h : Fr No w w') : (∀ b o, b < w.heap.size → w'.cell? ⟨b, o, none⟩ = w.cell? ⟨b, o, none⟩) ∧ (∀ b o, b < w.heap.size → w'.frozen? ⟨b, o, none⟩ = w.frozen? ⟨b, o, none⟩) :=
  ⟨fun _ o hb => h.cell hb (fun h => h) o, fun _ o hb => h.froz hb (fun h => h) o⟩
theorem rules1 {S : Nat → Prop} {w w' : World} (h : Fr S w w') {q : Nat} (hq : q < w.heap.size) (hn : ¬ S q) : (∀ o, w'.cell? ⟨q, o, none⟩ = w.cell? ⟨q, o, none⟩) ∧ (∀ o, w'.frozen? ⟨q, o, none⟩ = w.frozen? ⟨q, o, none⟩) := ⟨fun o => h.cell hq hn o, fun o => h.froz hq hn o⟩
theorem typ {S : Nat → Prop} {w w' : World} (h : Fr S w w') {b : Nat} (hb : b < w.heap.size) (hn : ¬ S b) : typ w' b = typ w b := by
  unfold Ytplgmcpglbpghaa.typ; rw [h.block b hb hn]
theorem range {S : Nat → Prop} {w w' : World} (h : Fr S w w') {b o : Nat} {cs : List Value} (hn : ¬ S b) (hr : w.rangeAt b o cs) : w'.rangeAt b o cs := fun j v hv => by
  have := hr j v hv
  rw [h.cell (World.block_lt_of_cell? w _ this) hn]; exact this
end Fr

theorem lt_of_typ {w : World} {b : Nat} {t : TypeId} (h : typ w b = some t) : b < w.heap.size := typ_lt h
theorem typ_of_heap {w : World} {b : Nat} {c : Array Value} {t : TypeId} {f : Nat × Nat} (h : w.heap[b]? = some (.cells c t f)) : typ w b = some t := by
  unfold typ; rw [h]

/-- What nobody writes any more behind the call that made it: all that was there at the beginning, and each row of these types. -/
def Imm (ts : List Nat) (B : Nat) (w : World) (b : Nat) : Prop := b < B ∨ ∃ t ∈ ts, typ w b = some t
/-- A set that may be written. -/
def FreeT (ts : List Nat) (B : Nat) (w : World) (S : Nat → Prop) : Prop := ∀ b, S b → ¬ Imm ts B w b
abbrev Free (B : Nat) (w : World) (S : Nat → Prop) : Prop := FreeT [5, 119, 121] B w S
theorem FreeT.no {ts : List Nat} {B : Nat} {w : World} : FreeT ts B w No := fun _ h => h.elim
theorem FreeT.sub {ts ts' : List Nat} {B : Nat} {w : World} {S : Nat → Prop} (h : FreeT ts B w S) (hs : ∀ t ∈ ts', t ∈ ts) : FreeT ts' B w S := fun b hb hi => h b hb (hi.imp id fun ⟨t, ht, e⟩ => ⟨t, hs t ht, e⟩)
theorem FreeT.one {ts : List Nat} {B : Nat} {w : World} {k t : Nat} (hB : B ≤ k) (ht : typ w k = some t) (hn : t ∉ ts) : FreeT ts B w (One k) := by
  rintro b rfl (h | ⟨u, hu, h⟩)
  · omega
  · rw [ht] at h; cases h; exact hn hu
theorem Imm.fr {ts : List Nat} {B b : Nat} {S : Nat → Prop} {w w' : World} (h : Imm ts B w b) (hB : b < w.heap.size) (hf : Fr S w w') (hS : FreeT ts B w S) : Imm ts B w' b := by
  rcases h with h | ⟨t, ht, h⟩
  · exact .inl h
  · exact .inr ⟨t, ht, by rw [hf.typ hB (fun hs => hS b hs (.inr ⟨t, ht, h⟩))]; exact h⟩
theorem Imm.of {ts : List Nat} {B b : Nat} {w : World} {t : Nat} (h : typ w b = some t) (ht : t ∈ ts) : Imm ts B w b := .inr ⟨t, ht, h⟩

theorem lt_of_range {w : World} {b o : Nat} {cs : List Value} (h : w.rangeAt b o cs) (hne : cs ≠ []) : b < w.heap.size := by
  cases cs with
  | nil => exact absurd rfl hne
  | cons x l => exact World.block_lt_of_cell? w _ (h 0 x rfl)

/-- v is a slice of n elements of sz cells each, which lie in memory that nobody writes any more. -/
def Sl (ts : List Nat) (B : Nat) (w : World) (v : Value) (n sz : Nat) (cs : List Value) : Prop :=
  cs.length = n * sz ∧ ∃ a c, v = .slice a n c ∧ n ≤ c ∧ c ≤ maxLen ∧ (cs ≠ [] → ∃ b o, a = some ⟨b, o, none⟩ ∧ Imm ts B w b ∧ w.rangeAt b o cs)

theorem Sl.fr {ts : List Nat} {B : Nat} {S : Nat → Prop} {w w' : World} {v : Value} {n sz : Nat} {cs : List Value} (h : Sl ts B w v n sz cs) (hf : Fr S w w') (hS : FreeT ts B w S) : Sl ts B w' v n sz cs := by
  obtain ⟨hl, a, c, hv, h1, h2, h3⟩ := h
  refine ⟨hl, a, c, hv, h1, h2, fun hne => ?_⟩
  obtain ⟨b, o, ha, hi, hr⟩ := h3 hne
  exact ⟨b, o, ha, hi.fr (lt_of_range hr hne) hf hS, hf.range (fun hs => hS b hs hi) hr⟩

theorem Sl.nil (ts : List Nat) (B : Nat) (w : World) (sz : Nat) : Sl ts B w (.slice none 0 0) 0 sz [] := ⟨by simp, none, 0, rfl, by simp, by simp [maxLen], fun h => absurd rfl h⟩

theorem range_of_owns {base : Nat} {w : World} {v : Value} {e : TypeId} {n sz : Nat} {xs : List Value} (h : w.ownsRow base e sz v n xs) :
    xs.length = n * sz ∧ ∃ a c, v = .slice a n c ∧ n ≤ c ∧ c ≤ maxLen ∧ (xs ≠ [] → ∃ b, a = some ⟨b, 0, none⟩ ∧ v.ownBlock = some b ∧ base ≤ b ∧ typ w b = some e ∧ w.rangeAt b 0 xs) := by
  obtain ⟨h1, h2⟩ := h
  refine ⟨h1, ?_⟩
  rcases h2 with ⟨rfl, h0⟩ | ⟨g, cap, cur, rfl, hb, hg, hnc, hcm, hcs, ht⟩
  · subst h0
    have : xs = [] := List.eq_nil_of_length_eq_zero (by simpa using h1)
    subst this
    exact ⟨none, 0, rfl, by simp, by simp [maxLen], fun h => absurd rfl h⟩
  · refine ⟨_, _, rfl, hnc, hcm, fun _ => ⟨g, rfl, rfl, hb, typ_of_heap hg, fun j u hu => ?_⟩⟩
    rw [Nat.zero_add, cell_of_row w g j cur _ _ hg]
    rw [← ht, List.getElem?_take] at hu
    split at hu
    · simpa using hu
    · cases hu

/-- A row of the call's own, of a type that nobody writes behind it, is such a slice. -/
theorem Sl.of_owns {ts : List Nat} {B base : Nat} {w : World} {v : Value} {e : TypeId} {n sz : Nat} {xs : List Value} (h : w.ownsRow base e sz v n xs) (he : e ∈ ts) : Sl ts B w v n sz xs := by
  obtain ⟨h1, a, c, hv, h2, h3, h4⟩ := range_of_owns h
  refine ⟨h1, a, c, hv, h2, h3, fun hne => ?_⟩
  obtain ⟨b, ha, _, _, ht, hr⟩ := h4 hne
  exact ⟨b, 0, ha, Imm.of ht he, hr⟩

theorem owns_fr {base : Nat} {S : Nat → Prop} {w w' : World} {v : Value} {e : TypeId} {n sz : Nat} {xs : List Value} (h : w.ownsRow base e sz v n xs) (hf : Fr S w w') (hS : ∀ k, v.ownBlock = some k → ¬ S k) : w'.ownsRow base e sz v n xs := by
  refine ⟨h.1, ?_⟩
  rcases h.2 with hn | ⟨g, cap, cur, rfl, hb, hg, rest⟩
  · exact .inl hn
  · refine .inr ⟨g, cap, cur, rfl, hb, ?_, rest⟩
    rw [hf.block g (Array.getElem?_eq_some_iff.1 hg).1 (hS g rfl)]
    exact hg

def u8s (l : List Int) : List Value := l.map (.int .u8 ·)
theorem u8s_length (l : List Int) : (u8s l).length = l.length := by simp [u8s]
theorem u8s_mem (l : List Int) (u : Value) (h : u ∈ u8s l) : u.oneCell' = true := by
  simp only [u8s, List.mem_map] at h
  obtain ⟨x, _, rfl⟩ := h
  rfl

/-- v is a list of bytes that nobody writes any more. -/
def Bytes (B : Nat) (w : World) (v : Value) (l : List Int) : Prop := l.length ≤ 140737488355328 ∧ Sl [5] B w v l.length 1 (u8s l)

theorem Bytes.fr {B : Nat} {S : Nat → Prop} {w w' : World} {v : Value} {l : List Int} (h : Bytes B w v l) (hf : Fr S w w') (hS : FreeT [5] B w S) : Bytes B w' v l := ⟨h.1, h.2.fr hf hS⟩
theorem Bytes.nil (B : Nat) (w : World) : Bytes B w (.slice none 0 0) [] := ⟨by simp, Sl.nil _ B w 1⟩

theorem Bytes.form {B : Nat} {w : World} {v : Value} {l : List Int} (h : Bytes B w v l) : ∃ a c, v = .slice a l.length c := let ⟨_, _, a, c, hv, _⟩ := h; ⟨a, c, hv⟩

/-- Element j. -/
def at' (l : List Int) (j : Nat) : Int := l.getD j 0

theorem Bytes.open {B : Nat} {w : World} {v : Value} {l : List Int} (h : Bytes B w v l) : l.length ≤ 140737488355328 ∧
    ((∃ a c, v = .slice a 0 c ∧ l = [] ∧ c ≤ maxLen) ∨ ∃ b o c, v = .slice (some ⟨b, o, none⟩) l.length c ∧ l.length ≤ c ∧ c ≤ maxLen ∧ 0 < l.length ∧ b < w.heap.size ∧ w.rangeAt b o (u8s l) ∧ (∀ j, j < l.length → w.cell? ⟨b, o + j, none⟩ = some (.int .u8 (at' l j)))) := by
  obtain ⟨hl, _, a, c, rfl, h1, h2, h3⟩ := h
  refine ⟨hl, ?_⟩
  cases l with
  | nil => exact .inl ⟨a, c, rfl, rfl, h2⟩
  | cons x l =>
    obtain ⟨b, o, rfl, _, hr⟩ := h3 (by simp [u8s])
    refine .inr ⟨b, o, c, rfl, h1, h2, by simp, World.block_lt_of_cell? w _ (hr 0 (.int .u8 x) rfl), hr, fun j hj => ?_⟩
    refine hr j _ ?_
    simp only [u8s, at', List.getElem?_map, List.getD_eq_getElem?_getD]
    rw [List.getElem?_eq_getElem hj]; rfl

/-- Two lists go side by side. -/
def All2 {α β : Type} (R : α → β → Prop) : List α → List β → Prop
  | [], [] => True
  | a :: xs, b :: ys => R a b ∧ All2 R xs ys
  | _, _ => False

namespace All2
variable {α β : Type} {R R' : α → β → Prop}
theorem mono (h : ∀ a b, R a b → R' a b) : ∀ {xs : List α} {ys : List β}, All2 R xs ys → All2 R' xs ys
  | [], [], _ => trivial
  | _ :: _, _ :: _, hh => ⟨h _ _ hh.1, mono h hh.2⟩
  | [], _ :: _, hh => hh.elim
  | _ :: _, [], hh => hh.elim
theorem length : ∀ {xs : List α} {ys : List β}, All2 R xs ys → xs.length = ys.length
  | [], [], _ => rfl
  | _ :: _, _ :: _, hh => by simp [length hh.2]
  | [], _ :: _, hh => hh.elim
  | _ :: _, [], hh => hh.elim
theorem append : ∀ {xs xs1 : List α} {ys ys1 : List β}, All2 R xs ys → All2 R xs1 ys1 → All2 R (xs ++ xs1) (ys ++ ys1)
  | [], _, [], _, _, h => h
  | _ :: _, _, _ :: _, _, hh, h => ⟨hh.1, append hh.2 h⟩
  | [], _, _ :: _, _, hh, _ => hh.elim
  | _ :: _, _, [], _, hh, _ => hh.elim
theorem all {P : α → Prop} (h : ∀ a b, R a b → P a) : ∀ {xs : List α} {ys : List β}, All2 R xs ys → ∀ a ∈ xs, P a
  | [], [], _, a, ha => by cases ha
  | x :: xs, y :: ys, hh, a, ha => by
    rcases List.mem_cons.1 ha with rfl | ha
    · exact h _ _ hh.1
    · exact all h hh.2 a ha
  | [], _ :: _, hh, _, _ => hh.elim
  | _ :: _, [], hh, _, _ => hh.elim
theorem one {a : α} {b : β} (h : R a b) : All2 R [a] [b] := ⟨h, trivial⟩
theorem drop : ∀ (n : Nat) {xs : List α} {ys : List β}, All2 R xs ys → All2 R (xs.drop n) (ys.drop n)
  | 0, _, _, h => by simpa using h
  | n + 1, [], [], _ => trivial
  | n + 1, _ :: _, _ :: _, hh => by simpa using drop n hh.2
  | _ + 1, [], _ :: _, hh => hh.elim
  | _ + 1, _ :: _, [], hh => hh.elim
theorem take : ∀ (n : Nat) {xs : List α} {ys : List β}, All2 R xs ys → All2 R (xs.take n) (ys.take n)
  | 0, _, _, _ => by simp [All2]
  | n + 1, [], [], _ => trivial
  | n + 1, _ :: _, _ :: _, hh => by simpa using ⟨hh.1, take n hh.2⟩
  | _ + 1, [], _ :: _, hh => hh.elim
  | _ + 1, _ :: _, [], hh => hh.elim
theorem get : ∀ {xs : List α} {ys : List β}, All2 R xs ys → ∀ {j : Nat} {b : β}, ys[j]? = some b → ∃ a, xs[j]? = some a ∧ R a b
  | [], [], _, _, _, hb => by simp at hb
  | a :: _, _ :: _, hh, 0, _, hb => by simp at hb; subst hb; exact ⟨a, rfl, hh.1⟩
  | _ :: _, _ :: _, hh, j + 1, _, hb => by simpa using get hh.2 (by simpa using hb)
  | [], _ :: _, hh, _, _, _ => hh.elim
  | _ :: _, [], hh, _, _, _ => hh.elim
end All2

theorem u64_in {x : Int} (h0 : 0 ≤ x) (h1 : x ≤ 18446744073709551615) : IntKind.u64.wrap x = x := IntWalk.u64_in x ⟨h0, h1⟩
theorem infoU8 : (Try.prog.info? 5).map (fun i => (i.zero, i.size, i.bytes)) = some (some (.int .u8 0), 1, 1) := by kernel_rfl

end Go.Proofs.Ytplgmcpglbpghaa

/- The ends of package xonce as plain data: what each call computes. No Go and no memory here. -/
namespace Go.Proofs.Ytplgmcpglbpghaa

structure OutD where
  to : Int
  kind : Int
  seq : Nat
  mask : Nat
  payload : List Int

structure UpD where
  src : Int
  seq : Nat
  body : List Int

structure PeerD where
  to : Int
  room : Nat
  window : Nat
  reach : Nat
  sent : Nat
  acked : Nat
  mask : Nat
  deliv : Nat
  queue : List (List Int)
  early : List (Nat × List Int)

def u64max : Nat := 18446744073709551615
theorem u64max_eq : u64max = 18446744073709551615 := rfl

/-- Does a mask that counts from seq name a number above sent? -/
def beyondB (sent seq mask : Nat) : Bool := decide (mask ≠ 0) && decide (sent - seq < Nat.log2 mask + 2)

namespace PeerD
/-- The Data of the payload at a place of the queue. -/
def data (p : PeerD) (i : Nat) : OutD := { to := p.to, kind := 10, seq := p.acked + 1 + i, mask := 0, payload := p.queue.getD i [] }

/-- Send's work. -/
def push (p : PeerD) (l : List Int) : PeerD × List OutD × Int :=
  if p.room ≤ p.queue.length then (p, [], 82)
  else if p.sent = u64max then (p, [], 83)
  else ({ p with sent := p.sent + 1, queue := p.queue ++ [l] }, if p.queue.length < p.window then [{ p with queue := p.queue ++ [l] }.data p.queue.length] else [], 0)

/-- Does a mask that counts from seq name a number that was never sent? -/
def beyond (p : PeerD) (seq mask : Nat) : Bool := beyondB p.sent seq mask

def datas (p : PeerD) (lo hi : Nat) : List OutD := (List.range' lo (hi - lo)).map p.data

theorem datas_self (p : PeerD) (lo : Nat) : p.datas lo lo = [] := by simp [datas]
theorem datas_succ (p : PeerD) (lo k : Nat) (h : lo ≤ k) : p.datas lo (k + 1) = p.datas lo k ++ [p.data k] := by
  unfold datas
  rw [show k + 1 - lo = (k - lo) + 1 by omega, List.range'_concat, List.map_append]
  simp
  congr 1; omega
theorem datas_length (p : PeerD) (lo hi : Nat) : (p.datas lo hi).length = hi - lo := by simp [datas]

/-- An Ack comes. -/
def heard (p : PeerD) (seq mask : Nat) : PeerD × List OutD × Bool × Int :=
  if p.sent < seq ∨ p.beyond seq mask = true then (p, [], false, 85)
  else if seq < p.acked then (p, [], false, 0)
  else if seq = p.acked then ({ p with mask := p.mask ||| mask }, [], p.mask ||| mask != p.mask, 0)
  else
    let p' := { p with queue := p.queue.drop (seq - p.acked), acked := seq, mask := mask }
    (p', p'.datas (min p.queue.length p.window - (seq - p.acked)) (min p'.queue.length p.window), true, 0)

/-- Is the payload at a place to be sent again? -/
def due (p : PeerD) (i : Nat) : Bool := i == 0 || !p.mask.testBit (i - 1)
def againTo (p : PeerD) (n : Nat) : List OutD := ((List.range n).filter p.due).map p.data
/-- What a tick sends. -/
def again (p : PeerD) : List OutD := p.againTo (min p.queue.length p.window)
theorem againTo_succ (p : PeerD) (n : Nat) : p.againTo (n + 1) = p.againTo n ++ if p.due n then [p.data n] else [] := by
  unfold againTo
  rw [List.range_succ, List.filter_append, List.map_append]
  congr 1
  simp only [List.filter_cons, List.filter_nil]
  split <;> rfl
theorem againTo_len (p : PeerD) (n : Nat) : (p.againTo n).length ≤ n := by
  unfold againTo
  rw [List.length_map]
  exact Nat.le_trans (List.length_filter_le _ _) (by simp)

/-- How many payloads more may be taken. -/
def left (p : PeerD) : Nat := min (p.room - p.queue.length) (u64max - p.sent)

def ackMask (d : Nat) (l : List (Nat × List Int)) : Nat := l.foldl (fun m f => m ||| 2 ^ (f.1 - d - 2)) 0
/-- The Ack of all that has come. -/
def ack (p : PeerD) : OutD := { to := p.to, kind := 11, seq := p.deliv, mask := ackMask p.deliv p.early, payload := [] }

def insertAt (l : List (Nat × List Int)) (s : Nat) (b : List Int) : List (Nat × List Int) := (l.takeWhile fun f => f.1 < s) ++ (s, b) :: (l.dropWhile fun f => f.1 < s)

/-- What stands next goes up. -/
def drain (d : Nat) : List (Nat × List Int) → List (Nat × List Int) × Nat × List (Nat × List Int)
  | [] => ([], d, [])
  | f :: l => if f.1 = d + 1 then let r := drain (d + 1) l; (f :: r.1, r.2.1, r.2.2) else ([], d, f :: l)

/-- A Data comes. -/
def come (p : PeerD) (seq : Nat) (l : List Int) : PeerD × List UpD × List OutD × Bool × Int :=
  if l.length < 1 ∨ 3072 < l.length then (p, [], [], false, 81)
  else if p.deliv < seq ∧ p.reach < seq - p.deliv then (p, [], [], false, 84)
  else if seq ≤ p.deliv ∨ (p.early.any fun f => f.1 == seq) = true then (p, [], [p.ack], false, 0)
  else
    let r := drain p.deliv (insertAt p.early seq l)
    let p' := { p with deliv := r.2.1, early := r.2.2 }
    (p', r.1.map fun f => { src := p.to, seq := f.1, body := f.2 }, [p'.ack], true, 0)

/-- A state that may be. -/
structure Ok (p : PeerD) : Prop where
  to0 : 0 ≤ p.to
  to1 : p.to < 256
  room1 : 1 ≤ p.room
  room16 : p.room ≤ 16
  win1 : 1 ≤ p.window
  win : p.window ≤ p.room
  reach : p.reach = p.window
  sent : p.sent ≤ u64max
  acked : p.acked ≤ p.sent
  qlen : p.queue.length = p.sent - p.acked
  qroom : p.queue.length ≤ p.room
  qs : ∀ l ∈ p.queue, 1 ≤ l.length ∧ l.length ≤ 3072
  mask64 : p.mask ≤ u64max
  mask : p.mask = 0 ∨ Nat.log2 p.mask + 2 ≤ p.sent - p.acked
  deliv : p.deliv ≤ u64max
  sorted : p.early.Pairwise fun f g => f.1 < g.1
  early : ∀ f ∈ p.early, p.deliv + 2 ≤ f.1 ∧ f.1 ≤ p.deliv + p.reach ∧ f.1 ≤ u64max ∧ 1 ≤ f.2.length ∧ f.2.length ≤ 3072
end PeerD

end Go.Proofs.Ytplgmcpglbpghaa
