/- Part 18 of the proof: Yw2, Yw3, Yw4. -/
import Derived.Test.YtplgmcpglbpghaaM17
set_option linter.all false
set_option linter.unusedVariables false
set_option linter.unusedSimpArgs false

/- The world's other parts, set. -/
namespace Go.Proofs.Ytplgmcpglbpghaa
open Go.RowKit

def partT (F : Nat → Prop) (own : Nat → Tag) (t : Tag) : Nat → Prop := fun b => F b ∧ own b = t

theorem WD.endD_upd (d : WD) (a b : Nat) (p : PeerD) : ({ d with ps := upd d.ps a b p } : WD).endD a = (d.endD a).set b p := by
  simp only [WD.endD, EndD.set, EndD.mk.injEq, true_and]
  funext x
  by_cases hx : x = b
  · subst hx; simp [upd]
  · simp [upd, hx]
theorem WD.endD_upd_ne (d : WD) (a b : Nat) (p : PeerD) {x : Nat} (hx : x ≠ a) : ({ d with ps := upd d.ps a b p } : WD).endD x = d.endD x := by
  simp only [WD.endD, EndD.mk.injEq, true_and]
  funext y
  simp [upd, hx]

/-- One end's peer has turned. -/
theorem WorldX.setEnd {B : Nat} {w w' : World} {q : Nat} {d : WD} {F : Nat → Prop} {own : Nat → Tag} {v : WV} (h : WorldX B w q d F own v) (hR : Reg B w F) (hBw : B ≤ w.heap.size) {a b : Nat} {p : PeerD}
    (he : EndAt B w' (v.ea a) ((d.endD a).set b p) (grow (partT F own (.en a)) w w')) (hf : Fr (partT F own (.en a)) w w') :
    WorldX B w' q { d with ps := upd d.ps a b p } (grow F w w') (fun k => if k < w.heap.size then own k else .en a) v ∧ Reg B w' (grow F w w') ∧ Fr F w w' ∧ Grew F (grow F w w') w := by
  have hfF : Fr F w w' := hf.mono (fun _ _ h => h.1)
  have hfree : Free B w (partT F own (.en a)) := fun k hk => hR.free k hk.1
  have hp := h.frame (T' := fun t => t = .en a) (F' := grow F w w') (own' := fun k => if k < w.heap.size then own k else .en a) hf hfree
    (fun k _ hs => hs.2) (fun k hk => ⟨.inl hk, by rw [if_pos (hR.lt k hk)]⟩)
  refine ⟨⟨fun _ => hp.hq (by rintro (h | h) <;> cases h), fun _ => hp.ends (by rintro (h | h) <;> cases h), fun _ => hp.bag (by rintro (h | h) <;> cases h), fun _ => hp.took (by rintro (h | h) <;> cases h), fun x hx _ => hp.tr x hx (by rintro (h | h) <;> cases h), fun x y hx hy _ => hp.tk x y hx hy (by rintro (h | h) <;> cases h), fun _ => hp.up (by rintro (h | h) <;> cases h), fun x hx _ => hp.ur x hx (by rintro (h | h) <;> cases h), fun x hx _ => ?_⟩, hR.grow hfF hBw, hfF, ?_⟩
  · by_cases hxa : x = a
    · subst hxa
      rw [WD.endD_upd]
      refine he.mono fun k hk => ?_
      rcases hk with hk | ⟨h1, h2, h3⟩
      · exact ⟨.inl hk.1, by rw [if_pos (hR.lt k hk.1)]; exact hk.2⟩
      · exact ⟨.inr ⟨h1, h2, h3⟩, by rw [if_neg (by omega)]⟩
    · rw [WD.endD_upd_ne _ _ _ _ hxa]
      exact hp.en x hx (by rintro (h | h) <;> cases h; exact hxa rfl)
  · rintro k (hk | ⟨h1, _⟩)
    · exact .inl hk
    · exact .inr h1

theorem vals_set {n : Nat} {f : Nat → Nat → Value} {a b : Nat} {u : Value} : (vals n (f a)).set b u = vals n (upd f a b u a) := by
  apply List.ext_getElem
  · simp [vals]
  · intro i h1 h2
    simp only [vals, List.getElem_set, List.getElem_map, List.getElem_range]
    by_cases hi : b = i
    · subst hi; simp [upd]
    · have : ¬ i = b := fun e => hi e.symm
      simp [upd, hi, this]
theorem nums_set {n : Nat} {f : Nat → Nat → Nat} {a b m : Nat} : (nums n (f a)).set b (.int .i64 m) = nums n (upd f a b m a) := by
  apply List.ext_getElem
  · simp [nums]
  · intro i h1 h2
    simp only [nums, List.getElem_set, List.getElem_map, List.getElem_range]
    by_cases hi : b = i
    · subst hi; simp [upd]
    · have : ¬ i = b := fun e => hi e.symm
      simp [upd, hi, this]
theorem upd_row {α : Type} (f : Nat → Nat → α) (a b : Nat) (u : α) {x : Nat} (hx : x ≠ a) : upd f a b u x = f x := by
  funext y; simp [upd, hx]

/-- What was taken of a pair is another list. -/
theorem WorldX.setTook {B : Nat} {w w' : World} {q : Nat} {d : WD} {F : Nat → Prop} {own : Nat → Tag} {v : WV} (h : WorldX B w q d F own v) (hR : Reg B w F) {a b : Nat} (ha : a < d.hosts) (hbh : b < d.hosts) {S : Nat → Prop} {w1 : World} (hf : Fr S w w1) (hS : ∀ k, S k → F k ∧ own k = .tk a b) {l : List (List Int)} {u : Value}
    (hb : QOwn B B w1 u l) (hnew : ∀ k, u.ownBlock = some k → (F k ∧ own k = .tk a b) ∨ w.heap.size ≤ k) (hw' : w' = w1.setCell ⟨v.tb a, b, none⟩ u) :
    WPost B w q F { d with took := upd d.took a b l } w' := by
  obtain ⟨hq1, hq2, hq3, hq4⟩ := h.tr a ha (fun h => h)
  have hqlt := (Array.getElem?_eq_some_iff.1 hq4).1
  have hqS : ¬ S (v.tb a) := fun e => by have := (hS _ e).2; rw [hq3] at this; cases this
  have hh1 : w1.heap[v.tb a]? = some (.cells (vals d.hosts (v.tv a)).toArray 85 (0, 0)) := by rw [hf.block _ hqlt hqS]; exact hq4
  have hf2 : Fr (One (v.tb a)) w1 w' := by rw [hw']; exact Fr.setCell0 w1 ⟨v.tb a, b, none⟩ u
  have hfS : Fr (fun k => S k ∨ k = v.tb a) w w' := (hf.mono (fun _ _ h => .inl h)).trans' hf2 (fun _ _ e => .inr e)
  have hfF : Fr F w w' := hfS.mono (fun k _ hk => hk.elim (fun h => (hS k h).1) (fun e => by rw [e]; exact hq1))
  have hfree : Free B w (fun k => S k ∨ k = v.tb a) := fun k hk => hR.free k (hk.elim (fun h => (hS k h).1) (fun e => by rw [e]; exact hq1))
  have hone : FreeT [5] B w1 (One (v.tb a)) := FreeT.one hq2 (typ_of_heap hh1) (by decide)
  have hb' : QOwn B B w' u l := hb.fr hf2 hone (fun k hk e => by have := (hb.block hk).1; rw [show k = v.tb a from e, typ_of_heap hh1] at this; exact absurd this (by decide))
  have hFlt : ∀ k, F k → k < w.heap.size := hR.lt
  have hp := h.frame (T' := fun t => t = .tk a b ∨ t = .tr a) (F' := fun k => F k ∨ u.ownBlock = some k) (own' := fun k => if k < w.heap.size then own k else .tk a b) hfS hfree
    (fun k hk hs => hs.elim (fun h => .inl (hS k h).2) (fun e => .inr (by rw [e]; exact hq3))) (fun k hk => ⟨.inl hk, by rw [if_pos (hFlt k hk)]⟩)
  refine ⟨fun k => F k ∨ u.ownBlock = some k, ⟨fun k => if k < w.heap.size then own k else .tk a b, { v with tv := upd v.tv a b u }, ?_⟩, ?_, hfF, ?_⟩
  · refine ⟨fun _ => hp.hq (by rintro (h | h | h) <;> cases h), fun _ => hp.ends (by rintro (h | h | h) <;> cases h), fun _ => hp.bag (by rintro (h | h | h) <;> cases h), fun _ => hp.took (by rintro (h | h | h) <;> cases h), fun x hx _ => ?_, fun x y hx hy _ => ?_, fun _ => hp.up (by rintro (h | h | h) <;> cases h), fun x hx _ => hp.ur x hx (by rintro (h | h | h) <;> cases h), fun x hx _ => hp.en x hx (by rintro (h | h | h) <;> cases h)⟩
    · by_cases hxa : x = a
      · subst hxa
        refine ⟨.inl hq1, hq2, by rw [if_pos hqlt]; exact hq3, ?_⟩
        show w'.heap[v.tb x]? = some (.cells (vals d.hosts (upd v.tv x b u x)).toArray 85 (0, 0))
        rw [hw', heap_set hh1, ← vals_set]
        simp
      · have := hp.tr x hx (by rintro (h | h | h) <;> cases h; exact hxa rfl)
        show _ ∧ _ ∧ _ ∧ w'.heap[v.tb x]? = some (.cells (vals d.hosts (upd v.tv a b u x)).toArray 85 (0, 0))
        rw [upd_row _ _ _ _ hxa]
        exact this
    · by_cases hxy : x = a ∧ y = b
      · obtain ⟨rfl, rfl⟩ := hxy
        show QOwn B B w' (upd v.tv x y u x y) (upd d.took x y l x y) ∧ ∀ k, (upd v.tv x y u x y).ownBlock = some k → _
        rw [upd_same, upd_same]
        refine ⟨hb', fun k hk => ⟨.inr hk, ?_⟩⟩
        rcases hnew k hk with h | h
        · rw [if_pos (hFlt k h.1)]; exact h.2
        · rw [if_neg (by omega)]
      · have := hp.tk x y hx hy (by rintro (h | h | h) <;> cases h; exact hxy ⟨rfl, rfl⟩)
        show QOwn B B w' (upd v.tv a b u x y) (upd d.took a b l x y) ∧ ∀ k, (upd v.tv a b u x y).ownBlock = some k → _
        rw [upd_ne _ _ _ _ hxy, upd_ne _ _ _ _ hxy]
        exact this
  · rintro k (hk | hk)
    · exact hR.fr hfF k hk
    · exact ⟨(hb'.block hk).2, _, (hb'.block hk).1, by decide⟩
  · rintro k (hk | hk)
    · exact .inl hk
    · rcases hnew k hk with h | h
      · exact .inl h.1
      · exact .inr h

/-- How many came up of a pair. -/
theorem WorldX.setUp {B : Nat} {w w' : World} {q : Nat} {d : WD} {F : Nat → Prop} {own : Nat → Tag} {v : WV} (h : WorldX B w q d F own v) (hR : Reg B w F) {a b m : Nat} (ha : a < d.hosts) (hbh : b < d.hosts) (hw' : w' = w.setCell ⟨v.ub a, b, none⟩ (.int .i64 m)) :
    WorldX B w' q { d with up := upd d.up a b m } F own v ∧ Reg B w' F ∧ Fr F w w' := by
  obtain ⟨hq1, hq2, hq3, hq4⟩ := h.ur a ha (fun h => h)
  have hf2 : Fr (One (v.ub a)) w w' := by rw [hw']; exact Fr.setCell0 w ⟨v.ub a, b, none⟩ _
  have hfF : Fr F w w' := hf2.mono (fun k _ hk => by rw [show k = v.ub a from hk]; exact hq1)
  have hp := h.frame (T' := fun t => t = .ur a) (F' := F) (own' := own) hf2 (fun k hk => hR.free k (by rw [show k = v.ub a from hk]; exact hq1))
    (fun k hk hs => by rw [show k = v.ub a from hs]; exact hq3) (fun k hk => ⟨hk, rfl⟩)
  refine ⟨⟨fun _ => hp.hq (by rintro (h | h) <;> cases h), fun _ => hp.ends (by rintro (h | h) <;> cases h), fun _ => hp.bag (by rintro (h | h) <;> cases h), fun _ => hp.took (by rintro (h | h) <;> cases h), fun x hx _ => hp.tr x hx (by rintro (h | h) <;> cases h), fun x y hx hy _ => hp.tk x y hx hy (by rintro (h | h) <;> cases h), fun _ => hp.up (by rintro (h | h) <;> cases h), fun x hx _ => ?_, fun x hx _ => hp.en x hx (by rintro (h | h) <;> cases h)⟩, hR.fr hfF, hfF⟩
  by_cases hxa : x = a
  · subst hxa
    refine ⟨hq1, hq2, hq3, ?_⟩
    show w'.heap[v.ub x]? = some (.cells (nums d.hosts (upd d.up x b m x)).toArray 3 (0, 0))
    rw [hw', heap_set hq4, ← nums_set]
    simp
  · have := hp.ur x hx (by rintro (h | h) <;> cases h; exact hxa rfl)
    show _ ∧ _ ∧ _ ∧ w'.heap[v.ub x]? = some (.cells (nums d.hosts (upd d.up a b m x)).toArray 3 (0, 0))
    rw [upd_row _ _ _ _ hxa]
    exact this

/-- A cell of a row of the call's own is written. -/
theorem owns_set {base : Nat} {w : World} {g : Nat} {n c : Nat} {e : TypeId} {xs : List Value} (h : w.ownsRow base e 1 (.slice (some ⟨g, 0, none⟩) n c) n xs) {k : Nat} (hk : k < n) (u : Value) : (w.setCell ⟨g, k, none⟩ u).ownsRow base e 1 (.slice (some ⟨g, 0, none⟩) n c) n (xs.set k u) := by
  refine ⟨by rw [List.length_set]; exact h.1, ?_⟩
  rcases h.2 with ⟨h0, _⟩ | ⟨g', cap, cur, he, hb, hg, hnc, hcm, hcs, ht⟩
  · cases h0
  · cases he
    refine .inr ⟨g, c, cur.setIfInBounds k u, rfl, hb, heap_set hg, hnc, hcm, by simpa using hcs, ?_⟩
    rw [Array.toList_setIfInBounds, List.take_set, ht]

theorem ptrs_set {n : Nat} {f : Nat → Nat} {a m : Nat} : (ptrs n f).set a (.pointer (some ⟨m, 0, none⟩)) = ptrs n (fun x => if x = a then m else f x) := by
  apply List.ext_getElem
  · simp [ptrs]
  · intro i h1 h2
    simp only [ptrs, List.getElem_set, List.getElem_map, List.getElem_range]
    by_cases hi : a = i
    · subst hi; simp
    · have : ¬ i = a := fun e => hi e.symm
      simp [hi, this]

/-- An end is another one, that was made since. -/
theorem WorldX.newEnd {B : Nat} {w w' : World} {q : Nat} {d : WD} {F : Nat → Prop} {own : Nat → Tag} {v : WV} (h : WorldX B w q d F own v) (hR : Reg B w F) {base : Nat} (hbase : ∀ k, F k → k < base) {a na : Nat} (ha : a < d.hosts) {G : Nat → Prop} (hn : EndAt B w na (d.endD a) G) (hG : Reg B w G) (hGb : ∀ k, G k → base ≤ k) {g c : Nat} (hve : v.ve = .slice (some ⟨g, 0, none⟩) d.hosts c) (hw' : w' = w.setCell ⟨g, a, none⟩ (.pointer (some ⟨na, 0, none⟩))) :
    ∃ F', WorldAt B w' q d F' ∧ Reg B w' F' ∧ Fr F w w' ∧ (∀ b, F' b → F b ∨ base ≤ b) := by
  obtain ⟨hq1, hq2⟩ := h.ends (fun h => h)
  have hg := hq2 g (by rw [hve]; rfl)
  have htg := (owns_typ hq1 (k := g) (by rw [hve]; rfl))
  have hf2 : Fr (One g) w w' := by rw [hw']; exact Fr.setCell0 w ⟨g, a, none⟩ _
  have hfF : Fr F w w' := hf2.mono (fun k _ hk => by rw [show k = g from hk]; exact hg.1)
  have hfree : Free B w (One g) := fun k hk => hR.free k (by rw [show k = g from hk]; exact hg.1)
  have hp := h.frame (T' := fun t => t = .re ∨ t = .en a) (F' := fun k => F k ∨ G k) (own' := fun k => if k < base then own k else .en a) hf2 hfree
    (fun k hk hs => by rw [show k = g from hs]; exact .inl hg.2) (fun k hk => ⟨.inl hk, by rw [if_pos (hbase k hk)]⟩)
  have hEnd : EndAt B w' na (d.endD a) G := hn.fr hf2 hfree (fun k hk e => by have := hGb k hk; have := hbase g hg.1; rw [show k = g from e] at *; omega)
  refine ⟨fun k => F k ∨ G k, ⟨fun k => if k < base then own k else .en a, { v with ea := fun x => if x = a then na else v.ea x }, ?_⟩, ?_, hfF, fun b hb => hb.elim .inl (fun h => .inr (hGb b h))⟩
  · refine ⟨fun _ => hp.hq (by rintro (h | h | h) <;> cases h), fun _ => ⟨?_, fun k hk => ?_⟩, fun _ => hp.bag (by rintro (h | h | h) <;> cases h), fun _ => hp.took (by rintro (h | h | h) <;> cases h), fun x hx _ => hp.tr x hx (by rintro (h | h | h) <;> cases h), fun x y hx hy _ => hp.tk x y hx hy (by rintro (h | h | h) <;> cases h), fun _ => hp.up (by rintro (h | h | h) <;> cases h), fun x hx _ => hp.ur x hx (by rintro (h | h | h) <;> cases h), fun x hx _ => ?_⟩
    · show w'.ownsRow B 53 1 v.ve d.hosts (ptrs d.hosts (fun x => if x = a then na else v.ea x))
      rw [← ptrs_set, hw', hve]
      rw [hve] at hq1
      exact owns_set hq1 ha _
    · have hk' := hq2 k hk
      exact ⟨.inl hk'.1, by rw [if_pos (hbase k hk'.1)]; exact hk'.2⟩
    · show EndAt B w' (if x = a then na else v.ea x) (d.endD x) _
      by_cases hxa : x = a
      · subst hxa
        rw [if_pos rfl]
        refine hEnd.mono fun k hk => ⟨.inr hk, ?_⟩
        rw [if_neg (by have := hGb k hk; omega)]
      · rw [if_neg hxa]
        exact hp.en x hx (by rintro (h | h | h) <;> cases h; exact hxa rfl)
  · rintro k (hk | hk)
    · exact hR.fr hfF k hk
    · exact hG.fr hf2 k hk
end Go.Proofs.Ytplgmcpglbpghaa

/- post, out. -/
namespace Go.Proofs.Ytplgmcpglbpghaa
open Go.RowKit

/-- The same; and where the new row lies. -/
theorem wp_snoc2 {α : Type} {enc : α → Value → List Value} {pay : α → List Int} {t T sz by' B base : Nat} (hel : El t T sz by') (henc : ∀ x v, (enc x v).length = sz) (hT : T ≠ 5) {w : World} {o : Oper} {a : Act} {K : Act → World → Prop} {Q : Exit → Act → World → Prop} (s y : Operand)
    (ho : o.op = .call { callee := .builtin .append, args := #[s, y], argTypes := #[t, t] }) {v : Value} {l : List α} (hs : a.eval s = v) (hown : OwnL enc pay T sz B base w v l)
    {ao : Option Addr} {c : Nat} {x : α} {pv : Value} (hy : a.eval y = .slice ao 1 c) (hr : ∃ b o, ao = some ⟨b, o, none⟩ ∧ w.rangeAt b o (enc x pv)) (h1 : ∀ u ∈ enc x pv, u.oneCell' = true) (hpv : Bytes B w pv (pay x))
    (hB : B ≤ base) (hnm : l.length + 1 ≤ maxLen) (hby : (l.length + 1) * by' ≤ 140737488355328) (hbase : base ≤ w.heap.size)
    (h : ∀ ao' c' w', OwnL enc pay T sz B base w' (.slice ao' (l.length + 1) c') (l ++ [x]) → Fr (fun k => v.ownBlock = some k) w w' → ((Value.slice ao' (l.length + 1) c').ownBlock = v.ownBlock ∨ (Value.slice ao' (l.length + 1) c').ownBlock = some w.heap.size) → K (a.put o.dst (.slice ao' (l.length + 1) c')) w') : o.wp Try.prog a w K Q := by
  obtain ⟨pvs, hp, hrow⟩ := hown
  refine wp_app hel s y ho hs hrow (m := 1) hy (by rw [henc, Nat.one_mul]) (fun _ => hr) h1 hnm hby hbase fun ao' c' w' h2 h3 hat => h ao' c' w' ⟨pvs ++ [pv], ?_, ?_⟩ h3 hat
  · have hfree : FreeT [5] B w (fun k => v.ownBlock = some k) := FreeT.of fun b hb => ⟨Nat.le_trans hB (owns_typ hrow hb).2, _, (owns_typ hrow hb).1, by simpa using hT⟩
    rw [List.map_append]
    exact All2.append (hp.mono fun _ _ h => h.fr h3 hfree) (All2.one (hpv.fr h3 hfree))
  · rw [cellsOf_append _ _ _ _ _ (by rw [hp.length, List.length_map])]
    simpa [cellsOf] using h2

theorem wpList_snoc2 {α : Type} {enc : α → Value → List Value} {pay : α → List Int} {t T sz by' B base : Nat} (hel : El t T sz by') (henc : ∀ x v, (enc x v).length = sz) (hT : T ≠ 5) {w : World} {ops : Array Oper} {rest : List Oper} {o : Oper} {a : Act} {Q : Exit → Act → World → Prop} (hgd : o.guard = none) (s y : Operand)
    (ho : o.op = .call { callee := .builtin .append, args := #[s, y], argTypes := #[t, t] }) {v : Value} {l : List α} (hs : a.eval s = v) (hown : OwnL enc pay T sz B base w v l)
    {ao : Option Addr} {c : Nat} {x : α} {pv : Value} (hy : a.eval y = .slice ao 1 c) (hr : ∃ b o, ao = some ⟨b, o, none⟩ ∧ w.rangeAt b o (enc x pv)) (h1 : ∀ u ∈ enc x pv, u.oneCell' = true) (hpv : Bytes B w pv (pay x))
    (hB : B ≤ base) (hnm : l.length + 1 ≤ maxLen) (hby : (l.length + 1) * by' ≤ 140737488355328) (hbase : base ≤ w.heap.size)
    (h : ∀ ao' c' w', OwnL enc pay T sz B base w' (.slice ao' (l.length + 1) c') (l ++ [x]) → Fr (fun k => v.ownBlock = some k) w w' → ((Value.slice ao' (l.length + 1) c').ownBlock = v.ownBlock ∨ (Value.slice ao' (l.length + 1) c').ownBlock = some w.heap.size) → wpList Try.prog ops Q rest (a.put o.dst (.slice ao' (l.length + 1) c')) w') : wpList Try.prog ops Q (o :: rest) a w :=
  wpList_plain hgd fun _ hK => wp_snoc2 hel henc hT s y ho hs hown hy hr h1 hpv hB hnm hby hbase fun ao' c' w' h2 h3 h4 => hK _ _ (h ao' c' w' h2 h3 h4)

theorem Outs.at {B : Nat} {w : World} {a : Option Addr} {c : Nat} {l : List OutD} (h : Outs B w (.slice a l.length c) l) {k : Nat} {o : OutD} (hl : l[k]? = some o) :
    ∃ b off pa pc, a = some ⟨b, off, none⟩ ∧ b < w.heap.size ∧ Imm [119] B w b ∧ w.rangeAt b (off + k * 18) (outCells o (.slice pa o.payload.length pc)) ∧ Bytes B w (.slice pa o.payload.length pc) o.payload := by
  obtain ⟨pvs, hps, hcl, a', c', he, _, _, hne⟩ := h
  cases he
  obtain ⟨p, hp, hb⟩ := hps.get (show (l.map (·.payload))[k]? = some o.payload by simp [hl])
  have hk := (List.getElem?_eq_some_iff.1 hl).1
  obtain ⟨b, off, rfl, hi, hr⟩ := hne (fun h => by rw [h] at hcl; simp at hcl; omega)
  obtain ⟨pa, pc, rfl⟩ := hb.form
  have hcell : w.rangeAt b (off + k * 18) (outCells o (.slice pa o.payload.length pc)) := fun j v hj => by
    have hj6 : j < 18 := by have := (List.getElem?_eq_some_iff.1 hj).1; rw [outCells_length] at this; exact this
    have := hr (k * 18 + j) v (by rw [cellsOf_get outCells_length l pvs k o _ hl hp j hj6]; exact hj)
    rwa [← Nat.add_assoc] at this
  exact ⟨b, off, pa, pc, rfl, World.block_lt_of_cell? w _ (hcell 0 _ rfl), hi, hcell, hb⟩

theorem WD.setBag_self (d : WD) (l : List MailD) (h : l = d.bag) : ({ d with bag := l } : WD) = d := by subst h; rfl

set_option maxRecDepth 100000 in
set_option maxHeartbeats 2000000 in
theorem f_post (B : Nat) (w : World) (q : Nat) (d : WD) (F : Nat → Prop) (src : Nat) (v : Value) (l : List OutD) (h : WorldAt B w q d F) (hR : Reg B w F) (hB : B ≤ w.heap.size) (hv : Outs B w v l) (hto : ∀ o ∈ l, 0 ≤ o.to ∧ o.to < 256) (hlen : d.bag.length + l.length ≤ 1000000) (hsrc : src < 256) :
    Calls Try.prog 24 #[.pointer (some ⟨q, 0, none⟩), .int .i64 src, v] w fun e w' => e = .returned (.tuple #[]) ∧ WPost B w q F { d with bag := d.bag ++ mailsOf src l } w' := by
  obtain ⟨va, vc, rfl⟩ := hv.form
  have Hv := Lib.hid hv
  clear hv
  go_enter Try.func24, Try.ntmps24
  go_wp2
  go_loopw [6] (fun i wr => ∃ k F', k ≤ l.length ∧ i = .int .i64 (k : Nat) ∧ WorldAt B wr q { d with bag := d.bag ++ mailsOf src (l.take k) } F' ∧ Reg B wr F' ∧ Fr F w wr ∧ Grew F F' w) (fun i _ => 1000000 - (intOf i).toNat)
  case atStart => exact ⟨0, F, Nat.zero_le _, rfl, by rw [WD.setBag_self _ _ (by simp [mailsOf])]; exact h, hR, Fr.refl _ _, Grew.refl _ _⟩
  case round =>
    obtain ⟨k, F', hk, rfl, hW, hR', hfw, hg⟩ := hrel
    by_cases hlt : k < l.length
    · have hk1 : (k : Int) < (l.length : Int) := by omega
      obtain ⟨own, wv, hX⟩ := hW
      obtain ⟨hqlt, ⟨_, _, _, hc3, _, _, _⟩, hz⟩ := hX.cells
      obtain ⟨hbag, hbF⟩ := hX.bag (fun h => h)
      obtain ⟨o, ho⟩ : ∃ o, l[k]? = some o := ⟨_, List.getElem?_eq_getElem hlt⟩
      have hov := hto o (List.mem_of_getElem? ho)
      have hBw : B ≤ wr.heap.size := Nat.le_trans hB hfw.size
      obtain ⟨b, off, pa, pc, rfl, hmlt0, himm, hrange, hpB⟩ := (Hv.out.fr hfw hR.free).at ho
      obtain ⟨na, nc, hvb0⟩ := hbag.form
      have hlenk : (d.bag ++ mailsOf src (l.take k)).length = d.bag.length + k := by simp [mailsOf]; omega
      obtain ⟨N, hN⟩ : ∃ N, N = (d.bag ++ mailsOf src (l.take k)).length := ⟨_, rfl⟩
      have hvb : wv.vb = .slice na N nc := by rw [hN]; exact hvb0
      have HN := Lib.hid hN
      generalize hSd : (fun b' => wv.vb.ownBlock = some b') = S
      have hSF : ∀ k', S k' → F' k' ∧ own k' = .bag := by rw [← hSd]; exact hbF
      have hSty : ∀ k', S k' → typ wr k' = some 47 ∧ B ≤ k' := by rw [← hSd]; exact fun k' hk' => hbag.block hk'
      have hqS : ¬ S q := fun e => by have := (hSF _ e).2; rw [(hX.hq (fun h => h)).2.2.1] at this; cases this
      have hmS : ¬ S b := fun e => by
        obtain ⟨t1, t2⟩ := hSty _ e
        rcases himm with hi | ⟨t, ht, hi⟩
        · omega
        · rw [t1] at hi; simp at ht; subst ht; simp at hi
      have hmlt := hmlt0
      have h0 := hrange 0 (.int .u8 o.to) rfl
      rw [Nat.add_zero] at h0
      have hld : ∀ w', Fr S wr w' → (Instr.loadAt 45 (.pointer (some ⟨b, off + k * 18 + 1, none⟩))).run Try.prog w' = .ok (.agg (msgCells o.kind o.seq o.mask (.slice pa o.payload.length pc)).toArray) w' := fun w' hw' =>
        run_loadAt_mid w' b (off + k * 18 + 1) 45 _ _ (hw'.range hmS (fun j v hj => by have := hrange (j + 1) v hj; rwa [show off + k * 18 + (j + 1) = off + k * 18 + 1 + j by omega] at this)) Try.underlying45 rfl (by kernel_rfl)
      simp only [msgCells] at hld
      have Hld := Lib.hid hld
      have e1 : IntKind.i64.wrap o.to = o.to := IntWalk.i64_in _ (by omega)
      rw [hvb] at hc3
      have HX := Lib.hid hX
      have Hvb := Lib.hid hvb
      have Hlenk := Lib.hid hlenk
      have Hsucc := Lib.hid (show l.take (k + 1) = l.take k ++ [o] by rw [List.take_add_one, ho]; rfl)
      clear hld hX hvb hvb0 hN hlenk ho hrange
      go_wp2_with fail
      refine WS.wp_region_seq (Fr S wr) [22] [(0, true), (1, true), (2, true), (3, true), (4, true), (5, true), (6, true), (7, true), (8, true), (9, true), (10, true), (11, true), (12, true), (13, true), (14, true), (15, true), (16, true), (17, true), (18, false), (19, false), (20, true), (21, true), (22, false)] (by kernel_rfl) (by kernel_rfl) (fun c d v a w h => by cases d <;> exact h) ((Fr.refl _ _).drew) ?_
      simp only [WS.pick, List.getElem?_toArray, List.getElem?_cons_succ, List.getElem?_cons_zero]
      repeat (first | (refine WS.wpL_skip rfl ?_; try simp only [Act.put, List.setIfInBounds_toArray, List.set_cons_zero, List.set_cons_succ]) | (refine WS.wpL_q ?_ rfl ?_ ?_; rotate_left 1; (focus (intro w' hw'; have hrc' := Fr.rules1 hw' hqlt hqS; have hrm' := Fr.rules1 hw' hmlt hmS; clear hw'; go_simp; (try with_reducible rfl); done)); try simp only [Act.put, List.setIfInBounds_toArray, List.set_cons_zero, List.set_cons_succ]))
      refine wpL_ld 45 (.tmp 28) rfl rfl rfl Hld.out ?_
      try simp only [Act.put, List.setIfInBounds_toArray, List.set_cons_zero, List.set_cons_succ]
      repeat (first | (refine WS.wpL_skip rfl ?_; try simp only [Act.put, List.setIfInBounds_toArray, List.set_cons_zero, List.set_cons_succ]) | (refine WS.wpL_q ?_ rfl ?_ ?_; rotate_left 1; (focus (intro w' hw'; have hrc' := Fr.rules1 hw' hqlt hqS; have hrm' := Fr.rules1 hw' hmlt hmS; clear hw'; go_simp; (try with_reducible rfl); done)); try simp only [Act.put, List.setIfInBounds_toArray, List.set_cons_zero, List.set_cons_succ]))
      refine WS.wpL_e rfl (fun K hK => ?_)
      go_simp
      have hf1 : Fr No wr (wr.drew.alloc (.cells (mailCells ⟨src, o⟩ (.slice pa o.payload.length pc)).toArray 47)) := ((Fr.refl No wr).drew).alloc _
      refine hK _ _ (fun _ => hf1.mono (fun _ _ h => h.elim)) ?_
      clear hK K
      try simp only [Act.put, List.setIfInBounds_toArray, List.set_cons_zero, List.set_cons_succ]
      repeat (first | (refine WS.wpL_skip rfl ?_; try simp only [Act.put, List.setIfInBounds_toArray, List.set_cons_zero, List.set_cons_succ]) | (refine WS.wpL_q ?_ rfl ?_ ?_; rotate_left 1; (focus (intro w' hw'; have hrc' := Fr.rules1 hw' hqlt hqS; have hrm' := Fr.rules1 hw' hmlt hmS; clear hw'; go_simp; (try with_reducible rfl); done)); try simp only [Act.put, List.setIfInBounds_toArray, List.set_cons_zero, List.set_cons_succ]))
      refine WS.wpL_e rfl (fun K hK => ?_)
      have hbag1 : BagOwn B B (wr.drew.alloc (.cells (mailCells ⟨src, o⟩ (.slice pa o.payload.length pc)).toArray 47)) (.slice na N nc) (d.bag ++ mailsOf src (l.take k)) := by
        have := hbag.fr0 hf1
        rw [Hvb.out] at this
        exact this
      refine wp_snoc2 (enc := mailCells) (pay := fun x : MailD => x.out.payload) (B := B) (base := B) (l := d.bag ++ mailsOf src (l.take k)) (x := (⟨src, o⟩ : MailD)) (pv := .slice pa o.payload.length pc) elMails mailCells_len (by decide) (.tmp 17) (.tmp 31) rfl rfl hbag1 rfl ⟨wr.heap.size, 0, rfl, range_new (w := wr.drew) (cs := mailCells ⟨src, o⟩ (.slice pa o.payload.length pc))⟩ (by simp [mailCells, msgCells, Value.oneCell']) (hpB.fr hf1 FreeT.no) (Nat.le_refl _) (by rw [Hlenk.out]; simp only [maxLen]; omega) (by rw [Hlenk.out]; omega) (Nat.le_trans hBw hf1.size) ?_
      intro ao' c' w8 hown8 hf8 hat8
      obtain ⟨M, hM⟩ : ∃ M, M = (d.bag ++ mailsOf src (l.take k)).length + 1 := ⟨_, rfl⟩
      rw [← hM] at hown8 hat8 ⊢
      clear hM
      have hf8' : Fr S wr w8 := (hf1.mono (fun _ _ h => h.elim)).trans (by rw [← hSd, Hvb.out]; exact hf8)
      refine hK _ _ (fun _ => hf8') ?_
      clear hK K
      try simp only [Act.put, List.setIfInBounds_toArray, List.set_cons_zero, List.set_cons_succ]
      have hrc8 := hf8'.rules1 hqlt hqS
      repeat (first | (refine WS.wpL_skip rfl ?_; try simp only [Act.put, List.setIfInBounds_toArray, List.set_cons_zero, List.set_cons_succ]) | (refine WS.wpL_q ?_ rfl ?_ ?_; rotate_left 1; (focus (intro w' hw'; have hrc' := Fr.rules1 hw' hqlt hqS; have hrm' := Fr.rules1 hw' hmlt hmS; clear hw'; go_simp; (try with_reducible rfl); done)); try simp only [Act.put, List.setIfInBounds_toArray, List.set_cons_zero, List.set_cons_succ]))
      refine WS.wpL_e rfl (fun K hK => ?_)
      go_simp
      refine hK _ _ (fun h => absurd (by decide) h) ?_
      clear hK K
      try simp only [Act.put, List.setIfInBounds_toArray, List.set_cons_zero, List.set_cons_succ]
      refine WS.wpL_nil ?_
      obtain ⟨F2, hW2, hR2, hf2, hg2⟩ := HX.out.setBag hR' hBw hf8' hSF hown8 (fun k' hk' => by
        rcases hat8 with h9 | h9
        · rw [h9] at hk'
          exact .inl (hbF k' (by rw [Hvb.out]; exact hk'))
        · rw [h9] at hk'
          simp only [Option.some.injEq] at hk'
          refine .inr ?_
          rw [← hk']
          exact hf1.size) rfl
      go_wp2_with fail
      refine ⟨⟨k + 1, F2, by omega, by go_num, ?_, hR2, hfw.grew hf2 hg, hg.trans hg2 hfw.size⟩, by simp [intOf]; omega⟩
      rw [Hsucc.out]
      have e9 : d.bag ++ mailsOf src (l.take k ++ [o]) = d.bag ++ mailsOf src (l.take k) ++ [⟨src, o⟩] := by simp [mailsOf]
      rw [e9]
      exact hW2
    · have hkn : k = l.length := by omega
      have hk1 : ¬ (k : Int) < (l.length : Int) := by omega
      have Hkn := Lib.hid hkn
      clear hkn
      go_wp2_with fail
      go_end0
      rw [Hkn.out, List.take_length] at hW
      exact ⟨rfl, F', hW, hR', hfw, hg⟩
end Go.Proofs.Ytplgmcpglbpghaa

/- out. -/
namespace Go.Proofs.Ytplgmcpglbpghaa
open Go.RowKit

theorem OwnL.at {α : Type} {enc : α → Value → List Value} {pay : α → List Int} {T sz B base : Nat} (hsz : ∀ x v, (enc x v).length = sz) (h0 : 0 < sz) {w : World} {a : Option Addr} {n c : Nat} {l : List α} (h : OwnL enc pay T sz B base w (.slice a n c) l) {k : Nat} {x : α} (hl : l[k]? = some x) :
    ∃ b pa pc, a = some ⟨b, 0, none⟩ ∧ b < w.heap.size ∧ typ w b = some T ∧ w.rangeAt b (k * sz) (enc x (.slice pa (pay x).length pc)) ∧ Bytes B w (.slice pa (pay x).length pc) (pay x) := by
  obtain ⟨pvs, hps, hrow⟩ := h
  obtain ⟨p, hp, hb⟩ := hps.get (show (l.map pay)[k]? = some (pay x) by simp [hl])
  have hk := (List.getElem?_eq_some_iff.1 hl).1
  obtain ⟨hcl, a', c', he, _, _, hne⟩ := range_of_owns hrow
  cases he
  obtain ⟨b, rfl, _, _, hty, hr⟩ := hne (fun h => by
    rw [h] at hcl
    have : 0 < l.length * sz := Nat.mul_pos (by omega) h0
    simp at hcl; omega)
  obtain ⟨pa, pc, rfl⟩ := hb.form
  refine ⟨b, pa, pc, rfl, typ_lt hty, hty, fun j v hj => ?_, hb⟩
  have hj6 : j < sz := by have := (List.getElem?_eq_some_iff.1 hj).1; rw [hsz] at this; exact this
  have := hr (k * sz + j) v (by rw [cellsOf_get hsz l pvs k x _ hl hp j hj6]; exact hj)
  rwa [Nat.zero_add] at this

theorem OwnL.base {α : Type} {enc : α → Value → List Value} {pay : α → List Int} {T sz B base base' : Nat} {w : World} {v : Value} {l : List α} (h : OwnL enc pay T sz B base w v l) (hb : base' ≤ base) : OwnL enc pay T sz B base' w v l :=
  let ⟨pvs, h1, h2⟩ := h
  ⟨pvs, h1, owns_base h2 hb⟩

theorem erase_take {α : Type} {l : List α} {k n : Nat} {x : α} (hl : l[k]? = some x) : (l.take (k + 1)).eraseIdx n = if k = n then (l.take k).eraseIdx n else (l.take k).eraseIdx n ++ [x] := by
  have hk := (List.getElem?_eq_some_iff.1 hl).1
  have hlen : (l.take k).length = k := by rw [List.length_take]; omega
  have e : l.take (k + 1) = l.take k ++ [x] := by rw [List.take_add_one, hl]; rfl
  rw [e]
  by_cases h : n < k
  · rw [List.eraseIdx_append_of_lt_length (by omega), if_neg (by omega)]
  · rw [List.eraseIdx_append_of_length_le (by omega), hlen]
    by_cases hkn : k = n
    · subst hkn
      have h1 : (l.take k).eraseIdx k = l.take k := List.eraseIdx_of_length_le (by omega)
      rw [if_pos rfl, Nat.sub_self, h1]
      simp
    · have h1 : (l.take k).eraseIdx n = l.take k := List.eraseIdx_of_length_le (by omega)
      have h2 : [x].eraseIdx (n - k) = [x] := List.eraseIdx_of_length_le (by simp; omega)
      rw [if_neg hkn, h1, h2]

set_option maxRecDepth 100000 in
set_option maxHeartbeats 2000000 in
theorem f_out (B : Nat) (w : World) (q : Nat) (d : WD) (F : Nat → Prop) (n : Nat) (h : WorldAt B w q d F) (hR : Reg B w F) (hB : B ≤ w.heap.size) (hlen : d.bag.length ≤ 1000000) (hn : n < 1000000) :
    Calls Try.prog 26 #[.pointer (some ⟨q, 0, none⟩), .int .i64 n] w fun e w' => e = .returned (.tuple #[]) ∧ WPost B w q F (d.out n) w' := by
  obtain ⟨own, wv, hX⟩ := h
  obtain ⟨hqlt, ⟨_, _, _, hc3, _, _, _⟩, hz⟩ := hX.cells
  obtain ⟨hbag, hbF⟩ := hX.bag (fun h => h)
  obtain ⟨na, nc, hvb⟩ := hbag.form
  rw [hvb] at hbag hc3
  have HX := Lib.hid hX
  have Hbag := Lib.hid hbag
  clear hX hbag hvb
  go_enter Try.func26, Try.ntmps26
  go_wp2
  go_loopw [4, 5] (fun v i wr => ∃ k : Nat, k ≤ d.bag.length ∧ i = .int .i64 k ∧ BagOwn B w.heap.size wr v ((d.bag.take k).eraseIdx n) ∧ Fr No w wr) (fun _ i _ => 1000000 - (intOf i).toNat)
  case atStart => exact ⟨0, Nat.zero_le _, rfl, by simpa using OwnL.nil _ _ _ _ _ _ _, Fr.refl _ _⟩
  case round =>
    obtain ⟨k, hk, rfl, hv, hfw⟩ := hrel
    obtain ⟨va, vc, hvv⟩ := hv.form
    obtain ⟨M, hM⟩ : ∃ M, M = ((d.bag.take k).eraseIdx n).length := ⟨_, rfl⟩
    rw [← hM] at hvv
    subst hvv
    have hM2 : M ≤ 1000000 := by
      rw [hM]
      have := List.length_eraseIdx_le (d.bag.take k) n
      rw [List.length_take] at this; omega
    have Hv := Lib.hid hv
    have HM := Lib.hid hM
    clear hv hM
    have hqr : q < wr.heap.size := Nat.lt_of_lt_of_le hqlt hfw.size
    have hc3' : wr.cell? ⟨q, 3, none⟩ = some (.slice na d.bag.length nc) := by rw [hfw.cell hqlt (fun h => h)]; exact hc3
    have hz' : ∀ o, wr.frozen? ⟨q, o, none⟩ = false := fun o => by rw [hfw.froz hqlt (fun h => h)]; exact hz o
    by_cases hlt : k < d.bag.length
    · have hk1 : (k : Int) < (d.bag.length : Int) := by omega
      obtain ⟨x, hx⟩ : ∃ x, d.bag[k]? = some x := ⟨_, List.getElem?_eq_getElem hlt⟩
      have hsucc := erase_take (n := n) hx
      obtain ⟨b, pa, pc, rfl, hb, _, hrange, hpB⟩ := (Hbag.out.fr0 hfw).at mailCells_len (by omega) hx
      have hld : (Instr.loadAt 47 (.pointer (some ⟨b, k * 19, none⟩))).run Try.prog wr = .ok (.agg (mailCells x (.slice pa x.out.payload.length pc)).toArray) wr :=
        run_loadAt_mid wr b (k * 19) 47 _ _ hrange Try.underlying47 rfl (by kernel_rfl)
      clear hx hrange
      by_cases hkn : k = n
      · have hkb : ((k : Int) != (n : Int)) = false := by rw [bne_eq_false_iff_eq]; omega
        rw [if_pos hkn] at hsucc
        have Hsucc := Lib.hid hsucc
        clear hsucc hkn hld
        go_wp2_with fail
        exact ⟨⟨k + 1, by omega, by go_num, by rw [Hsucc.out]; exact Hv.out, hfw⟩, by simp [intOf]; omega⟩
      · have hkb : ((k : Int) != (n : Int)) = true := by rw [bne_iff_ne]; omega
        rw [if_neg hkn] at hsucc
        have Hsucc := Lib.hid hsucc
        clear hsucc hkn
        go_wp2_with (first | (refine wpList_ld rfl 47 (.tmp 24) rfl rfl hld ?_; simp only [mailCells, msgCells]) | (at_builtin; refine wpList_snoc (enc := mailCells) (pay := fun x : MailD => x.out.payload) (B := B) (base := w.heap.size) (l := (d.bag.take k).eraseIdx n) (x := x) (pv := .slice pa x.out.payload.length pc) elMails mailCells_len (by decide) rfl (.tmp 18) (.tmp 26) rfl rfl (Hv.out.fr0 (Fr.alloc0 _ _)) rfl ⟨wr.heap.size, 0, rfl, range_new (cs := mailCells x (.slice pa x.out.payload.length pc))⟩ (by simp [mailCells, msgCells, Value.oneCell']) (hpB.fr (Fr.alloc0 _ _) FreeT.no) hB (by rw [← HM.out]; simp only [maxLen]; omega) (by rw [← HM.out]; omega) (by have := hfw.size; simp; omega) ?_; intro ao' c' w8 hown8 hf8))
        refine ⟨⟨k + 1, by omega, by go_num, by rw [Hsucc.out]; exact hown8, (hfw.alloc _).trans' hf8 (fun x hx h => by unfold From at h; omega)⟩, by simp [intOf]; omega⟩
    · have hkn : k = d.bag.length := by omega
      have hk1 : ¬ (k : Int) < (d.bag.length : Int) := by omega
      have Hkn := Lib.hid hkn
      clear hkn
      go_wp2_with fail
      go_end0
      have hv := Hv.out
      rw [Hkn.out, List.take_length] at hv
      exact ⟨rfl, HX.out.setBag hR hB hfw (fun _ h => h.elim) (hv.base hB) (fun k' hk' => .inr (hv.block hk').2) rfl⟩
end Go.Proofs.Ytplgmcpglbpghaa
