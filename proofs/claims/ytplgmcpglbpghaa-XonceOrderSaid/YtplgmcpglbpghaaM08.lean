/- Part 8 of the proof: Xs11. -/
import Derived.Test.YtplgmcpglbpghaaM07
set_option linter.all false
set_option linter.unusedVariables false
set_option linter.unusedSimpArgs false

namespace Go.Proofs.Ytplgmcpglbpghaa
open Go.RowKit

theorem elFrames' : El 86 97 2 32 := by
  refine El.mk (z := .agg #[.int .u64 0, nilS]) Try.underlying86 (by kernel_rfl) rfl (by decide)

def InsPost (base : Nat) (w : World) (v : Value) (n : Nat) (ys : List Value) (e : Ending) (w' : World) : Prop :=
  ∃ v', e = .returned v' ∧ w'.ownsRow base 97 2 v' n ys ∧ Fr (fun k => v.ownBlock = some k) w w' ∧ (v'.ownBlock = v.ownBlock ∨ ∃ k, v'.ownBlock = some k ∧ w.heap.size ≤ k)

theorem wp_copy_runI {w : World} {o : Oper} {a : Act} {K : Act → World → Prop} {Q : Exit → Act → World → Prop} (d s : Operand) (t t' : TypeId)
    (ho : o.op = .call { callee := .builtin .copy, args := #[d, s], argTypes := #[t, t'] }) (v u : Value) (hd : a.eval d = v) (hs : a.eval s = u) {v' : Value} {w' : World}
    (hr : (Builtin.copy_ #[t, t'] o.type #[v, u]).run Try.prog w = .ok v' w') (h : K (a.put o.dst v') w') : o.wp Try.prog a w K Q := by
  unfold Oper.wp execOp
  simp only [ho, resolve, invoke, builtin, Sem.run_bind, Sem.run_pure, Result.andThen_ok, List.map_toArray, List.map_cons, List.map_nil, hd, hs, hr]
  exact h
theorem wpList_copy_runI {w : World} {ops : Array Oper} {rest : List Oper} {o : Oper} {a : Act} {Q : Exit → Act → World → Prop} (hgd : o.guard = none) (d s : Operand) (t t' : TypeId)
    (ho : o.op = .call { callee := .builtin .copy, args := #[d, s], argTypes := #[t, t'] }) (v u : Value) (hd : a.eval d = v) (hs : a.eval s = u) {v' : Value} {w' : World}
    (hr : (Builtin.copy_ #[t, t'] o.type #[v, u]).run Try.prog w = .ok v' w') (h : wpList Try.prog ops Q rest (a.put o.dst v') w') : wpList Try.prog ops Q (o :: rest) a w :=
  wpList_plain hgd fun _ hK => wp_copy_runI d s t t' ho v u hd hs hr (hK _ _ h)

set_option maxRecDepth 100000 in
set_option maxHeartbeats 2000000 in
theorem insert_end (base : Nat) (w : World) (v : Value) (n : Nat) (xs news : List Value) (vb : Nat) (hown : w.ownsRow base 97 2 v n xs) (hn2 : news.length = 2) (h1n : ∀ u ∈ news, u.oneCell' = true)
    (hvb : w.heap[vb]? = some (.cells news.toArray 97 (0, 0))) (hb : base ≤ w.heap.size) (hn : n ≤ 1000) :
    Calls Try.prog 63 #[v, .int .i64 n, .slice (some ⟨vb, 0, none⟩) 1 1] w (InsPost base w v (n + 1) (xs ++ news)) := by
  obtain ⟨hl, a, c, rfl, hnc, hcm, _⟩ := range_of_owns hown
  have hc2 : c ≤ 9223372036854775807 := by have := hcm; unfold maxLen at this; omega
  have hsl : ∃ a2, (∀ W, (Instr.slice 86 (.slice a n c) (some (.int .i64 n)) none none).run Try.prog W = .ok (.slice a2 (n - n) (c - n)) W) := by
    by_cases hc : c = n
    · exact ⟨a, fun W => by go_simp⟩
    · exact ⟨a.map (·.add (n * 2)), fun W => by go_simp⟩
  obtain ⟨a2, hsl⟩ := hsl
  go_enter Try.func63, Try.ntmps63
  go_wp2_with (at_builtin; refine wpList_app elFrames' rfl (.tmp 23) (.tmp 24) rfl rfl hown (m := 1) (news := news) rfl (by rw [hn2]) (fun _ => ⟨vb, 0, rfl, fun j u hu => by rw [Nat.zero_add, cell_of_row w vb j news.toArray _ _ hvb]; simpa using hu⟩) h1n (by simp only [maxLen]; omega) (by omega) hb ?_; intro ao' c' w' h2 h3 h4)
  go_ret
  exact ⟨_, rfl, h2, h3, h4.imp id fun h => ⟨_, h, Nat.le_refl _⟩⟩

set_option maxRecDepth 100000 in
set_option maxHeartbeats 4000000 in
theorem insert_room (base : Nat) (w : World) (g n c i : Nat) (xs news : List Value) (vb : Nat) (cur : Array Value) (hg : w.heap[g]? = some (.cells cur 97 (0, 0))) (hbg : base ≤ g) (hnc : n + 1 ≤ c) (hcm : c ≤ maxLen) (hcs : cur.size = c * 2) (ht : cur.toList.take (n * 2) = xs) (h1x : ∀ u ∈ xs, u.oneCell' = true) (hi : i < n) (hn2 : news.length = 2) (h1n : ∀ u ∈ news, u.oneCell' = true)
    (hvb : w.heap[vb]? = some (.cells news.toArray 97 (0, 0))) (hvg : vb ≠ g) (hn : n ≤ 1000) (ys : List Value) (hys : ys = xs.take (i * 2) ++ news ++ xs.drop (i * 2)) :
    Calls Try.prog 63 #[.slice (some ⟨g, 0, none⟩) n c, .int .i64 i, .slice (some ⟨vb, 0, none⟩) 1 1] w (InsPost base w (.slice (some ⟨g, 0, none⟩) n c) (n + 1) ys) := by
  have Hys := Lib.hid hys
  clear hys
  have hc2 : c ≤ 9223372036854775807 := by have := hcm; unfold maxLen at this; omega
  have hxl : xs.length = n * 2 := by rw [← ht]; simp; omega
  have hd : (xs.drop (i * 2)).length = n * 2 - i * 2 := by rw [List.length_drop, hxl]
  obtain ⟨a2, hsl, _⟩ := fr_from g n c i (by omega) (by omega)
  have hto := fr_to g n c (n + 1) hnc
  obtain ⟨a3, hfr, ha3⟩ := fr_from g (n + 1) c (i + 1) (by omega) (by omega)
  obtain ⟨a4, hfr2, ha4⟩ := fr_from g (n + 1) c i (by omega) (by omega)
  have ha3 := ha3 (by omega)
  have ha4 := ha4 (by omega)
  subst ha3; subst ha4
  have hshA : w.shape? vb = some (97, 2) := by simp [World.shape?, hvb, hn2]
  have hshB : w.shape? g = some (97, c * 2) := by simp [World.shape?, hg, hcs]
  have hfz : ∀ o, w.frozen? ⟨vb, o, none⟩ = false := fun o => by simp [World.frozen?, hvb]
  have hov : (callFunc 81 #[.slice (some ⟨vb, 0, none⟩) 1 1, .slice (some ⟨g, (i + 1) * 2, none⟩) (n + 1 - (i + 1)) (c - (i + 1))]).run Try.prog w = .ok (.value (.bool false)) w := by
    rw [run_callFunc_extern Try.func81 (by kernel_rfl) (by kernel_rfl) (by kernel_rfl) (e := Extern.SlicesOverlaps.overlaps #[86, 86] #[4]) (by kernel_rfl),
      Lib.run_overlaps_apart w 86 4 97 Try.underlying86 2 sizeFrame ⟨vb, 0, none⟩ ⟨g, (i + 1) * 2, none⟩ 1 1 _ _ hvg 97 97 2 (c * 2) hshA hshB (by omega) (hfz 0) (hfz 2)]
    rfl
  have hin1 : decide ((i : Int) = (n : Int)) = false := by simp; omega
  have hi2 : ((i : Int) == (n : Int)) = false := by rw [beq_eq_false_iff_ne]; omega
  have hi3 : ¬ ((c : Int) < (n : Int) + 1) := by omega
  have e4 : ((i + 1 : Nat) : Int) = (i : Int) + 1 := by omega
  have e5 : ((n + 1 : Nat) : Int) = (n : Int) + 1 := by omega
  rw [e5] at hto
  rw [e4] at hfr
  rw [Nat.add_sub_add_right] at hfr hov
  clear e4 e5
  have hw1 : IntKind.i64.wrap ((i : Int) + 1) = (i : Int) + 1 := IntWalk.i64_in _ (by omega)
  go_enter Try.func63, Try.ntmps63
  go_wp2_with (simp only [hov])
  refine WS.wp_region_seq (Fr No w) [8] [(0, true), (1, true), (2, true), (3, true), (4, true), (5, true), (6, true), (7, true), (8, false)] (by kernel_rfl) (by kernel_rfl) (fun c d v a w h => by cases d <;> exact h) ((Fr.refl _ _).drew) ?_
  simp only [WS.pick, List.getElem?_toArray, List.getElem?_cons_succ, List.getElem?_cons_zero]
  repeat (first | (refine WS.wpL_skip rfl ?_; try simp only [Act.put, List.setIfInBounds_toArray, List.set_cons_zero, List.set_cons_succ]) | (refine WS.wpL_q ?_ rfl ?_ ?_; rotate_left 1; (focus (intro w' hw'; have hrr' := hw'.rules; obtain ⟨hrc', _⟩ := hrr'; clear hw'; go_simp; (try with_reducible rfl); done)); try simp only [Act.put, List.setIfInBounds_toArray, List.set_cons_zero, List.set_cons_succ]))
  refine WS.wpL_e rfl (fun K hK => ?_)
  have hfit1 : (i + 1) * 2 + (xs.drop (i * 2)).length ≤ cur.toList.length := by rw [hd]; simp; omega
  refine wp_copy_runI (.tmp 73) (.tmp 76) 86 86 rfl _ _ rfl rfl (run_copyS w.drew 86 86 3 97 2 g ((i + 1) * 2) (n - i) (c - (i + 1)) ⟨g, i * 2, none⟩ (n + 1 - i) (c - i) cur 97 (xs.drop (i * 2)) (n - i) (by omega) Try.underlying86 (by kernel_rfl) hg (by rw [hd]; omega) (fun j v hv => by
    rw [Addr.add_mid]
    show w.cell? _ = _
    rw [cell_of_row w g _ cur _ _ hg]
    rw [List.getElem?_drop, ← ht, List.getElem?_take] at hv
    split at hv
    · simpa using hv
    · cases hv) (by simpa using hfit1) (fun u hu => h1x u (List.mem_of_mem_drop hu))) ?_
  refine hK _ _ (fun h => absurd (by decide) h) ?_
  clear hK K
  try simp only [Act.put, List.setIfInBounds_toArray, List.set_cons_zero, List.set_cons_succ]
  refine WS.wpL_nil ?_
  have hg1 : (w.drew.setRow g (put cur.toList ((i + 1) * 2) (xs.drop (i * 2))).toArray).heap[g]? = some (.cells (put cur.toList ((i + 1) * 2) (xs.drop (i * 2))).toArray 97 (0, 0)) := setRow_own (w := w.drew) hg
  have hv1 : (w.drew.setRow g (put cur.toList ((i + 1) * 2) (xs.drop (i * 2))).toArray).heap[vb]? = some (.cells news.toArray 97 (0, 0)) := by rw [setRow_other _ _ _ _ hvg]; exact hvb
  have hf1 : Fr (One g) w (w.drew.setRow g (put cur.toList ((i + 1) * 2) (xs.drop (i * 2))).toArray) := Fr.ofDrew (Fr.setRow0 (w := w.drew) hg)
  generalize w.drew.setRow g (put cur.toList ((i + 1) * 2) (xs.drop (i * 2))).toArray = W1 at *
  have hcp2 := run_copyS W1 86 86 3 97 2 g (i * 2) (n + 1 - i) (c - i) ⟨vb, 0, none⟩ 1 1 _ 97 news 1 (by omega) Try.underlying86 (by kernel_rfl) hg1 (by rw [hn2]) (fun j v hv => by rw [Addr.add_mid, Nat.zero_add, cell_of_row W1 vb _ _ _ _ hv1]; simpa using hv) (by simp only [List.size_toArray]; rw [put_length hfit1]; simp; omega) h1n
  have hfw := Fr.setRow0 (new := (put (put cur.toList ((i + 1) * 2) (xs.drop (i * 2))).toArray.toList (i * 2) news).toArray) hg1
  have how := setRow_own (new := (put (put cur.toList ((i + 1) * 2) (xs.drop (i * 2))).toArray.toList (i * 2) news).toArray) hg1
  generalize W1.setRow g (put (put cur.toList ((i + 1) * 2) (xs.drop (i * 2))).toArray.toList (i * 2) news).toArray = W2 at *
  have Hg1 := Lib.hid hg1
  have How := Lib.hid how
  have Hd := Lib.hid hd
  have Ht := Lib.hid ht
  have Hcs := Lib.hid hcs
  have Hxl := Lib.hid hxl
  have Hfit := Lib.hid hfit1
  clear hg1 how hd ht hcs hxl hfit1
  go_wp2_with fail
  go_ret
  have hd := Hd.out
  have ht := Ht.out
  have hcs := Hcs.out
  have hxl := Hxl.out
  have hfit1 := Hfit.out
  refine ⟨_, rfl, ⟨by rw [Hys.out]; simp only [List.length_append, List.length_take, hn2, hd, hxl]; omega, .inr ⟨g, c, _, rfl, hbg, How.out, hnc, hcm, ?_, ?_⟩⟩, ?_, .inl rfl⟩
  · show (put (put cur.toList ((i + 1) * 2) (xs.drop (i * 2))) (i * 2) news).length = _
    rw [put_length (by rw [put_length hfit1, hn2]; simp; omega), put_length hfit1]
    simpa using hcs
  · rw [Hys.out]
    exact ins_room ht (by omega) (by simp; omega) hn2
  · exact (hf1.trans hfw).mono (fun b _ hb => by cases hb; rfl)

set_option maxRecDepth 100000 in
set_option maxHeartbeats 4000000 in
theorem insert_grow (base : Nat) (w : World) (g n c i : Nat) (xs news : List Value) (vb : Nat) (cur : Array Value) (hg : w.heap[g]? = some (.cells cur 97 (0, 0))) (hb : base ≤ w.heap.size) (hnc : n ≤ c) (hnc2 : c < n + 1) (hcs : cur.size = c * 2) (ht : cur.toList.take (n * 2) = xs) (h1x : ∀ u ∈ xs, u.oneCell' = true) (hi : i < n) (hn2 : news.length = 2) (h1n : ∀ u ∈ news, u.oneCell' = true)
    (hvb : w.heap[vb]? = some (.cells news.toArray 97 (0, 0))) (hn : n ≤ 1000) (ys : List Value) (hys : ys = xs.take (i * 2) ++ news ++ xs.drop (i * 2)) :
    Calls Try.prog 63 #[.slice (some ⟨g, 0, none⟩) n c, .int .i64 i, .slice (some ⟨vb, 0, none⟩) 1 1] w (InsPost base w (.slice (some ⟨g, 0, none⟩) n c) (n + 1) ys) := by
  have Hys := Lib.hid hys
  clear hys
  have hxl : xs.length = n * 2 := by rw [← ht]; simp; omega
  have hd : (xs.drop (i * 2)).length = n * 2 - i * 2 := by rw [List.length_drop, hxl]
  have htl : (xs.take (i * 2)).length = i * 2 := by rw [List.length_take, hxl]; omega
  have hglt : g < w.heap.size := (Array.getElem?_eq_some_iff.1 hg).1
  have hvlt : vb < w.heap.size := (Array.getElem?_eq_some_iff.1 hvb).1
  have hxc : ∀ j v, xs[j]? = some v → w.cell? ⟨g, j, none⟩ = some v := fun j v hv => by
    rw [cell_of_row w g _ cur _ _ hg]
    rw [← ht, List.getElem?_take] at hv
    split at hv
    · simpa using hv
    · cases hv
  obtain ⟨a2, hsl, ha2⟩ := fr_from g n c i (by omega) (by omega)
  have ha2 := ha2 (by omega)
  subst ha2
  have hto := fr_to g n c i (by omega)
  obtain ⟨ht0, i0, z, hinf, hz, hsz, hbz, hzs, hs0⟩ := elFrames'
  have e0 : i + (n + 1 - i) = n + 1 := by omega
  have happ := Lib.run_append_grow_zeros (P := Try.prog) w 86 3 86 97 i0 z .i64 .i64 Try.underlying86 Try.underlying3 hinf hz (some ⟨g, 0, none⟩) i c (xs.take (i * 2)) (by rw [hsz]; exact run_firstCells_some (w := w.drew) 2 i ⟨g, 0, none⟩ i c (xs.take (i * 2)) htl (fun j v hv => by rw [Addr.add_mid, Nat.zero_add]; rw [List.getElem?_take] at hv; split at hv; exact hxc j v hv; cases hv)) (n + 1 - i) (by omega) (by omega) (by omega) (by omega) (by rw [hbz]; omega) (growslice_fits (by omega) (by rw [hbz]; omega))
  have hge := grownCap_ge w (n + 1) c 97
  have hcm : grownCap w (n + 1) c 97 ≤ maxLen := grownCap_le_maxLen w (n + 1) c 97 (by simp only [maxLen]; omega)
  rw [e0] at happ
  generalize hcap : grownCap w (n + 1) c 97 = cap at *
  generalize hL : (xs.take (i * 2)).toArray ++ Builtin.zeroCells z.cells (n + 1 - i) ++ Builtin.zeroCells z.cells (cap - (n + 1)) = L at *
  have hLs : L.size = cap * 2 := by rw [← hL]; simp only [Array.size_append, List.size_toArray, size_zeroCells, hzs, htl]; omega
  have hLt : L.toList.take (i * 2) = xs.take (i * 2) := by
    rw [← hL]
    simp only [Array.toList_append, List.append_assoc]
    rw [List.take_append_of_le_length (by omega), List.take_of_length_le (by omega)]
  have hW1 : (w.drew.alloc (.cells L 97)).heap[w.heap.size]? = some (.cells L 97 (0, 0)) := heap_alloc_new w.drew _
  have hf1 : Fr No w (w.drew.alloc (.cells L 97)) := ((Fr.refl _ _).drew).alloc _
  have hv1 : (w.drew.alloc (.cells L 97)).heap[vb]? = some (.cells news.toArray 97 (0, 0)) := by rw [hf1.block vb hvlt (fun h => h)]; exact hvb
  generalize w.drew.alloc (.cells L 97) = W1 at *
  clear hL hcap e0 hinf hz hsz hbz ht0
  obtain ⟨a3, hfr, ha3⟩ := fr_from w.heap.size (n + 1) cap i (by omega) hge
  have ha3 := ha3 (by omega)
  subst ha3
  have hfit1 : i * 2 + news.length ≤ L.toList.length := by rw [hn2]; simp; omega
  have hcp1 := run_copyS W1 86 86 3 97 2 w.heap.size (i * 2) (n + 1 - i) (cap - i) ⟨vb, 0, none⟩ 1 1 L 97 news 1 (by omega) Try.underlying86 (by kernel_rfl) hW1 (by rw [hn2]) (fun j v hv => by rw [Addr.add_mid, Nat.zero_add, cell_of_row W1 vb _ _ _ _ hv1]; simpa using hv) (by simpa using hfit1) h1n
  have hf2 := Fr.setRow0 (new := (put L.toList (i * 2) news).toArray) hW1
  have hW2 := setRow_own (new := (put L.toList (i * 2) news).toArray) hW1
  generalize W1.setRow w.heap.size (put L.toList (i * 2) news).toArray = W2 at *
  have hF2 : Fr No w W2 := hf1.trans' hf2 (fun x hx e => by unfold One at e; omega)
  have hfit2 : (i + 1) * 2 + (xs.drop (i * 2)).length ≤ (put L.toList (i * 2) news).length := by rw [put_length hfit1, hd]; simp; omega
  have hi2 : ((i : Int) == (n : Int)) = false := by rw [beq_eq_false_iff_ne]; omega
  have hi3 : (c : Int) < (n : Int) + 1 := by omega
  have hin1 : decide ((i : Int) = (n : Int)) = false := by simp; omega
  have e6 : ((n + 1 - i : Nat) : Int) = (n : Int) + 1 - i := by omega
  rw [e6] at happ
  have Hd := Lib.hid hd
  have Ht := Lib.hid ht
  have Hcs := Lib.hid hcs
  have Hxl := Lib.hid hxl
  have Htl := Lib.hid htl
  have HLs := Lib.hid hLs
  have HW1 := Lib.hid hW1
  have HW2 := Lib.hid hW2
  have HLt := Lib.hid hLt
  have Hfit1 := Lib.hid hfit1
  have Hfit2 := Lib.hid hfit2
  have Hxc := Lib.hid hxc
  have Hg := Lib.hid hg
  have Hvb := Lib.hid hvb
  clear hd ht hcs hxl htl hLs hW1 hW2 hLt hfit1 hfit2 hxc e6 hg hvb hv1
  go_enter Try.func63, Try.ntmps63
  go_wp2_with (at_builtin; go_must (refine Lib.wpList_append_run w rfl (.tmp 34) (.tmp 39) 86 3 rfl _ _ rfl rfl _ _ happ ?_))
  obtain ⟨a5, hfr5, ha5⟩ := fr_from w.heap.size (n + 1) cap (i + 1) (by omega) hge
  have ha5 := ha5 (by omega)
  subst ha5
  have e4 : ((i + 1 : Nat) : Int) = (i : Int) + 1 := by omega
  rw [e4] at hfr5
  rw [Nat.add_sub_add_right] at hfr5
  clear e4
  have hw1 : IntKind.i64.wrap ((i : Int) + 1) = (i : Int) + 1 := IntWalk.i64_in _ (by omega)
  refine WS.wp_region_seq (Fr No W2) [8] [(0, true), (1, true), (2, true), (3, true), (4, true), (5, true), (6, true), (7, true), (8, false)] (by kernel_rfl) (by kernel_rfl) (fun c d v a w h => by cases d <;> exact h) ((Fr.refl _ _).drew) ?_
  simp only [WS.pick, List.getElem?_toArray, List.getElem?_cons_succ, List.getElem?_cons_zero]
  repeat (first | (refine WS.wpL_skip rfl ?_; try simp only [Act.put, List.setIfInBounds_toArray, List.set_cons_zero, List.set_cons_succ]) | (refine WS.wpL_q ?_ rfl ?_ ?_; rotate_left 1; (focus (intro w' hw'; have hrr' := hw'.rules; obtain ⟨hrc', _⟩ := hrr'; clear hw'; go_simp; (try with_reducible rfl); done)); try simp only [Act.put, List.setIfInBounds_toArray, List.set_cons_zero, List.set_cons_succ]))
  refine WS.wpL_e rfl (fun K hK => ?_)
  refine wp_copy_runI (.tmp 50) (.tmp 53) 86 86 rfl _ _ rfl rfl (run_copyS W2.drew 86 86 3 97 2 w.heap.size ((i + 1) * 2) (n - i) (cap - (i + 1)) ⟨g, i * 2, none⟩ (n - i) (c - i) _ 97 (xs.drop (i * 2)) (n - i) (by omega) Try.underlying86 (by kernel_rfl) HW2.out (by rw [Hd.out]; omega) (fun j v hv => by
    rw [Addr.add_mid]
    show W2.cell? _ = _
    rw [hF2.cell hglt (fun h => h)]
    rw [List.getElem?_drop] at hv
    exact Hxc.out _ _ hv) (by simpa using Hfit2.out) (fun u hu => h1x u (List.mem_of_mem_drop hu))) ?_
  refine hK _ _ (fun h => absurd (by decide) h) ?_
  clear hK K
  try simp only [Act.put, List.setIfInBounds_toArray, List.set_cons_zero, List.set_cons_succ]
  refine WS.wpL_nil ?_
  have hf3 := Fr.setRow0 (w := W2.drew) (new := (put (put L.toList (i * 2) news).toArray.toList ((i + 1) * 2) (xs.drop (i * 2))).toArray) HW2.out
  have HW3 := Lib.hid (setRow_own (w := W2.drew) (new := (put (put L.toList (i * 2) news).toArray.toList ((i + 1) * 2) (xs.drop (i * 2))).toArray) HW2.out)
  generalize W2.drew.setRow w.heap.size (put (put L.toList (i * 2) news).toArray.toList ((i + 1) * 2) (xs.drop (i * 2))).toArray = W3 at *
  go_wp2_with fail
  go_ret
  have hd := Hd.out
  have hxl := Hxl.out
  refine ⟨_, rfl, ⟨by rw [Hys.out]; simp only [List.length_append, List.length_take, hn2, hd, hxl]; omega, .inr ⟨w.heap.size, cap, _, rfl, hb, HW3.out, hge, hcm, ?_, ?_⟩⟩, ?_, .inr ⟨w.heap.size, rfl, Nat.le_refl _⟩⟩
  · show (put (put L.toList (i * 2) news) ((i + 1) * 2) (xs.drop (i * 2))).length = _
    rw [put_length Hfit2.out, put_length Hfit1.out]
    simpa using HLs.out
  · rw [Hys.out]
    exact ins_grow Hxl.out HLt.out (by omega) (by have := HLs.out; simp; omega) hn2
  · exact (hF2.drew.trans' hf3 (fun x hx e => by unfold One at e; omega)).mono (fun _ _ h => h.elim)

theorem f_insert (base : Nat) (w : World) (v : Value) (n i : Nat) (xs news : List Value) (vb : Nat) (hown : w.ownsRow base 97 2 v n xs) (h1x : ∀ u ∈ xs, u.oneCell' = true) (hi : i ≤ n) (hn2 : news.length = 2) (h1n : ∀ u ∈ news, u.oneCell' = true)
    (hvb : w.heap[vb]? = some (.cells news.toArray 97 (0, 0))) (hvg : v.ownBlock ≠ some vb) (hb : base ≤ w.heap.size) (hn : n ≤ 1000) :
    Calls Try.prog 63 #[v, .int .i64 i, .slice (some ⟨vb, 0, none⟩) 1 1] w (InsPost base w v (n + 1) (xs.take (i * 2) ++ news ++ xs.drop (i * 2))) := by
  by_cases he : i = n
  · subst he
    have hl : xs.length = i * 2 := hown.1
    rw [← hl, List.take_length, List.drop_length, List.append_nil]
    exact insert_end base w v i xs news vb hown hn2 h1n hvb hb hn
  · rcases hown.2 with ⟨rfl, h0⟩ | ⟨g, c, cur, rfl, hbg, hg, hnc, hcm, hcs, ht⟩
    · omega
    · by_cases hroom : n + 1 ≤ c
      · exact insert_room base w g n c i xs news vb cur hg hbg hroom hcm hcs ht h1x (by omega) hn2 h1n hvb (fun e => hvg (by rw [e]; rfl)) hn _ rfl
      · exact insert_grow base w g n c i xs news vb cur hg hb hnc (by omega) hcs ht h1x (by omega) hn2 h1n hvb hn _ rfl

theorem run_clear (w : World) (t : TypeId) (g o c : Nat) (cur : Array Value) (e : TypeId) (hg : w.heap[g]? = some (.cells cur e (0, 0))) (hfit : o + 2 ≤ cur.size) :
    (Builtin.clear_ #[86] t #[.slice (some ⟨g, o, none⟩) 1 c]).run Try.prog w = .ok (.tuple #[]) (w.setRow g (put cur.toList o [.int .u64 0, nilS]).toArray) := by
  have hst := run_storeCells_at Try.prog g o e [.int .u64 0, nilS] 0 cur w hg (by simpa using hfit) (by simp [Value.oneCell'])
  simp only [Nat.add_zero] at hst
  have hz : (zeroValue 97).run Try.prog w = .ok (.agg #[.int .u64 0, nilS]) w := by go_simp
  have hzc : (Builtin.zeroCells (Value.agg #[.int .u64 0, nilS]).cells 1).toList = [.int .u64 0, nilS] := by kernel_rfl
  simp only [Builtin.clear_, Sem.run_bind, run_underlying Try.underlying86, hz, hzc, hst, put, Result.andThen_ok, List.getElem?_toArray, List.getElem?_cons_zero, Sem.run_pure]

def DelPost (base : Nat) (w : World) (g n c : Nat) (ys : List Value) (e : Ending) (w' : World) : Prop :=
  e = .returned (.slice (some ⟨g, 0, none⟩) n c) ∧ w'.ownsRow base 97 2 (.slice (some ⟨g, 0, none⟩) n c) n ys ∧ Fr (One g) w w'

set_option maxRecDepth 100000 in
set_option maxHeartbeats 4000000 in
theorem f_delete (base : Nat) (w : World) (g n c : Nat) (xs : List Value) (hown : w.ownsRow base 97 2 (.slice (some ⟨g, 0, none⟩) (n + 1) c) (n + 1) xs) (h1x : ∀ u ∈ xs, u.oneCell' = true) (hn : n ≤ 1000) (ys : List Value) (hys : ys = xs.drop 2) :
    Calls Try.prog 64 #[.slice (some ⟨g, 0, none⟩) (n + 1) c, .int .i64 0, .int .i64 1] w (DelPost base w g n c ys) := by
  have Hys := Lib.hid hys
  clear hys
  rcases hown.2 with ⟨h0, _⟩ | ⟨g', c', cur, he, hbg, hg, hnc, hcm, hcs, ht⟩
  · cases h0
  cases he
  clear hown
  have hc2 : c ≤ 9223372036854775807 := by have := hcm; unfold maxLen at this; omega
  have hxl : xs.length = (n + 1) * 2 := by rw [← ht]; simp; omega
  have hglt : g < w.heap.size := (Array.getElem?_eq_some_iff.1 hg).1
  have hsl3 : ∀ W, (Instr.slice 86 (.slice (some ⟨g, 0, none⟩) (n + 1) c) (some (.int .i64 0)) (some (.int .i64 1)) (some (.int .i64 ((n : Int) + 1)))).run Try.prog W = .ok (.slice (some ⟨g, 0, none⟩) 1 (n + 1)) W := by
    intro W
    have h1 : (n : Int) + 1 ≤ (c : Int) := by omega
    have h2 : ((n : Int) + 1).toNat = n + 1 := by omega
    have h3 : (0 : Int) ≤ (n : Int) + 1 := by omega
    have h4 : (1 : Int) ≤ (n : Int) + 1 := by omega
    go_simp
  have hto := fr_to g (n + 1) c 0 (by omega)
  obtain ⟨a2, hfr, ha2⟩ := fr_from g (n + 1) c 1 (by omega) hnc
  rw [show ((0 : Nat) : Int) = 0 from rfl] at hto
  rw [show ((1 : Nat) : Int) = 1 from rfl, Nat.add_sub_cancel] at hfr
  go_enter Try.func64, Try.ntmps64
  go_wp2_with fail
  refine WS.wp_region_seq (Fr (One g) w) [] [(0, true), (1, true), (2, true), (3, true), (4, true), (5, true), (6, false), (7, true)] (by kernel_rfl) (by kernel_rfl) (fun c d v a w h => by cases d <;> exact h) ((Fr.refl _ _).drew) ?_
  simp only [WS.pick, List.getElem?_toArray, List.getElem?_cons_succ, List.getElem?_cons_zero]
  repeat (first | (refine WS.wpL_skip rfl ?_; try simp only [Act.put, List.setIfInBounds_toArray, List.set_cons_zero, List.set_cons_succ]) | (refine WS.wpL_q ?_ rfl ?_ ?_; rotate_left 1; (focus (intro w' hw'; clear hw'; go_simp; (try with_reducible rfl); done)); try simp only [Act.put, List.setIfInBounds_toArray, List.set_cons_zero, List.set_cons_succ]))
  have hsrc : ∀ j u, (xs.drop 2)[j]? = some u → w.cell? (⟨g, 2 + j, none⟩) = some u := fun j u hu => by
    rw [cell_of_row w g _ cur _ _ hg]
    rw [List.getElem?_drop, ← ht, List.getElem?_take] at hu
    split at hu
    · simpa using hu
    · cases hu
  have hdl : (xs.drop 2).length = n * 2 := by rw [List.length_drop, hxl]; omega
  obtain ⟨ht0, i0, z, hinf, hz, hsz, hbz, hzs, hs0⟩ := elFrames'
  have happ : ∃ w1, (Builtin.append_ #[86, 86] 86 #[.slice (some ⟨g, 0, none⟩) 0 c, .slice a2 n (c - 1)]).run Try.prog w.drew = .ok (.slice (some ⟨g, 0, none⟩) n c) w1 ∧ w1.heap[g]? = some (.cells (put cur.toList 0 (xs.drop 2)).toArray 97 (0, 0)) ∧ Fr (One g) w w1 := by
    have h0 : 0 * i0.size + (xs.drop 2).length ≤ cur.size := by rw [hdl]; omega
    by_cases hc1 : 1 < c
    · have := ha2 hc1
      subst this
      have hr := run_append_room (P := Try.prog) w.drew 86 86 97 i0 Try.underlying86 hinf g 0 c cur hg ⟨g, 1 * 2, none⟩ n (c - 1) (xs.drop 2) (by rw [hdl, hsz]) (fun j u hu => by rw [Addr.add_mid]; exact hsrc j u hu) (fun u hu => h1x u (List.mem_of_mem_drop hu)) (by omega) h0
      rw [Nat.zero_mul, Nat.zero_add] at hr
      exact ⟨_, hr, setRow_own (w := w.drew) hg, Fr.ofDrew (Fr.setRow0 (w := w.drew) hg)⟩
    · have hn0 : n = 0 := by omega
      subst hn0
      have hx0 : xs.drop 2 = [] := List.eq_nil_of_length_eq_zero (by rw [hdl])
      have hc1 : c = 1 := by omega
      subst hc1
      rw [hx0]
      refine ⟨w.drew, ?_, ?_, (Fr.refl _ _).drew⟩
      · cases a2 with
        | none => simp [Builtin.append_, run_underlying ht0, sizeOf, typeInfo, hinf, Builtin.lenOf, Builtin.firstCells, storeCells]
        | some ad => simp [Builtin.append_, run_underlying ht0, sizeOf, typeInfo, hinf, Builtin.lenOf, Builtin.firstCells, storeCells, loadCells, loadCellsFrom]
      · show w.heap[g]? = _
        rw [hg]; simp [put]
  obtain ⟨w1, happ, hw1, hf1⟩ := happ
  refine WS.wpL_e rfl (fun K hK => ?_)
  refine Lib.wp_append_run w.drew (.tmp 22) (.tmp 25) 86 86 rfl _ _ rfl rfl _ _ happ ?_
  refine hK _ _ (fun _ => hf1) ?_
  clear hK K
  try simp only [Act.put, List.setIfInBounds_toArray, List.set_cons_zero, List.set_cons_succ]
  repeat (first | (refine WS.wpL_skip rfl ?_; try simp only [Act.put, List.setIfInBounds_toArray, List.set_cons_zero, List.set_cons_succ]) | (refine WS.wpL_q ?_ rfl ?_ ?_; rotate_left 1; (focus (intro w' hw'; clear hw'; go_simp; (try with_reducible rfl); done)); try simp only [Act.put, List.setIfInBounds_toArray, List.set_cons_zero, List.set_cons_succ]))
  refine WS.wpL_nil ?_
  have hsl4 : ∀ W, (Instr.slice 86 (.slice (some ⟨g, 0, none⟩) n c) (some (.int .i64 (n : Int))) (some (.int .i64 ((n : Int) + 1))) none).run Try.prog W = .ok (.slice (some ⟨g, n * 2, none⟩) 1 (c - n)) W := by
    intro W
    have h1 : (n : Int) + 1 ≤ (c : Int) := by omega
    have h2 : ((n : Int) + 1).toNat = n + 1 := by omega
    have h3 : (0 : Int) ≤ (n : Int) + 1 := by omega
    have h5 : ¬ c = n := by omega
    have h4 : (n : Int) ≤ (n : Int) + 1 := by omega
    go_simp
  have hcl := run_clear w1 0 g (n * 2) (c - n) _ 97 hw1 (by simp only [List.size_toArray]; rw [put_length (by rw [hdl]; simp; omega)]; simp only [Array.length_toList]; omega)
  have hf2 := Fr.setRow0 (new := (put (put cur.toList 0 (xs.drop 2)).toArray.toList (n * 2) [.int .u64 0, nilS]).toArray) hw1
  have Hw2 := Lib.hid (setRow_own (new := (put (put cur.toList 0 (xs.drop 2)).toArray.toList (n * 2) [.int .u64 0, nilS]).toArray) hw1)
  generalize w1.setRow g (put (put cur.toList 0 (xs.drop 2)).toArray.toList (n * 2) [.int .u64 0, nilS]).toArray = w2 at *
  have Hdl := Lib.hid hdl
  have Ht := Lib.hid ht
  have Hcs := Lib.hid hcs
  have Hxl := Lib.hid hxl
  clear hdl ht hcs hxl hw1 hg happ hsrc hinf hz hsz hbz hzs hs0 ht0
  go_wp2_with fail
  go_ret
  have hcs := Hcs.out
  have hdl := Hdl.out
  have hz2 : ([.int .u64 0, nilS] : List Value).length = 2 := rfl
  have hL : (n + 1) * 2 ≤ cur.toList.length := by simp; omega
  have hfit1 : 0 + (xs.drop 2).length ≤ cur.toList.length := by rw [hdl]; simp; omega
  have hd := del_front Ht.out (by omega) hL ([.int .u64 0, nilS] : List Value) hz2
  rw [Nat.add_sub_cancel] at hd
  refine ⟨rfl, ⟨by rw [Hys.out]; exact hdl, .inr ⟨g, c, _, rfl, hbg, Hw2.out, by omega, hcm, ?_, ?_⟩⟩, hf1.trans hf2⟩
  · show (put (put cur.toList 0 (xs.drop 2)) (n * 2) [.int .u64 0, nilS]).length = _
    rw [put_length (by rw [put_length hfit1, hz2]; omega), put_length hfit1]
    simpa using hcs
  · rw [Hys.out]
    exact hd
end Go.Proofs.Ytplgmcpglbpghaa
