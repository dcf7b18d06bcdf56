/- Part 21 of the proof: Ya2, Ya3, Yw6, WFork. -/
import Derived.Test.YtplgmcpglbpghaaM20
import Derived.Test.YtplgmcpglbpghaaM19
import Derived.Test.YtplgmcpglbpghaaM01
set_option linter.all false
set_option linter.unusedVariables false
set_option linter.unusedSimpArgs false

/- act: nothing, a tick, a reload. -/
namespace Go.Proofs.Ytplgmcpglbpghaa
open Go.RowKit

theorem flatMap_filter {α β : Type} (p : α → Bool) (f : α → List β) : ∀ l : List α, (l.filter p).flatMap f = l.flatMap fun x => if p x = true then f x else []
  | [] => rfl
  | a :: l => by
    rw [List.filter_cons, List.flatMap_cons]
    split
    · rw [List.flatMap_cons, flatMap_filter p f l]
    · rw [flatMap_filter p f l]; rfl
theorem WD.tick_eq (d : WD) (a : Nat) : (d.endD a).tick = d.tickOuts a := by
  unfold EndD.tick EndD.tickTo WD.tickOuts
  rw [flatMap_filter]
  show (List.range d.hosts).flatMap _ = _
  unfold List.flatMap
  congr 1
  refine List.map_congr_left fun x hx => ?_
  have hx : x < d.hosts := by simpa using hx
  by_cases hxa : x = a
  · simp [EndD.has, WD.endD, hxa]
  · simp [EndD.has, WD.endD, hxa, hx]

set_option maxRecDepth 100000 in
set_option maxHeartbeats 4000000 in
theorem act_none (B : Nat) (w : World) (q : Nat) (d : WD) (F : Nat → Prop) (x : ActD) (ba : Option Addr) (bc : Nat) (h : WorldAt B w q d F) (hR : Reg B w F) (hB : B ≤ w.heap.size) (hok : d.Ok)
    (k1 : (x.kind == 1) = false) (k2 : (x.kind == 2) = false) (k3 : (x.kind == 3) = false) (k4 : (x.kind == 4) = false) (k5 : (x.kind == 5) = false) :
    Calls Try.prog 14 #[.pointer (some ⟨q, 0, none⟩), .agg (actCells x (.slice ba x.body.length bc)).toArray] w fun e w' => e = .returned (.tuple #[]) ∧ WPost B w q F d w' := by
  have hfa := aroundD_lt x.a (show 0 < d.hosts from hok.h1)
  have hfb := aroundD_lt x.b (show 0 < d.hosts from hok.h1)
  have hra := fun W => f_around2 W x.a d.hosts hok.h1 (by have := hok.h16; omega)
  have hrb := fun W => f_around2 W x.b d.hosts hok.h1 (by have := hok.h16; omega)
  have hW := ActW.mk' h hR x (.slice ba x.body.length bc)
  have h16 := hok.h16
  obtain ⟨hq00, g, gc, hg00, hc20⟩ := h.head hok.h1
  have Hra := Lib.hid hra
  have Hrb := Lib.hid hrb
  have HW := Lib.hid hW
  clear hra hrb hW h
  go_enter Try.func14, Try.ntmps14
  go_wp2_with fail
  generalize w.alloc (.cells (actCells x (.slice ba x.body.length bc)).toArray 35) = W at *
  have hW := HW.out
  have hc2 : W.cell? ⟨q, 2, none⟩ = _ := (hW.fr.cell hq00 (fun h => h) 2).trans hc20
  have c0 := hW.c0
  have c1 := hW.c1
  have c2 := hW.c2
  have c3 := hW.c3
  have c4 := hW.c4
  have c5 := hW.c5
  have hbl : w.heap.size < W.heap.size := by have := hW.size; omega
  have hq0 : q < W.heap.size := by omega
  have hg0 : g < W.heap.size := by omega
  have hBW : B ≤ W.heap.size := by omega
  clear hW hR hc20
  go_wp2_with fail
  refine WS.wp_region_seq (Fr No W) [] [(0, true), (1, true), (2, true), (4, true), (5, true), (6, true), (3, false), (7, false), (8, true), (9, true)] (by kernel_rfl) (by kernel_rfl) (fun c d v a w h => by cases d <;> exact h) ((Fr.refl _ _).drew) ?_
  simp only [WS.pick, List.getElem?_toArray, List.getElem?_cons_succ, List.getElem?_cons_zero]
  repeat (first | (refine WS.wpL_skip rfl ?_; try simp only [Act.put, List.setIfInBounds_toArray, List.set_cons_zero, List.set_cons_succ]) | (refine WS.wpL_q ?_ rfl ?_ ?_; rotate_left 1; (focus (intro w' hw'; have hrr' := hw'.rules; obtain ⟨hrc', _⟩ := hrr'; clear hw'; go_simp; (try with_reducible rfl); done)); try simp only [Act.put, List.setIfInBounds_toArray, List.set_cons_zero, List.set_cons_succ]))
  refine WS.wpL_e rfl (fun K hK => ?_)
  go_simp
  refine (Hra.out W.drew).mono ?_
  rintro en w' ⟨rfl, rfl⟩
  refine hK _ _ (fun _ => (Fr.refl _ _).drew) ?_
  clear hK K
  try simp only [Act.put, List.setIfInBounds_toArray, List.set_cons_zero, List.set_cons_succ]
  repeat (first | (refine WS.wpL_skip rfl ?_; try simp only [Act.put, List.setIfInBounds_toArray, List.set_cons_zero, List.set_cons_succ]) | (refine WS.wpL_q ?_ rfl ?_ ?_; rotate_left 1; (focus (intro w' hw'; have hrr' := hw'.rules; obtain ⟨hrc', _⟩ := hrr'; clear hw'; go_simp; (try with_reducible rfl); done)); try simp only [Act.put, List.setIfInBounds_toArray, List.set_cons_zero, List.set_cons_succ]))
  refine WS.wpL_e rfl (fun K hK => ?_)
  go_simp
  refine (Hrb.out W.drew).mono ?_
  rintro en w' ⟨rfl, rfl⟩
  refine hK _ _ (fun _ => (Fr.refl _ _).drew) ?_
  clear hK K
  try simp only [Act.put, List.setIfInBounds_toArray, List.set_cons_zero, List.set_cons_succ]
  repeat (first | (refine WS.wpL_skip rfl ?_; try simp only [Act.put, List.setIfInBounds_toArray, List.set_cons_zero, List.set_cons_succ]) | (refine WS.wpL_q ?_ rfl ?_ ?_; rotate_left 1; (focus (intro w' hw'; have hrr' := hw'.rules; obtain ⟨hrc', _⟩ := hrr'; clear hw'; go_simp; (try with_reducible rfl); done)); try simp only [Act.put, List.setIfInBounds_toArray, List.set_cons_zero, List.set_cons_succ]))
  refine WS.wpL_nil ?_
  go_wp2_with fail
  go_end0
  exact ⟨rfl, (WPost.same HW.out.at_ HW.out.reg ((Fr.refl No W).drew)).boxed HW.out.fr⟩

theorem WorldAt.endCell {B : Nat} {w : World} {q : Nat} {d : WD} {F : Nat → Prop} {own : Nat → Tag} {v : WV} (h : WorldX B w q d F own v) (h1 : 1 ≤ d.hosts) {a : Nat} (ha : a < d.hosts) {g gc : Nat} (hc : w.cell? ⟨q, 2, none⟩ = some (.slice (some ⟨g, 0, none⟩) d.hosts gc)) :
    w.cell? ⟨g, a, none⟩ = some (.pointer (some ⟨v.ea a, 0, none⟩)) ∧ v.ve = .slice (some ⟨g, 0, none⟩) d.hosts gc := by
  obtain ⟨hq, ⟨_, _, h2, _, _, _, _⟩, _⟩ := h.cells
  obtain ⟨he1, _⟩ := h.ends (fun h => h)
  obtain ⟨g', gc', hve, _, hg, hgc⟩ := row_cells he1 h1
  rw [h2] at hc
  have hc' : v.ve = .slice (some ⟨g, 0, none⟩) d.hosts gc := by simpa using hc
  rw [hve] at hc'
  cases hc'
  exact ⟨hgc a _ (ptrs_get ha), hve⟩

set_option maxRecDepth 100000 in
set_option maxHeartbeats 4000000 in
theorem act_tick (B : Nat) (w : World) (q : Nat) (d : WD) (F : Nat → Prop) (x : ActD) (ba : Option Addr) (bc : Nat) (h : WorldAt B w q d F) (hR : Reg B w F) (hB : B ≤ w.heap.size) (hok : d.Ok) (hlen : d.bag.length ≤ 3000)
    (k1 : (x.kind == 1) = false) (k2 : (x.kind == 2) = false) (k3 : (x.kind == 3) = false) (k4 : (x.kind == 4) = true) :
    Calls Try.prog 14 #[.pointer (some ⟨q, 0, none⟩), .agg (actCells x (.slice ba x.body.length bc)).toArray] w fun e w' => e = .returned (.tuple #[]) ∧ WPost B w q F (d.tick (aroundD x.a d.hosts)) w' := by
  have hfa := aroundD_lt x.a (show 0 < d.hosts from hok.h1)
  have hfb := aroundD_lt x.b (show 0 < d.hosts from hok.h1)
  have hra := fun W => f_around2 W x.a d.hosts hok.h1 (by have := hok.h16; omega)
  have hrb := fun W => f_around2 W x.b d.hosts hok.h1 (by have := hok.h16; omega)
  have hW := ActW.mk' h hR x (.slice ba x.body.length bc)
  have h16 := hok.h16
  obtain ⟨hq00, g, gc, hg00, hc20⟩ := h.head hok.h1
  have Hra := Lib.hid hra
  have Hrb := Lib.hid hrb
  have HW := Lib.hid hW
  clear hra hrb hW h
  go_enter Try.func14, Try.ntmps14
  go_wp2_with fail
  generalize w.alloc (.cells (actCells x (.slice ba x.body.length bc)).toArray 35) = W at *
  have hW := HW.out
  have hc2 : W.cell? ⟨q, 2, none⟩ = _ := (hW.fr.cell hq00 (fun h => h) 2).trans hc20
  have c0 := hW.c0
  have c1 := hW.c1
  have c2 := hW.c2
  have c3 := hW.c3
  have c4 := hW.c4
  have c5 := hW.c5
  have hbl : w.heap.size < W.heap.size := by have := hW.size; omega
  have hq0 : q < W.heap.size := by omega
  have hg0 : g < W.heap.size := by omega
  have hBW : B ≤ W.heap.size := by omega
  clear hW hR hc20
  obtain ⟨own, wv, hX⟩ := HW.out.at_
  obtain ⟨hga, _⟩ := WorldAt.endCell hX hok.h1 hfa hc2
  have hlta : (aroundD x.a d.hosts : Int) < (d.hosts : Int) := by omega
  have htick := f_tick B W.drew (wv.ea (aroundD x.a d.hosts)) (d.endD (aroundD x.a d.hosts)) _ ((hX.en _ hfa (fun h => h)).fr0 ((Fr.refl No W).drew)) (hok.endD hfa) hBW
  have Htick := Lib.hid htick
  have HX := Lib.hid hX
  clear htick hX
  go_wp2_with fail
  refine WS.wp_region_seq (Fr No W) [] [(0, true), (1, true), (2, true), (4, true), (5, true), (6, true), (3, false), (7, false), (8, true), (9, true)] (by kernel_rfl) (by kernel_rfl) (fun c d v a w h => by cases d <;> exact h) ((Fr.refl _ _).drew) ?_
  simp only [WS.pick, List.getElem?_toArray, List.getElem?_cons_succ, List.getElem?_cons_zero]
  repeat (first | (refine WS.wpL_skip rfl ?_; try simp only [Act.put, List.setIfInBounds_toArray, List.set_cons_zero, List.set_cons_succ]) | (refine WS.wpL_q ?_ rfl ?_ ?_; rotate_left 1; (focus (intro w' hw'; have hrr' := hw'.rules; obtain ⟨hrc', _⟩ := hrr'; clear hw'; go_simp; (try with_reducible rfl); done)); try simp only [Act.put, List.setIfInBounds_toArray, List.set_cons_zero, List.set_cons_succ]))
  refine WS.wpL_e rfl (fun K hK => ?_)
  go_simp
  refine (Hra.out W.drew).mono ?_
  rintro en w' ⟨rfl, rfl⟩
  refine hK _ _ (fun _ => (Fr.refl _ _).drew) ?_
  clear hK K
  try simp only [Act.put, List.setIfInBounds_toArray, List.set_cons_zero, List.set_cons_succ]
  repeat (first | (refine WS.wpL_skip rfl ?_; try simp only [Act.put, List.setIfInBounds_toArray, List.set_cons_zero, List.set_cons_succ]) | (refine WS.wpL_q ?_ rfl ?_ ?_; rotate_left 1; (focus (intro w' hw'; have hrr' := hw'.rules; obtain ⟨hrc', _⟩ := hrr'; clear hw'; go_simp; (try with_reducible rfl); done)); try simp only [Act.put, List.setIfInBounds_toArray, List.set_cons_zero, List.set_cons_succ]))
  refine WS.wpL_e rfl (fun K hK => ?_)
  go_simp
  refine (Hrb.out W.drew).mono ?_
  rintro en w' ⟨rfl, rfl⟩
  refine hK _ _ (fun _ => (Fr.refl _ _).drew) ?_
  clear hK K
  try simp only [Act.put, List.setIfInBounds_toArray, List.set_cons_zero, List.set_cons_succ]
  repeat (first | (refine WS.wpL_skip rfl ?_; try simp only [Act.put, List.setIfInBounds_toArray, List.set_cons_zero, List.set_cons_succ]) | (refine WS.wpL_q ?_ rfl ?_ ?_; rotate_left 1; (focus (intro w' hw'; have hrr' := hw'.rules; obtain ⟨hrc', _⟩ := hrr'; clear hw'; go_simp; (try with_reducible rfl); done)); try simp only [Act.put, List.setIfInBounds_toArray, List.set_cons_zero, List.set_cons_succ]))
  refine WS.wpL_nil ?_
  go_wp2_with (go_at_call 25; refine Htick.out.mono ?_; rintro en w2 ⟨v2, rfl, ho2, hf2⟩)
  have hf2' : Fr No W w2 := hf2.ofDrew
  have hpost := f_post B w2 q d F (aroundD x.a d.hosts) v2 _ ⟨own, wv, HX.out.fr0 hf2'⟩ (HW.out.reg.fr hf2') (Nat.le_trans hBW hf2'.size) (OutsOwn.outs ho2) (fun o ho => by
    rw [WD.tick_eq] at ho
    obtain ⟨b, hb, hba, i, _, _, rfl⟩ := mem_tickOuts ho
    have := (hok.peer _ b hfa hb (Ne.symm hba)).2.1
    show 0 ≤ (d.ps (aroundD x.a d.hosts) b).to ∧ (d.ps (aroundD x.a d.hosts) b).to < 256
    rw [this]; omega) (by
    have := (hok.endD hfa).tick_len d.hosts (Nat.le_refl _)
    have h2 : (d.endD (aroundD x.a d.hosts)).tick.length ≤ 16 * d.hosts := this
    omega) (by omega)
  refine hpost.mono ?_
  rintro en w3 ⟨rfl, F', p1, p2, p3, p4⟩
  go_wp2_with fail
  go_end0
  rw [WD.tick_eq] at p1
  exact ⟨rfl, WPost.boxed ⟨F', p1, p2, (hf2'.mono (fun _ _ h => h.elim)).trans p3, fun b hb => (p4 b hb).imp id (fun h => Nat.le_trans hf2'.size h)⟩ HW.out.fr⟩
end Go.Proofs.Ytplgmcpglbpghaa

/- act: a reload. -/
namespace Go.Proofs.Ytplgmcpglbpghaa
open Go.RowKit

theorem WD.Ok.endReg {d : WD} (h : d.Ok) {a : Nat} (ha : a < d.hosts) : (d.endD a).Reg d.queue d.window := ⟨h.endD ha, fun b hb hne => ⟨(h.peer a b ha hb (Ne.symm hne)).2.2.1, (h.peer a b ha hb (Ne.symm hne)).2.2.2⟩⟩
theorem WD.Ok.fitsI {d : WD} (h : d.Ok) {a : Nat} (ha : a < d.hosts) : Go.Proofs.Ytplgmcpglbpghaa.fitsI a d.hosts d.queue d.window = true := by
  have h1 := h.h1; have h2 := h.h16; have h3 := h.q1; have h4 := h.q16; have h5 := h.w1; have h6 := h.wq
  exact decide_eq_true ⟨by omega, by omega, by omega, by omega, by omega, by omega, by omega⟩

/-- Load of a told state: the same end, new. -/
theorem f_reload (B : Nat) (w : World) (me queue window : Nat) (v : Value) (e : EndD) (G : Nat → Prop) (hB : B ≤ w.heap.size) (hme : e.self = me) (hreg : e.Reg queue window) (hf : Go.Proofs.Ytplgmcpglbpghaa.fitsI me e.hosts queue window = true) (hv : StateG B G w v e.state) (hG : ∀ b, G b → b < w.heap.size) :
    Calls Try.prog 35 #[.int .u8 me, .int .i64 e.hosts, .int .i64 queue, .int .i64 window, .agg #[v]] w fun en w' => ∃ a F, en = .returned (.tuple #[.pointer (some ⟨a, 0, none⟩), .int .i64 0]) ∧ EndAt B w' a e F ∧ Reg B w' F ∧ (∀ b, F b → w.heap.size ≤ b) ∧ Fr No w w' := by
  refine (f_load B G w me e.hosts queue window v e.state hB hf hv hG (EndD.state_wf hreg.ok) (by rw [EndD.state_len]; have := hreg.ok.h16; omega)).mono ?_
  intro en w' hp
  unfold LoadPost at hp
  rw [if_pos ⟨EndD.state_len e, by rw [← hme]; exact hreg.loadB⟩] at hp
  obtain ⟨a, F, h1, ⟨r, q, own, h2⟩, h3, h4, h5⟩ := hp
  exact ⟨a, F, h1, ⟨r, q, own, h2.congr hme rfl (fun x hx hne => (hreg.loadPeer hx (by rw [hme]; exact hne)).symm)⟩, h3, h4, h5⟩

set_option maxRecDepth 100000 in
set_option maxHeartbeats 4000000 in
theorem act_reload (B : Nat) (w : World) (q : Nat) (d : WD) (F : Nat → Prop) (x : ActD) (ba : Option Addr) (bc : Nat) (h : WorldAt B w q d F) (hR : Reg B w F) (hB : B ≤ w.heap.size) (hok : d.Ok)
    (k1 : (x.kind == 1) = false) (k2 : (x.kind == 2) = false) (k3 : (x.kind == 3) = false) (k4 : (x.kind == 4) = false) (k5 : (x.kind == 5) = true) :
    Calls Try.prog 14 #[.pointer (some ⟨q, 0, none⟩), .agg (actCells x (.slice ba x.body.length bc)).toArray] w fun e w' => e = .returned (.tuple #[]) ∧ WPost B w q F d w' := by
  have hfa := aroundD_lt x.a (show 0 < d.hosts from hok.h1)
  have hfb := aroundD_lt x.b (show 0 < d.hosts from hok.h1)
  have hra := fun W => f_around2 W x.a d.hosts hok.h1 (by have := hok.h16; omega)
  have hrb := fun W => f_around2 W x.b d.hosts hok.h1 (by have := hok.h16; omega)
  have hW := ActW.mk' h hR x (.slice ba x.body.length bc)
  have h16 := hok.h16
  obtain ⟨hq00, g, gc, hg00, hc20⟩ := h.head hok.h1
  have Hra := Lib.hid hra
  have Hrb := Lib.hid hrb
  have HW := Lib.hid hW
  clear hra hrb hW h
  go_enter Try.func14, Try.ntmps14
  go_wp2_with fail
  generalize w.alloc (.cells (actCells x (.slice ba x.body.length bc)).toArray 35) = W at *
  have hW := HW.out
  have hc2 : W.cell? ⟨q, 2, none⟩ = _ := (hW.fr.cell hq00 (fun h => h) 2).trans hc20
  have c0 := hW.c0
  have c1 := hW.c1
  have c2 := hW.c2
  have c3 := hW.c3
  have c4 := hW.c4
  have c5 := hW.c5
  have hbl : w.heap.size < W.heap.size := by have := hW.size; omega
  have hq0 : q < W.heap.size := by omega
  have hg0 : g < W.heap.size := by omega
  have hBW : B ≤ W.heap.size := by omega
  clear hW hR hc20
  obtain ⟨own, wv, hX⟩ := HW.out.at_
  obtain ⟨hga, hve⟩ := WorldAt.endCell hX hok.h1 hfa hc2
  have hlta : (aroundD x.a d.hosts : Int) < (d.hosts : Int) := by omega
  have e8 : IntKind.u8.wrap (aroundD x.a d.hosts : Int) = aroundD x.a d.hosts := by rw [IntKind.wrap_u8]; omega
  obtain ⟨_, ⟨hq0c, hq1c, _, _, _, _, _⟩, _⟩ := hX.cells
  have hgF := ((hX.ends (fun h => h)).2 g (by rw [hve]; rfl))
  have hzg : ∀ o, W.frozen? ⟨g, o, none⟩ = false := fun o => by
    obtain ⟨_, h2⟩ := (hX.ends (fun h => h)).1
    rcases h2 with ⟨h0, _⟩ | ⟨g', cap, cur, he, _, hg, _⟩
    · rw [hve] at h0; cases h0
    · rw [hve] at he; cases he
      simp [World.frozen?, hg]
  have HX := Lib.hid hX
  have Hve := Lib.hid hve
  clear hX hve
  go_wp2_with fail
  refine WS.wp_region_seq (Fr No W) [] [(0, true), (1, true), (2, true), (4, true), (5, true), (6, true), (3, false), (7, false), (8, true), (9, true)] (by kernel_rfl) (by kernel_rfl) (fun c d v a w h => by cases d <;> exact h) ((Fr.refl _ _).drew) ?_
  simp only [WS.pick, List.getElem?_toArray, List.getElem?_cons_succ, List.getElem?_cons_zero]
  repeat (first | (refine WS.wpL_skip rfl ?_; try simp only [Act.put, List.setIfInBounds_toArray, List.set_cons_zero, List.set_cons_succ]) | (refine WS.wpL_q ?_ rfl ?_ ?_; rotate_left 1; (focus (intro w' hw'; have hrr' := hw'.rules; obtain ⟨hrc', _⟩ := hrr'; clear hw'; go_simp; (try with_reducible rfl); done)); try simp only [Act.put, List.setIfInBounds_toArray, List.set_cons_zero, List.set_cons_succ]))
  refine WS.wpL_e rfl (fun K hK => ?_)
  go_simp
  refine (Hra.out W.drew).mono ?_
  rintro en w' ⟨rfl, rfl⟩
  refine hK _ _ (fun _ => (Fr.refl _ _).drew) ?_
  clear hK K
  try simp only [Act.put, List.setIfInBounds_toArray, List.set_cons_zero, List.set_cons_succ]
  repeat (first | (refine WS.wpL_skip rfl ?_; try simp only [Act.put, List.setIfInBounds_toArray, List.set_cons_zero, List.set_cons_succ]) | (refine WS.wpL_q ?_ rfl ?_ ?_; rotate_left 1; (focus (intro w' hw'; have hrr' := hw'.rules; obtain ⟨hrc', _⟩ := hrr'; clear hw'; go_simp; (try with_reducible rfl); done)); try simp only [Act.put, List.setIfInBounds_toArray, List.set_cons_zero, List.set_cons_succ]))
  refine WS.wpL_e rfl (fun K hK => ?_)
  go_simp
  refine (Hrb.out W.drew).mono ?_
  rintro en w' ⟨rfl, rfl⟩
  refine hK _ _ (fun _ => (Fr.refl _ _).drew) ?_
  clear hK K
  try simp only [Act.put, List.setIfInBounds_toArray, List.set_cons_zero, List.set_cons_succ]
  repeat (first | (refine WS.wpL_skip rfl ?_; try simp only [Act.put, List.setIfInBounds_toArray, List.set_cons_zero, List.set_cons_succ]) | (refine WS.wpL_q ?_ rfl ?_ ?_; rotate_left 1; (focus (intro w' hw'; have hrr' := hw'.rules; obtain ⟨hrc', _⟩ := hrr'; clear hw'; go_simp; (try with_reducible rfl); done)); try simp only [Act.put, List.setIfInBounds_toArray, List.set_cons_zero, List.set_cons_succ]))
  refine WS.wpL_nil ?_
  go_wp2_with fail
  have hstate := f_state B W.drew.drew (wv.ea (aroundD x.a d.hosts)) (d.endD (aroundD x.a d.hosts)) _ ((HX.out.en _ hfa (fun h => h)).fr0 ((Fr.refl No W).drew.drew)) (hok.endD hfa) hBW
  have Hstate := Lib.hid hstate
  clear hstate
  refine WS.wp_region_seq (Fr No W) [] [(0, true), (1, true), (2, true), (3, true), (4, true), (5, true), (6, true), (7, true), (8, true), (9, true), (10, true), (11, true), (12, true), (13, true), (14, true), (15, true), (16, true), (17, true), (18, false), (19, false), (20, true), (21, true), (22, true), (23, true), (24, true)] (by kernel_rfl) (by kernel_rfl) (fun c d v a w h => by cases d <;> exact h) ((Fr.refl _ _).drew.drew) ?_
  simp only [WS.pick, List.getElem?_toArray, List.getElem?_cons_succ, List.getElem?_cons_zero]
  repeat (first | (refine WS.wpL_skip rfl ?_; try simp only [Act.put, List.setIfInBounds_toArray, List.set_cons_zero, List.set_cons_succ]) | (refine WS.wpL_q ?_ rfl ?_ ?_; rotate_left 1; (focus (intro w' hw'; have hrr' := hw'.rules; obtain ⟨hrc', _⟩ := hrr'; clear hw'; go_simp; (try with_reducible rfl); done)); try simp only [Act.put, List.setIfInBounds_toArray, List.set_cons_zero, List.set_cons_succ]))
  refine WS.wpL_e rfl (fun K hK => ?_)
  go_simp
  refine Hstate.out.mono ?_
  rintro en w2 ⟨v2, rfl, hs2, hf2⟩
  have hf2' : Fr No W w2 := hf2.ofDrew.ofDrew
  refine hK _ _ (fun _ => hf2') ?_
  clear hK K
  try simp only [Act.put, List.setIfInBounds_toArray, List.set_cons_zero, List.set_cons_succ]
  repeat (first | (refine WS.wpL_skip rfl ?_; try simp only [Act.put, List.setIfInBounds_toArray, List.set_cons_zero, List.set_cons_succ]) | (refine WS.wpL_q ?_ rfl ?_ ?_; rotate_left 1; (focus (intro w' hw'; have hrr' := hw'.rules; obtain ⟨hrc', _⟩ := hrr'; clear hw'; go_simp; (try with_reducible rfl); done)); try simp only [Act.put, List.setIfInBounds_toArray, List.set_cons_zero, List.set_cons_succ]))
  refine WS.wpL_e rfl (fun K hK => ?_)
  go_simp
  refine (f_reload B w2 (aroundD x.a d.hosts) d.queue d.window v2 (d.endD (aroundD x.a d.hosts)) _ (Nat.le_trans hBW hf2'.size) rfl (hok.endReg hfa) (hok.fitsI hfa) hs2 (fun b hb => hb.2)).mono ?_
  rintro en w3 ⟨na, Fn, rfl, hE, hRn, hbn, hf3⟩
  have hf3' := hf2'.then0 hf3
  refine hK _ _ (fun _ => hf3') ?_
  clear hK K
  try simp only [Act.put, List.setIfInBounds_toArray, List.set_cons_zero, List.set_cons_succ]
  repeat (first | (refine WS.wpL_skip rfl ?_; try simp only [Act.put, List.setIfInBounds_toArray, List.set_cons_zero, List.set_cons_succ]) | (refine WS.wpL_q ?_ rfl ?_ ?_; rotate_left 1; (focus (intro w' hw'; have hrr' := hw'.rules; obtain ⟨hrc', _⟩ := hrr'; clear hw'; go_simp; (try with_reducible rfl); done)); try simp only [Act.put, List.setIfInBounds_toArray, List.set_cons_zero, List.set_cons_succ]))
  refine WS.wpL_nil ?_
  have hq3 := hf3'.cell hq0 (fun h => h) 2
  rw [hc2] at hq3
  have hg3 := hf3'.cell hg0 (fun h => h) (aroundD x.a d.hosts)
  rw [hga] at hg3
  have hz3 := fun o => (hf3'.froz hg0 (fun h => h) o).trans (hzg o)
  have hsz3 := hf3'.size
  have hq4 : q < w3.heap.size := by omega
  have hg4 : g < w3.heap.size := by omega
  clear hc2 hga hzg
  go_wp2_with (go_at_call 19; refine (f_num2 w3 0).mono ?_; rintro en w' ⟨rfl, rfl⟩)
  go_end0
  have hRW := HW.out.reg
  obtain ⟨F', n1, n2, n3, n4⟩ := (HX.out.fr0 hf3').newEnd (hRW.fr hf3') (base := w2.heap.size) (fun k hk => by have := hRW.lt k hk; have := hf2'.size; omega) hfa hE hRn hbn Hve.out rfl
  exact ⟨rfl, WPost.boxed ⟨F', n1, n2, (hf3'.mono (fun _ _ h => h.elim)).trans n3, fun b hb => (n4 b hb).imp id (fun h => by have := hf2'.size; omega)⟩ HW.out.fr⟩
end Go.Proofs.Ytplgmcpglbpghaa

/- same. -/
namespace Go.Proofs.Ytplgmcpglbpghaa
open Go.RowKit

/-- v reads as the bytes l. -/
def RdB (w : World) (v : Value) (l : List Int) : Prop := l.length ≤ 140737488355328 ∧ ∃ a c, v = .slice a l.length c ∧ (l ≠ [] → ∃ b o, a = some ⟨b, o, none⟩ ∧ w.rangeAt b o (u8s l))
theorem Bytes.rd {B : Nat} {w : World} {v : Value} {l : List Int} (h : Bytes B w v l) : RdB w v l := by
  obtain ⟨hl, _, a, c, hv, _, _, h3⟩ := h
  exact ⟨hl, a, c, hv, fun hne => by obtain ⟨b, o, h1, _, h2⟩ := h3 (by simpa [u8s] using hne); exact ⟨b, o, h1, h2⟩⟩
theorem RdB.at {w : World} {a : Option Addr} {c : Nat} {l : List Int} (h : RdB w (.slice a l.length c) l) {k : Nat} {x : Int} (hl : l[k]? = some x) : ∃ b o, a = some ⟨b, o, none⟩ ∧ b < w.heap.size ∧ w.cell? ⟨b, o + k, none⟩ = some (.int .u8 x) := by
  obtain ⟨_, a', c', he, hne⟩ := h
  cases he
  obtain ⟨b, o, rfl, hr⟩ := hne (fun h => by rw [h] at hl; simp at hl)
  have := hr k (.int .u8 x) (by simp [u8s, hl])
  exact ⟨b, o, rfl, World.block_lt_of_cell? w _ this, this⟩

set_option maxRecDepth 100000 in
set_option maxHeartbeats 1000000 in
theorem f_same (w : World) (v1 v2 : Value) (l1 l2 : List Int) (h1 : RdB w v1 l1) (h2 : RdB w v2 l2) :
    Calls Try.prog 37 #[v1, v2] w fun e w' => e = .returned (.bool (decide (l1 = l2))) ∧ Fr No w w' := by
  have hl1 := h1.1
  have hl2 := h2.1
  obtain ⟨a1, c1, rfl⟩ : ∃ a c, v1 = .slice a l1.length c := let ⟨_, a, c, hv, _⟩ := h1; ⟨a, c, hv⟩
  obtain ⟨a2, c2, rfl⟩ : ∃ a c, v2 = .slice a l2.length c := let ⟨_, a, c, hv, _⟩ := h2; ⟨a, c, hv⟩
  have H1 := Lib.hid h1
  have H2 := Lib.hid h2
  clear h1 h2
  by_cases hlen : l1.length = l2.length
  · have hlb : ((l1.length : Int) != (l2.length : Int)) = false := by rw [bne_eq_false_iff_eq]; omega
    have Hlen := Lib.hid hlen
    clear hlen
    go_enter Try.func37, Try.ntmps37
    go_wp2
    go_loopw [5] (fun i wr => ∃ k : Nat, k ≤ l1.length ∧ i = .int .i64 k ∧ Hid (l1.take k = l2.take k) ∧ Fr No w wr) (fun i _ => 140737488355328 - (intOf i).toNat)
    case atStart => exact ⟨0, Nat.zero_le _, rfl, Lib.hid (by simp), Fr.refl _ _⟩
    case round =>
      obtain ⟨k, hk, rfl, HT, hfw⟩ := hrel
      by_cases hlt : k < l1.length
      · have hk1 : (k : Int) < (l1.length : Int) := by omega
        have hk2 : (k : Int) < (l2.length : Int) := by have := Hlen.out; omega
        obtain ⟨x, hx⟩ : ∃ x, l1[k]? = some x := ⟨_, List.getElem?_eq_getElem hlt⟩
        obtain ⟨y, hy⟩ : ∃ y, l2[k]? = some y := ⟨_, List.getElem?_eq_getElem (by have := Hlen.out; omega)⟩
        obtain ⟨b1, o1, rfl, hb1, hc1⟩ := H1.out.at hx
        obtain ⟨b2, o2, rfl, hb2, hc2⟩ := H2.out.at hy
        have hc1' : wr.cell? ⟨b1, o1 + k, none⟩ = some (.int .u8 x) := by rw [hfw.cell hb1 (fun h => h)]; exact hc1
        have hc2' : wr.cell? ⟨b2, o2 + k, none⟩ = some (.int .u8 y) := by rw [hfw.cell hb2 (fun h => h)]; exact hc2
        have hb1' : b1 < wr.heap.size := Nat.lt_of_lt_of_le hb1 hfw.size
        have hb2' : b2 < wr.heap.size := Nat.lt_of_lt_of_le hb2 hfw.size
        have Hx := Lib.hid hx
        have Hy := Lib.hid hy
        clear hx hy hc1 hc2
        by_cases hxy : x = y
        · have hxb : (x != y) = false := by rw [bne_eq_false_iff_eq]; exact hxy
          have Hxy := Lib.hid hxy
          clear hxy
          go_wp2_with fail
          refine WS.wp_region_seq (Fr No wr) [] [(0, true), (1, true), (2, true), (3, true), (4, true), (5, true), (6, true), (7, true), (8, true)] (by kernel_rfl) (by kernel_rfl) (fun c d v a w h => by cases d <;> exact h) ((Fr.refl _ _).drew) ?_
          simp only [WS.pick, List.getElem?_toArray, List.getElem?_cons_succ, List.getElem?_cons_zero]
          repeat (first | (refine WS.wpL_skip rfl ?_; try simp only [Act.put, List.setIfInBounds_toArray, List.set_cons_zero, List.set_cons_succ]) | (refine WS.wpL_q ?_ rfl ?_ ?_; rotate_left 1; (focus (intro w' hw'; have hrr' := hw'.rules; obtain ⟨hrc', _⟩ := hrr'; clear hw'; go_simp; (try with_reducible rfl); done)); try simp only [Act.put, List.setIfInBounds_toArray, List.set_cons_zero, List.set_cons_succ]))
          refine WS.wpL_nil ?_
          go_wp2_with fail
          refine ⟨⟨k + 1, by omega, by go_num, Lib.hid ?_, hfw.drew⟩, by simp [intOf]; omega⟩
          rw [List.take_add_one, List.take_add_one, HT.out, Hx.out, Hy.out, Hxy.out]
        · have hxb : (x != y) = true := by rw [bne_iff_ne]; exact hxy
          have hne : l1 ≠ l2 := fun e => by
            have := Hx.out
            rw [e, Hy.out] at this
            cases this; exact hxy rfl
          have Hne := Lib.hid hne
          clear hxy hne
          go_wp2_with fail
          refine WS.wp_region_seq (Fr No wr) [] [(0, true), (1, true), (2, true), (3, true), (4, true), (5, true), (6, true), (7, true), (8, true)] (by kernel_rfl) (by kernel_rfl) (fun c d v a w h => by cases d <;> exact h) ((Fr.refl _ _).drew) ?_
          simp only [WS.pick, List.getElem?_toArray, List.getElem?_cons_succ, List.getElem?_cons_zero]
          repeat (first | (refine WS.wpL_skip rfl ?_; try simp only [Act.put, List.setIfInBounds_toArray, List.set_cons_zero, List.set_cons_succ]) | (refine WS.wpL_q ?_ rfl ?_ ?_; rotate_left 1; (focus (intro w' hw'; have hrr' := hw'.rules; obtain ⟨hrc', _⟩ := hrr'; clear hw'; go_simp; (try with_reducible rfl); done)); try simp only [Act.put, List.setIfInBounds_toArray, List.set_cons_zero, List.set_cons_succ]))
          refine WS.wpL_nil ?_
          go_wp2_with fail
          go_ret
          exact ⟨ret_b (decide_eq_false Hne.out).symm, hfw.drew⟩
      · have hkn : k = l1.length := by omega
        have hk1 : ¬ (k : Int) < (l1.length : Int) := by omega
        have heq : l1 = l2 := by
          have := HT.out
          rw [hkn, List.take_length] at this
          have h2 : l2.take l1.length = l2 := List.take_of_length_le (by have := Hlen.out; omega)
          rw [h2] at this; exact this
        have Heq := Lib.hid heq
        clear hkn heq
        go_wp2_with fail
        go_ret
        exact ⟨ret_b (decide_eq_true Heq.out).symm, hfw⟩
  · have hlb : ((l1.length : Int) != (l2.length : Int)) = true := by rw [bne_iff_ne]; omega
    have hne : l1 ≠ l2 := fun e => hlen (by rw [e])
    have Hne := Lib.hid hne
    clear hlen hne
    go_enter Try.func37, Try.ntmps37
    go_wp2
    go_ret
    exact ⟨ret_b (decide_eq_false Hne.out).symm, Fr.refl _ _⟩
end Go.Proofs.Ytplgmcpglbpghaa

/- A region that draws, where two effects are ready at once behind some quiet operations: both orders are walked. -/
namespace Go.Proofs.Ytplgmcpglbpghaa.WS
open Go
section
variable {P : Program} {ops : Array Oper} {Q : Exit → Act → World → Prop}

def chkF (ops : Array Oper) (late : List Nat) (i : Nat) (l1 : List (Nat × Bool)) (j : Nat) (l2 : List (Nat × Bool)) : List (Nat × Bool) → Array Bool → Bool
  | [], L => (Region.ready .any ops L == [i, j]) && (l1.length == l2.length) && (early late L || (late.contains i && late.contains j)) && chk ops late l1 (L.setIfInBounds i true) && chk ops late l2 (L.setIfInBounds j true)
  | (k, true) :: rest, L => early late L && !late.contains k && Region.free .any ops L k && (Region.ready .any ops L).contains k &&
      (late.all fun e => waits ops ops.size e k) && chkF ops late i l1 j l2 rest (L.setIfInBounds k true)
  | (k, false) :: rest, L => (Region.ready .any ops L == [k]) && (early late L || late.contains k) && chkF ops late i l1 j l2 rest (L.setIfInBounds k true)

/-- The walk up to the fork, operations written out. -/
def wpF (P : Program) (ops : Array Oper) (Q : Exit → Act → World → Prop) (S : World → Prop) (late : List Nat) (l1 l2 : List (Nat × Bool × Oper)) : List (Nat × Bool × Oper) → Act → World → Prop
  | [], a, w => wpL P ops Q S late l1 a w ∧ wpL P ops Q S late l2 a w
  | (_, true, o) :: rest, a, w => ∃ v, YieldsIf P ops S o v a ∧ wpF P ops Q S late l1 l2 rest (a.put o.dst v) w
  | (i, false, o) :: rest, a, w => if Region.wanted o (yielded ops a.tmps) then o.wp P a w (fun a' w' => (i ∉ late → S w') ∧ wpF P ops Q S late l1 l2 rest a' w') Q
      else (i ∉ late → S w) ∧ wpF P ops Q S late l1 l2 rest (a.put o.dst undef) w

theorem wpOp_of_wpL {S : World → Prop} {late : List Nat} {i : Nat} {l : List (Nat × Bool)} {a : Act} {w : World} (hc : ((i, false) :: l).all (fun x => (ops[x.1]?).isSome) = true) (h : wpL P ops Q S late (pick ops ((i, false) :: l)) a w) :
    wpOp P ops Q i (fun a' w' => (i ∉ late → S w') ∧ wpS P ops Q S late l a' w') a w := wpS_of_wpL ((i, false) :: l) a w hc h

theorem wpG_of_wpF {S : World → Prop} {late : List Nat} {i j : Nat} {l1 l2 : List (Nat × Bool)} (hns : Region.noSelect ops = true) (hQ : ∀ c (d : Option Tmp) (v : Value) a w, Q (.panic c) (a.put d v) w → Q (.panic c) a w)
    (h1 : ((i, false) :: l1).all (fun x => (ops[x.1]?).isSome) = true) (h2 : ((j, false) :: l2).all (fun x => (ops[x.1]?).isSome) = true) :
    ∀ (l : List (Nat × Bool)) (L : Array Bool) (a : Act) (w : World), (l.all fun x => (ops[x.1]?).isSome) = true → Closed ops L → chkF ops late i l1 j l2 l L = true → (early late L = true → S w) → wpF P ops Q S late (pick ops ((i, false) :: l1)) (pick ops ((j, false) :: l2)) (pick ops l) a w → wpG P ops Q S late (l.length + (l1.length + 1)) L a w
  | [], L, a, w, _, hC, hc, hS, h => by
    simp only [chkF, Bool.and_eq_true, beq_iff_eq, Bool.or_eq_true, List.contains_eq_mem, decide_eq_true_eq] at hc
    obtain ⟨⟨⟨⟨hr, hl⟩, hE⟩, hc1⟩, hc2⟩ := hc
    have hlt : ∀ k, k ∈ Region.ready .any ops L → k < L.size := fun k hk => by
      obtain ⟨hju, oj, hoj, _⟩ := mem_ready.1 hk
      rcases Nat.lt_or_ge k L.size with h' | h'
      · exact h'
      · simp [Array.getElem?_eq_none h'] at hju
    have hset : ∀ k w', k ∈ Region.ready .any ops L → (k ∉ late → S w') → early late (L.setIfInBounds k true) = true → S w' := fun k w' hk h' he => h' fun hl' => by
      have h2 := List.all_eq_true.1 he k hl'
      have := hlt k hk
      simp [this] at h2
    rw [show ([] : List (Nat × Bool)).length + (l1.length + 1) = l1.length + 1 by simp]
    refine ⟨fun h0 => (by rw [hr] at h0; cases h0), fun k hk => ?_⟩
    have hk' := hk
    rw [hr] at hk'
    rcases List.mem_cons.1 hk' with rfl | hk'
    · exact wpOp_mono (fun a' w' h' => ⟨hset k w' hk h'.1, wpG_of_wpS hns hQ l1 _ a' w' (hC.set hk) hc1 (hset k w' hk h'.1) h'.2⟩) (wpOp_of_wpL h1 h.1)
    · rw [List.mem_singleton] at hk'
      subst hk'
      rw [hl]
      exact wpOp_mono (fun a' w' h' => ⟨hset k w' hk h'.1, wpG_of_wpS hns hQ l2 _ a' w' (hC.set hk) hc2 (hset k w' hk h'.1) h'.2⟩) (wpOp_of_wpL h2 h.2)
  | (k, true) :: rest, L, a, w, ha, hC, hc, hS, h => by
    simp only [chkF, Bool.and_eq_true, Bool.not_eq_true', List.contains_eq_mem, decide_eq_true_eq, decide_eq_false_iff_not] at hc
    obtain ⟨⟨⟨⟨⟨hE, hil⟩, hf⟩, hr⟩, hl⟩, hrest⟩ := hc
    simp only [List.all_cons, Bool.and_eq_true] at ha
    obtain ⟨o, ho⟩ := Option.isSome_iff_exists.1 ha.1
    simp only [pick, ho] at h
    obtain ⟨v, hy, hk⟩ := h
    rw [show ((k, true) :: rest).length + (l1.length + 1) = rest.length + (l1.length + 1) + 1 by simp; omega]
    exact wpG_first ho hns (fun c a w => hQ c o.dst v a w) (fun e he => List.all_eq_true.1 hl e he) hil _ L a w hC hE (Region.free_spec ho hf) hr hy (hS hE) (wpG_of_wpF hns hQ h1 h2 rest _ _ w ha.2 (hC.set hr) hrest (fun _ => hS hE) hk)
  | (k, false) :: rest, L, a, w, ha, hC, hc, hS, h => by
    simp only [chkF, Bool.and_eq_true, beq_iff_eq, Bool.or_eq_true, List.contains_eq_mem, decide_eq_true_eq] at hc
    obtain ⟨⟨hr, hE⟩, hrest⟩ := hc
    simp only [List.all_cons, Bool.and_eq_true] at ha
    obtain ⟨o, ho⟩ := Option.isSome_iff_exists.1 ha.1
    simp only [pick, ho] at h
    have hkr : k ∈ Region.ready .any ops L := by rw [hr]; simp
    obtain ⟨hju, oj, hoj, _⟩ := mem_ready.1 hkr
    have hlt : k < L.size := by
      rcases Nat.lt_or_ge k L.size with h' | h'
      · exact h'
      · simp [Array.getElem?_eq_none h'] at hju
    rw [show ((k, false) :: rest).length + (l1.length + 1) = rest.length + (l1.length + 1) + 1 by simp; omega]
    refine ⟨fun h0 => (by rw [hr] at h0; cases h0), fun k' hk' => ?_⟩
    rw [hr, List.mem_singleton] at hk'
    subst hk'
    have hop : wpOp P ops Q k' (fun a' w' => (k' ∉ late → S w') ∧ wpF P ops Q S late (pick ops ((i, false) :: l1)) (pick ops ((j, false) :: l2)) (pick ops rest) a' w') a w := by
      simp only [wpF] at h
      simp only [wpOp, ho]
      split
      · rename_i hw
        rw [if_pos hw] at h
        exact .inl h
      · rename_i hw
        rw [if_neg hw] at h
        exact h
    refine wpOp_mono (fun a' w' h' => ?_) hop
    have hS' : early late (L.setIfInBounds k' true) = true → S w' := fun he => h'.1 fun hl' => by
      have h2 := List.all_eq_true.1 he k' hl'
      simp [hlt] at h2
    exact ⟨hS', wpG_of_wpF hns hQ h1 h2 rest _ a' w' ha.2 (hC.set hkr) hrest hS' h'.2⟩

theorem wp_region_fork {id : Nat} {a : Act} {w : World} (S : World → Prop) (late : List Nat) (l : List (Nat × Bool)) (i : Nat) (l1 : List (Nat × Bool)) (j : Nat) (l2 : List (Nat × Bool)) (hm : P.follows .mixedOrders = true)
    (hc : (Region.noSelect ops && (l.length + (l1.length + 1) == ops.size) && (l.all fun x => (ops[x.1]?).isSome) && ((i, false) :: l1).all (fun x => (ops[x.1]?).isSome) && ((j, false) :: l2).all (fun x => (ops[x.1]?).isSome) && chkF ops late i l1 j l2 l (Array.replicate ops.size false)) = true)
    (hQ : ∀ c (d : Option Tmp) (v : Value) a w, Q (.panic c) (a.put d v) w → Q (.panic c) a w)
    (hS : S w.drew) (h : wpF P ops Q S late (pick ops ((i, false) :: l1)) (pick ops ((j, false) :: l2)) (pick ops l) a w.drew) : (Code.region id ops true).wp P Q a w := by
  simp only [Bool.and_eq_true, beq_iff_eq] at hc
  obtain ⟨⟨⟨⟨⟨c1, c2⟩, c3⟩, c4⟩, c5⟩, c6⟩ := hc
  refine wp_region_any hm ?_
  have := wpG_of_wpF (P := P) c1 hQ c4 c5 l _ a w.drew c3 (fun j oj _ hl => by rw [getD_replicate] at hl; cases hl) c6 (fun _ => hS) h
  rw [c2] at this
  exact wpAny_of_wpG _ _ _ _ this

variable {l1 l2 : List (Nat × Bool × Oper)}
theorem wpF_fork {S : World → Prop} {late : List Nat} {a : Act} {w : World} (h1 : wpL P ops Q S late l1 a w) (h2 : wpL P ops Q S late l2 a w) : wpF P ops Q S late l1 l2 [] a w := ⟨h1, h2⟩
theorem wpF_q {S : World → Prop} {late : List Nat} {a : Act} {w : World} {i : Nat} {o : Oper} {rest : List (Nat × Bool × Oper)} (v : Value)
    (hg : Region.wanted o (yielded ops a.tmps) = true) (hy : ∀ w, S w → (execOp a.eval o).run P w = .ok (.value v) w)
    (h : wpF P ops Q S late l1 l2 rest (a.put o.dst v) w) : wpF P ops Q S late l1 l2 ((i, true, o) :: rest) a w := ⟨v, .inl ⟨hg, hy⟩, h⟩
theorem wpF_skip {S : World → Prop} {late : List Nat} {a : Act} {w : World} {i : Nat} {o : Oper} {rest : List (Nat × Bool × Oper)}
    (hg : Region.wanted o (yielded ops a.tmps) = false) (h : wpF P ops Q S late l1 l2 rest (a.put o.dst undef) w) : wpF P ops Q S late l1 l2 ((i, true, o) :: rest) a w := ⟨undef, .inr ⟨hg, rfl⟩, h⟩
theorem wpF_e {S : World → Prop} {late : List Nat} {a : Act} {w : World} {i : Nat} {o : Oper} {rest : List (Nat × Bool × Oper)}
    (hg : Region.wanted o (yielded ops a.tmps) = true)
    (h : ∀ K : Act → World → Prop, (∀ a w, (i ∉ late → S w) → wpF P ops Q S late l1 l2 rest a w → K a w) → o.wp P a w K Q) : wpF P ops Q S late l1 l2 ((i, false, o) :: rest) a w := by
  simp only [wpF, hg, if_true]
  exact h _ fun a w h1 h2 => ⟨h1, h2⟩
end
end Go.Proofs.Ytplgmcpglbpghaa.WS
