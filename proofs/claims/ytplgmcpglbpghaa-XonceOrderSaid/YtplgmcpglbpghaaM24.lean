/- Part 24 of the proof: Ya4. -/
import Derived.Test.YtplgmcpglbpghaaM21
import Derived.Test.YtplgmcpglbpghaaM23
set_option linter.all false
set_option linter.unusedVariables false
set_option linter.unusedSimpArgs false

/- act: a mail comes, or is lost. -/
namespace Go.Proofs.Ytplgmcpglbpghaa
open Go.RowKit

set_option maxRecDepth 100000 in
set_option maxHeartbeats 4000000 in
theorem act_empty (B : Nat) (w : World) (q : Nat) (d : WD) (F : Nat → Prop) (x : ActD) (ba : Option Addr) (bc : Nat) (h : WorldAt B w q d F) (hR : Reg B w F) (hB : B ≤ w.heap.size) (hok : d.Ok) (hbag : d.bag = [])
    (k1 : (x.kind == 1) = false) (k23 : (x.kind == 2) = true ∨ ((x.kind == 2) = false ∧ (x.kind == 3) = true)) :
    Calls Try.prog 14 #[.pointer (some ⟨q, 0, none⟩), .agg (actCells x (.slice ba x.body.length bc)).toArray] w fun e w' => e = .returned (.tuple #[]) ∧ WPost B w q F d w' := by
  have Hbag := Lib.hid hbag
  clear hbag
  have hfa := aroundD_lt x.a (show 0 < d.hosts from hok.h1)
  have hfb := aroundD_lt x.b (show 0 < d.hosts from hok.h1)
  have hra := fun W => f_around2 W x.a d.hosts hok.h1 (by have := hok.h16; omega)
  have hrb := fun W => f_around2 W x.b d.hosts hok.h1 (by have := hok.h16; omega)
  have hW := ActW.mk' h hR x (.slice ba x.body.length bc)
  have h16 := hok.h16
  obtain ⟨hq00, g, gc, hg00, hc20⟩ := h.head hok.h1
  have Hra := Lib.hid hra
  have Hrb := Lib.hid hrb
  have HW := Lib.hid hW
  clear hra hrb hW h
  go_enter Try.func14, Try.ntmps14
  go_wp2_with fail
  generalize w.alloc (.cells (actCells x (.slice ba x.body.length bc)).toArray 35) = W at *
  have hW := HW.out
  have hc2 : W.cell? ⟨q, 2, none⟩ = _ := (hW.fr.cell hq00 (fun h => h) 2).trans hc20
  have c0 := hW.c0
  have c1 := hW.c1
  have c2 := hW.c2
  have c3 := hW.c3
  have c4 := hW.c4
  have c5 := hW.c5
  have hbl : w.heap.size < W.heap.size := by have := hW.size; omega
  have hq0 : q < W.heap.size := by omega
  have hg0 : g < W.heap.size := by omega
  have hBW : B ≤ W.heap.size := by omega
  clear hW hR hc20
  obtain ⟨own, wv, hX⟩ := HW.out.at_
  obtain ⟨_, ⟨_, _, _, hc3, _, _, _⟩, _⟩ := hX.cells
  obtain ⟨na, nc, hvb⟩ := (hX.bag (fun h => h)).1.form
  rw [hvb, Hbag.out] at hc3
  have hc3' : W.cell? ⟨q, 3, none⟩ = some (.slice na 0 nc) := hc3
  clear hX hc3
  rcases k23 with k2 | ⟨k2, k3⟩
  all_goals
    go_wp2_with fail
    refine WS.wp_region_seq (Fr No W) [] [(0, true), (1, true), (2, true), (4, true), (5, true), (6, true), (3, false), (7, false), (8, true), (9, true)] (by kernel_rfl) (by kernel_rfl) (fun c d v a w h => by cases d <;> exact h) ((Fr.refl _ _).drew) ?_
    simp only [WS.pick, List.getElem?_toArray, List.getElem?_cons_succ, List.getElem?_cons_zero]
    repeat (first | (refine WS.wpL_skip rfl ?_; try simp only [Act.put, List.setIfInBounds_toArray, List.set_cons_zero, List.set_cons_succ]) | (refine WS.wpL_q ?_ rfl ?_ ?_; rotate_left 1; (focus (intro w' hw'; have hrr' := hw'.rules; obtain ⟨hrc', _⟩ := hrr'; clear hw'; go_simp; (try with_reducible rfl); done)); try simp only [Act.put, List.setIfInBounds_toArray, List.set_cons_zero, List.set_cons_succ]))
    refine WS.wpL_e rfl (fun K hK => ?_)
    go_simp
    refine (Hra.out W.drew).mono ?_
    rintro en w' ⟨rfl, rfl⟩
    refine hK _ _ (fun _ => (Fr.refl _ _).drew) ?_
    clear hK K
    try simp only [Act.put, List.setIfInBounds_toArray, List.set_cons_zero, List.set_cons_succ]
    repeat (first | (refine WS.wpL_skip rfl ?_; try simp only [Act.put, List.setIfInBounds_toArray, List.set_cons_zero, List.set_cons_succ]) | (refine WS.wpL_q ?_ rfl ?_ ?_; rotate_left 1; (focus (intro w' hw'; have hrr' := hw'.rules; obtain ⟨hrc', _⟩ := hrr'; clear hw'; go_simp; (try with_reducible rfl); done)); try simp only [Act.put, List.setIfInBounds_toArray, List.set_cons_zero, List.set_cons_succ]))
    refine WS.wpL_e rfl (fun K hK => ?_)
    go_simp
    refine (Hrb.out W.drew).mono ?_
    rintro en w' ⟨rfl, rfl⟩
    refine hK _ _ (fun _ => (Fr.refl _ _).drew) ?_
    clear hK K
    try simp only [Act.put, List.setIfInBounds_toArray, List.set_cons_zero, List.set_cons_succ]
    repeat (first | (refine WS.wpL_skip rfl ?_; try simp only [Act.put, List.setIfInBounds_toArray, List.set_cons_zero, List.set_cons_succ]) | (refine WS.wpL_q ?_ rfl ?_ ?_; rotate_left 1; (focus (intro w' hw'; have hrr' := hw'.rules; obtain ⟨hrc', _⟩ := hrr'; clear hw'; go_simp; (try with_reducible rfl); done)); try simp only [Act.put, List.setIfInBounds_toArray, List.set_cons_zero, List.set_cons_succ]))
    refine WS.wpL_nil ?_
    go_wp2_with fail
    refine bodyPost_ret (results_none rfl _ _ _) rfl ?_
    exact ⟨rfl, (WPost.same HW.out.at_ HW.out.reg ((Fr.refl No W).drew)).boxed HW.out.fr⟩

theorem WPost.step {B : Nat} {w w1 w' : World} {q : Nat} {F F1 : Nat → Prop} {d : WD} (hf : Fr F w w1) (hg : Grew F F1 w) (h : WPost B w1 q F1 d w') : WPost B w q F d w' := by
  obtain ⟨F', h1, h2, h3, h4⟩ := h
  exact ⟨F', h1, h2, hf.grew h3 hg, hg.trans h4 hf.size⟩

set_option maxRecDepth 100000 in
set_option maxHeartbeats 4000000 in
theorem act_lose (B : Nat) (w : World) (q : Nat) (d : WD) (F : Nat → Prop) (x : ActD) (ba : Option Addr) (bc : Nat) (h : WorldAt B w q d F) (hR : Reg B w F) (hB : B ≤ w.heap.size) (hok : d.Ok) (hlen : d.bag.length ≤ 3000) (m : MailD) (hm : d.bag[aroundD x.n d.bag.length]? = some m)
    (k1 : (x.kind == 1) = false) (k2 : (x.kind == 2) = false) (k3 : (x.kind == 3) = true) :
    Calls Try.prog 14 #[.pointer (some ⟨q, 0, none⟩), .agg (actCells x (.slice ba x.body.length bc)).toArray] w fun e w' => e = .returned (.tuple #[]) ∧ WPost B w q F (d.out (aroundD x.n d.bag.length)) w' := by
  have hn0 : 0 < d.bag.length := by have := (List.getElem?_eq_some_iff.1 hm).1; omega
  have hrn := fun W => f_around2 W x.n d.bag.length hn0 (by omega)
  have hnlt := aroundD_lt x.n hn0
  have Hrn := Lib.hid hrn
  have Hm := Lib.hid hm
  have hmo := hok.bag m (List.mem_of_getElem? hm)
  clear hrn hm
  have hfa := aroundD_lt x.a (show 0 < d.hosts from hok.h1)
  have hfb := aroundD_lt x.b (show 0 < d.hosts from hok.h1)
  have hra := fun W => f_around2 W x.a d.hosts hok.h1 (by have := hok.h16; omega)
  have hrb := fun W => f_around2 W x.b d.hosts hok.h1 (by have := hok.h16; omega)
  have hW := ActW.mk' h hR x (.slice ba x.body.length bc)
  have h16 := hok.h16
  obtain ⟨hq00, g, gc, hg00, hc20⟩ := h.head hok.h1
  have Hra := Lib.hid hra
  have Hrb := Lib.hid hrb
  have HW := Lib.hid hW
  clear hra hrb hW h
  go_enter Try.func14, Try.ntmps14
  go_wp2_with fail
  generalize w.alloc (.cells (actCells x (.slice ba x.body.length bc)).toArray 35) = W at *
  have hW := HW.out
  have hc2 : W.cell? ⟨q, 2, none⟩ = _ := (hW.fr.cell hq00 (fun h => h) 2).trans hc20
  have c0 := hW.c0
  have c1 := hW.c1
  have c2 := hW.c2
  have c3 := hW.c3
  have c4 := hW.c4
  have c5 := hW.c5
  have hbl : w.heap.size < W.heap.size := by have := hW.size; omega
  have hq0 : q < W.heap.size := by omega
  have hg0 : g < W.heap.size := by omega
  have hBW : B ≤ W.heap.size := by omega
  clear hW hR hc20
  obtain ⟨own, wv, hX⟩ := HW.out.at_
  obtain ⟨_, ⟨_, _, _, hc3, _, _, _⟩, _⟩ := hX.cells
  obtain ⟨hbg, hbF⟩ := hX.bag (fun h => h)
  obtain ⟨na, nc, hvb⟩ := hbg.form
  rw [hvb] at hc3 hbg
  obtain ⟨mb, pa, pc, hmb, hmlt, _, hmr, hmB⟩ := hbg.at mailCells_len (by omega) Hm.out
  subst hmb
  have hld : ∀ w', Fr No W w' → (Instr.loadAt 47 (.pointer (some ⟨mb, aroundD x.n d.bag.length * 19, none⟩))).run Try.prog w' = .ok (.agg (mailCells m (.slice pa m.out.payload.length pc)).toArray) w' := fun w' hw' =>
    run_loadAt_mid w' mb (aroundD x.n d.bag.length * 19) 47 _ _ (hw'.range (fun h => h) hmr) Try.underlying47 rfl (by kernel_rfl)
  have Hld := Lib.hid hld
  have HX := Lib.hid hX
  have hnl : (aroundD x.n d.bag.length : Int) < (d.bag.length : Int) := by omega
  have hn0' : ((d.bag.length : Int) == 0) = false := by rw [beq_eq_false_iff_ne]; omega
  clear hld hX hmr hbg hbF hvb
  go_wp2_with fail
  refine WS.wp_region_seq (Fr No W) [] [(0, true), (1, true), (2, true), (4, true), (5, true), (6, true), (3, false), (7, false), (8, true), (9, true)] (by kernel_rfl) (by kernel_rfl) (fun c d v a w h => by cases d <;> exact h) ((Fr.refl _ _).drew) ?_
  simp only [WS.pick, List.getElem?_toArray, List.getElem?_cons_succ, List.getElem?_cons_zero]
  repeat (first | (refine WS.wpL_skip rfl ?_; try simp only [Act.put, List.setIfInBounds_toArray, List.set_cons_zero, List.set_cons_succ]) | (refine WS.wpL_q ?_ rfl ?_ ?_; rotate_left 1; (focus (intro w' hw'; have hrr' := hw'.rules; obtain ⟨hrc', _⟩ := hrr'; clear hw'; go_simp; (try with_reducible rfl); done)); try simp only [Act.put, List.setIfInBounds_toArray, List.set_cons_zero, List.set_cons_succ]))
  refine WS.wpL_e rfl (fun K hK => ?_)
  go_simp
  refine (Hra.out W.drew).mono ?_
  rintro en w' ⟨rfl, rfl⟩
  refine hK _ _ (fun _ => (Fr.refl _ _).drew) ?_
  clear hK K
  try simp only [Act.put, List.setIfInBounds_toArray, List.set_cons_zero, List.set_cons_succ]
  repeat (first | (refine WS.wpL_skip rfl ?_; try simp only [Act.put, List.setIfInBounds_toArray, List.set_cons_zero, List.set_cons_succ]) | (refine WS.wpL_q ?_ rfl ?_ ?_; rotate_left 1; (focus (intro w' hw'; have hrr' := hw'.rules; obtain ⟨hrc', _⟩ := hrr'; clear hw'; go_simp; (try with_reducible rfl); done)); try simp only [Act.put, List.setIfInBounds_toArray, List.set_cons_zero, List.set_cons_succ]))
  refine WS.wpL_e rfl (fun K hK => ?_)
  go_simp
  refine (Hrb.out W.drew).mono ?_
  rintro en w' ⟨rfl, rfl⟩
  refine hK _ _ (fun _ => (Fr.refl _ _).drew) ?_
  clear hK K
  try simp only [Act.put, List.setIfInBounds_toArray, List.set_cons_zero, List.set_cons_succ]
  repeat (first | (refine WS.wpL_skip rfl ?_; try simp only [Act.put, List.setIfInBounds_toArray, List.set_cons_zero, List.set_cons_succ]) | (refine WS.wpL_q ?_ rfl ?_ ?_; rotate_left 1; (focus (intro w' hw'; have hrr' := hw'.rules; obtain ⟨hrc', _⟩ := hrr'; clear hw'; go_simp; (try with_reducible rfl); done)); try simp only [Act.put, List.setIfInBounds_toArray, List.set_cons_zero, List.set_cons_succ]))
  refine WS.wpL_nil ?_
  go_wp2_with fail
  refine WS.wp_region_seq (Fr No W) [] [(0, true), (1, true), (2, true), (3, true), (4, true), (5, true), (6, true), (7, false), (8, true)] (by kernel_rfl) (by kernel_rfl) (fun c d v a w h => by cases d <;> exact h) ((Fr.refl _ _).drew.drew) ?_
  simp only [WS.pick, List.getElem?_toArray, List.getElem?_cons_succ, List.getElem?_cons_zero]
  repeat (first | (refine WS.wpL_skip rfl ?_; try simp only [Act.put, List.setIfInBounds_toArray, List.set_cons_zero, List.set_cons_succ]) | (refine WS.wpL_q ?_ rfl ?_ ?_; rotate_left 1; (focus (intro w' hw'; have hrr' := hw'.rules; obtain ⟨hrc', _⟩ := hrr'; clear hw'; go_simp; (try with_reducible rfl); done)); try simp only [Act.put, List.setIfInBounds_toArray, List.set_cons_zero, List.set_cons_succ]))
  refine WS.wpL_e rfl (fun K hK => ?_)
  go_simp
  refine (Hrn.out W.drew.drew).mono ?_
  rintro en w' ⟨rfl, rfl⟩
  refine hK _ _ (fun _ => (Fr.refl _ _).drew.drew) ?_
  clear hK K
  try simp only [Act.put, List.setIfInBounds_toArray, List.set_cons_zero, List.set_cons_succ]
  repeat (first | (refine WS.wpL_skip rfl ?_; try simp only [Act.put, List.setIfInBounds_toArray, List.set_cons_zero, List.set_cons_succ]) | (refine WS.wpL_q ?_ rfl ?_ ?_; rotate_left 1; (focus (intro w' hw'; have hrr' := hw'.rules; obtain ⟨hrc', _⟩ := hrr'; clear hw'; go_simp; (try with_reducible rfl); done)); try simp only [Act.put, List.setIfInBounds_toArray, List.set_cons_zero, List.set_cons_succ]))
  refine WS.wpL_nil ?_
  have hld := Hld.out W.drew.drew ((Fr.refl _ _).drew.drew)
  have hzc : (mailCells m (.slice pa m.out.payload.length pc)).toArray.size = 19 := rfl
  obtain ⟨W2, hW2⟩ : ∃ W2, W2 = ((W.alloc (.cells #[.int .i64 0, .int .i64 0, .int .u8 0, .int .u64 0, .int .u64 0, .int .u64 0, .slice none 0 0, .slice none 0 0, .bool false, .int .u8 0, .int .u8 0, .int .u8 0, .int .u32 0, .int .u32 0, .int .u64 0, .int .u8 0, .slice none 0 0, .slice none 0 0, .slice none 0 0] 47)).drew.drew).setCells W.heap.size 0 (mailCells m (.slice pa m.out.payload.length pc)).toArray.toList := ⟨_, rfl⟩
  have hf2 : Fr No W W2 := by rw [hW2]; exact Fr.setCells (.inl (Nat.le_refl _)) _ _ (((Fr.alloc0 W _).drew).drew)
  have hv2 : W2.heap[W.heap.size]? = some (.cells (mailCells m (.slice pa m.out.payload.length pc)).toArray 47 (0, 0)) := by
    rw [hW2]
    exact heap_setAll (cs := mailCells m (.slice pa m.out.payload.length pc)) (heap_alloc_new W _) rfl
  have HW2 := Lib.hid hW2
  have hs2 := hf2.size
  have hlv : W.heap.size < W2.heap.size := (Array.getElem?_eq_some_iff.1 hv2).1
  have hbl2 : w.heap.size < W2.heap.size := by omega
  have d0 : W2.cell? ⟨w.heap.size, 0, none⟩ = _ := (hf2.cell hbl (fun h => h) 0).trans c0
  have d4 : W2.cell? ⟨w.heap.size, 4, none⟩ = _ := (hf2.cell hbl (fun h => h) 4).trans c4
  have Hv2 := Lib.hid hv2
  clear hW2 hv2
  have hX2 := HX.out.fr0 hf2
  have hR2 := HW.out.reg.fr hf2
  have hnF0 := HW.out.nF
  have hnFv : ¬ F W.heap.size := fun e => by have := HW.out.reg.lt _ e; omega
  have hB2 := Nat.le_trans hBW hs2
  have hmB2 := hmB.fr hf2 FreeT.no
  have hout := f_out B W2 q d F (aroundD x.n d.bag.length) ⟨own, wv, hX2⟩ hR2 hB2 (by omega) (by omega)
  have Hout := Lib.hid hout
  clear hout hX2
  go_wp2_with (first | (refine wpList_ld rfl 47 (.tmp 59) rfl rfl hld ?_) | (refine wpList_store_mid rfl 47 (.tmp 8) (.tmp 60) rfl W.heap.size 0 (mailCells m (.slice pa m.out.payload.length pc)).toArray rfl rfl (there_drew (there_drew (by rw [hzc]; exact there_alloc))) (by kernel_rfl) (by simp [Value.oneCell', mailCells, msgCells]) ?_; rw [← HW2.out]) | (go_at_call 26; refine Hout.out.mono ?_; rintro en w4 ⟨rfl, F4, p1, p2, p3, p4⟩; have hr4 := fun o => p3.cell hbl2 hnF0 o; have hl4 := Nat.lt_of_lt_of_le hbl2 p3.size))
  go_end0
  exact ⟨rfl, WPost.boxed ⟨F4, p1, p2, (hf2.mono (fun _ _ h => h.elim)).trans p3, fun b hb => (p4 b hb).imp id (fun h => Nat.le_trans hf2.size h)⟩ HW.out.fr⟩

set_option maxRecDepth 100000 in
set_option maxHeartbeats 4000000 in
theorem act_keep (B : Nat) (w : World) (q : Nat) (d : WD) (F : Nat → Prop) (x : ActD) (ba : Option Addr) (bc : Nat) (h : WorldAt B w q d F) (hR : Reg B w F) (hB : B ≤ w.heap.size) (hok : d.Ok) (hlen : d.bag.length ≤ 3000) (htk : ∀ a b, (d.took a b).length ≤ 4398046511104) (m : MailD) (hm : d.bag[aroundD x.n d.bag.length]? = some m)
    (k1 : (x.kind == 1) = false) (k2 : (x.kind == 2) = true) (k3 : (x.kind == 3) = false) (hkeep : x.keep = true) :
    Calls Try.prog 14 #[.pointer (some ⟨q, 0, none⟩), .agg (actCells x (.slice ba x.body.length bc)).toArray] w fun e w' => e = .returned (.tuple #[]) ∧ WPost B w q F (d.come m) w' := by
  have hn0 : 0 < d.bag.length := by have := (List.getElem?_eq_some_iff.1 hm).1; omega
  have hrn := fun W => f_around2 W x.n d.bag.length hn0 (by omega)
  have hnlt := aroundD_lt x.n hn0
  have Hrn := Lib.hid hrn
  have Hm := Lib.hid hm
  have hmo := hok.bag m (List.mem_of_getElem? hm)
  clear hrn hm
  have hfa := aroundD_lt x.a (show 0 < d.hosts from hok.h1)
  have hfb := aroundD_lt x.b (show 0 < d.hosts from hok.h1)
  have hra := fun W => f_around2 W x.a d.hosts hok.h1 (by have := hok.h16; omega)
  have hrb := fun W => f_around2 W x.b d.hosts hok.h1 (by have := hok.h16; omega)
  have hW := ActW.mk' h hR x (.slice ba x.body.length bc)
  have h16 := hok.h16
  obtain ⟨hq00, g, gc, hg00, hc20⟩ := h.head hok.h1
  have Hra := Lib.hid hra
  have Hrb := Lib.hid hrb
  have HW := Lib.hid hW
  clear hra hrb hW h
  go_enter Try.func14, Try.ntmps14
  go_wp2_with fail
  generalize w.alloc (.cells (actCells x (.slice ba x.body.length bc)).toArray 35) = W at *
  have hW := HW.out
  have hc2 : W.cell? ⟨q, 2, none⟩ = _ := (hW.fr.cell hq00 (fun h => h) 2).trans hc20
  have c0 := hW.c0
  have c1 := hW.c1
  have c2 := hW.c2
  have c3 := hW.c3
  have c4 := hW.c4
  have c5 := hW.c5
  have hbl : w.heap.size < W.heap.size := by have := hW.size; omega
  have hq0 : q < W.heap.size := by omega
  have hg0 : g < W.heap.size := by omega
  have hBW : B ≤ W.heap.size := by omega
  clear hW hR hc20
  obtain ⟨own, wv, hX⟩ := HW.out.at_
  obtain ⟨_, ⟨_, _, _, hc3, _, _, _⟩, _⟩ := hX.cells
  obtain ⟨hbg, hbF⟩ := hX.bag (fun h => h)
  obtain ⟨na, nc, hvb⟩ := hbg.form
  rw [hvb] at hc3 hbg
  obtain ⟨mb, pa, pc, hmb, hmlt, _, hmr, hmB⟩ := hbg.at mailCells_len (by omega) Hm.out
  subst hmb
  have hld : ∀ w', Fr No W w' → (Instr.loadAt 47 (.pointer (some ⟨mb, aroundD x.n d.bag.length * 19, none⟩))).run Try.prog w' = .ok (.agg (mailCells m (.slice pa m.out.payload.length pc)).toArray) w' := fun w' hw' =>
    run_loadAt_mid w' mb (aroundD x.n d.bag.length * 19) 47 _ _ (hw'.range (fun h => h) hmr) Try.underlying47 rfl (by kernel_rfl)
  have Hld := Lib.hid hld
  have HX := Lib.hid hX
  have hnl : (aroundD x.n d.bag.length : Int) < (d.bag.length : Int) := by omega
  have hn0' : ((d.bag.length : Int) == 0) = false := by rw [beq_eq_false_iff_ne]; omega
  clear hld hX hmr hbg hbF hvb
  go_wp2_with fail
  refine WS.wp_region_seq (Fr No W) [] [(0, true), (1, true), (2, true), (4, true), (5, true), (6, true), (3, false), (7, false), (8, true), (9, true)] (by kernel_rfl) (by kernel_rfl) (fun c d v a w h => by cases d <;> exact h) ((Fr.refl _ _).drew) ?_
  simp only [WS.pick, List.getElem?_toArray, List.getElem?_cons_succ, List.getElem?_cons_zero]
  repeat (first | (refine WS.wpL_skip rfl ?_; try simp only [Act.put, List.setIfInBounds_toArray, List.set_cons_zero, List.set_cons_succ]) | (refine WS.wpL_q ?_ rfl ?_ ?_; rotate_left 1; (focus (intro w' hw'; have hrr' := hw'.rules; obtain ⟨hrc', _⟩ := hrr'; clear hw'; go_simp; (try with_reducible rfl); done)); try simp only [Act.put, List.setIfInBounds_toArray, List.set_cons_zero, List.set_cons_succ]))
  refine WS.wpL_e rfl (fun K hK => ?_)
  go_simp
  refine (Hra.out W.drew).mono ?_
  rintro en w' ⟨rfl, rfl⟩
  refine hK _ _ (fun _ => (Fr.refl _ _).drew) ?_
  clear hK K
  try simp only [Act.put, List.setIfInBounds_toArray, List.set_cons_zero, List.set_cons_succ]
  repeat (first | (refine WS.wpL_skip rfl ?_; try simp only [Act.put, List.setIfInBounds_toArray, List.set_cons_zero, List.set_cons_succ]) | (refine WS.wpL_q ?_ rfl ?_ ?_; rotate_left 1; (focus (intro w' hw'; have hrr' := hw'.rules; obtain ⟨hrc', _⟩ := hrr'; clear hw'; go_simp; (try with_reducible rfl); done)); try simp only [Act.put, List.setIfInBounds_toArray, List.set_cons_zero, List.set_cons_succ]))
  refine WS.wpL_e rfl (fun K hK => ?_)
  go_simp
  refine (Hrb.out W.drew).mono ?_
  rintro en w' ⟨rfl, rfl⟩
  refine hK _ _ (fun _ => (Fr.refl _ _).drew) ?_
  clear hK K
  try simp only [Act.put, List.setIfInBounds_toArray, List.set_cons_zero, List.set_cons_succ]
  repeat (first | (refine WS.wpL_skip rfl ?_; try simp only [Act.put, List.setIfInBounds_toArray, List.set_cons_zero, List.set_cons_succ]) | (refine WS.wpL_q ?_ rfl ?_ ?_; rotate_left 1; (focus (intro w' hw'; have hrr' := hw'.rules; obtain ⟨hrc', _⟩ := hrr'; clear hw'; go_simp; (try with_reducible rfl); done)); try simp only [Act.put, List.setIfInBounds_toArray, List.set_cons_zero, List.set_cons_succ]))
  refine WS.wpL_nil ?_
  go_wp2_with fail
  refine WS.wp_region_seq (Fr No W) [] [(0, true), (1, true), (2, true), (3, true), (4, true), (5, true), (6, true), (7, false), (8, true)] (by kernel_rfl) (by kernel_rfl) (fun c d v a w h => by cases d <;> exact h) ((Fr.refl _ _).drew.drew) ?_
  simp only [WS.pick, List.getElem?_toArray, List.getElem?_cons_succ, List.getElem?_cons_zero]
  repeat (first | (refine WS.wpL_skip rfl ?_; try simp only [Act.put, List.setIfInBounds_toArray, List.set_cons_zero, List.set_cons_succ]) | (refine WS.wpL_q ?_ rfl ?_ ?_; rotate_left 1; (focus (intro w' hw'; have hrr' := hw'.rules; obtain ⟨hrc', _⟩ := hrr'; clear hw'; go_simp; (try with_reducible rfl); done)); try simp only [Act.put, List.setIfInBounds_toArray, List.set_cons_zero, List.set_cons_succ]))
  refine WS.wpL_e rfl (fun K hK => ?_)
  go_simp
  refine (Hrn.out W.drew.drew).mono ?_
  rintro en w' ⟨rfl, rfl⟩
  refine hK _ _ (fun _ => (Fr.refl _ _).drew.drew) ?_
  clear hK K
  try simp only [Act.put, List.setIfInBounds_toArray, List.set_cons_zero, List.set_cons_succ]
  repeat (first | (refine WS.wpL_skip rfl ?_; try simp only [Act.put, List.setIfInBounds_toArray, List.set_cons_zero, List.set_cons_succ]) | (refine WS.wpL_q ?_ rfl ?_ ?_; rotate_left 1; (focus (intro w' hw'; have hrr' := hw'.rules; obtain ⟨hrc', _⟩ := hrr'; clear hw'; go_simp; (try with_reducible rfl); done)); try simp only [Act.put, List.setIfInBounds_toArray, List.set_cons_zero, List.set_cons_succ]))
  refine WS.wpL_nil ?_
  have hld := Hld.out W.drew.drew ((Fr.refl _ _).drew.drew)
  have hzc : (mailCells m (.slice pa m.out.payload.length pc)).toArray.size = 19 := rfl
  obtain ⟨W2, hW2⟩ : ∃ W2, W2 = ((W.alloc (.cells #[.int .i64 0, .int .i64 0, .int .u8 0, .int .u64 0, .int .u64 0, .int .u64 0, .slice none 0 0, .slice none 0 0, .bool false, .int .u8 0, .int .u8 0, .int .u8 0, .int .u32 0, .int .u32 0, .int .u64 0, .int .u8 0, .slice none 0 0, .slice none 0 0, .slice none 0 0] 47)).drew.drew).setCells W.heap.size 0 (mailCells m (.slice pa m.out.payload.length pc)).toArray.toList := ⟨_, rfl⟩
  have hf2 : Fr No W W2 := by rw [hW2]; exact Fr.setCells (.inl (Nat.le_refl _)) _ _ (((Fr.alloc0 W _).drew).drew)
  have hv2 : W2.heap[W.heap.size]? = some (.cells (mailCells m (.slice pa m.out.payload.length pc)).toArray 47 (0, 0)) := by
    rw [hW2]
    exact heap_setAll (cs := mailCells m (.slice pa m.out.payload.length pc)) (heap_alloc_new W _) rfl
  have HW2 := Lib.hid hW2
  have hs2 := hf2.size
  have hlv : W.heap.size < W2.heap.size := (Array.getElem?_eq_some_iff.1 hv2).1
  have hbl2 : w.heap.size < W2.heap.size := by omega
  have d0 : W2.cell? ⟨w.heap.size, 0, none⟩ = _ := (hf2.cell hbl (fun h => h) 0).trans c0
  have d4 : W2.cell? ⟨w.heap.size, 4, none⟩ = _ := (hf2.cell hbl (fun h => h) 4).trans c4
  have Hv2 := Lib.hid hv2
  clear hW2 hv2
  have hX2 := HX.out.fr0 hf2
  have hR2 := HW.out.reg.fr hf2
  have hnF0 := HW.out.nF
  have hnFv : ¬ F W.heap.size := fun e => by have := HW.out.reg.lt _ e; omega
  have hB2 := Nat.le_trans hBW hs2
  have hmB2 := hmB.fr hf2 FreeT.no
  have hcome := f_wcome B W2 q d F m pa pc ⟨own, wv, hX2⟩ hR2 hB2 hok hmo hmB2 (by omega) htk
  have Hcome := Lib.hid hcome
  have hld2 : (Instr.loadAt 47 (.pointer (some ⟨W.heap.size, 0, none⟩))).run Try.prog W2 = .ok (.agg (mailCells m (.slice pa m.out.payload.length pc)).toArray) W2 :=
    run_loadAt_mid W2 W.heap.size 0 47 _ _ (fun j v hv => by rw [Nat.zero_add, cell_of_row _ _ j _ _ _ Hv2.out]; simpa using hv) Try.underlying47 rfl (by kernel_rfl)
  clear hcome hX2
  go_wp2_with (first | (refine wpList_ld rfl 47 (.tmp 59) rfl rfl hld ?_) | (refine wpList_store_mid rfl 47 (.tmp 8) (.tmp 60) rfl W.heap.size 0 (mailCells m (.slice pa m.out.payload.length pc)).toArray rfl rfl (there_drew (there_drew (by rw [hzc]; exact there_alloc))) (by kernel_rfl) (by simp [Value.oneCell', mailCells, msgCells]) ?_; rw [← HW2.out]) | (refine wpList_ld rfl 47 (.tmp 8) rfl rfl hld2 ?_) | (go_at_call 27; refine Hcome.out.mono ?_; rintro en w4 ⟨rfl, F4, p1, p2, p3, p4⟩))
  go_end0
  exact ⟨rfl, WPost.boxed ⟨F4, p1, p2, (hf2.mono (fun _ _ h => h.elim)).trans p3, fun b hb => (p4 b hb).imp id (fun h => Nat.le_trans hf2.size h)⟩ HW.out.fr⟩

set_option maxRecDepth 100000 in
set_option maxHeartbeats 4000000 in
theorem act_come (B : Nat) (w : World) (q : Nat) (d : WD) (F : Nat → Prop) (x : ActD) (ba : Option Addr) (bc : Nat) (h : WorldAt B w q d F) (hR : Reg B w F) (hB : B ≤ w.heap.size) (hok : d.Ok) (hlen : d.bag.length ≤ 3000) (htk : ∀ a b, (d.took a b).length ≤ 4398046511104) (m : MailD) (hm : d.bag[aroundD x.n d.bag.length]? = some m)
    (k1 : (x.kind == 1) = false) (k2 : (x.kind == 2) = true) (k3 : (x.kind == 3) = false) (hkeep : x.keep = false) :
    Calls Try.prog 14 #[.pointer (some ⟨q, 0, none⟩), .agg (actCells x (.slice ba x.body.length bc)).toArray] w fun e w' => e = .returned (.tuple #[]) ∧ WPost B w q F ((d.out (aroundD x.n d.bag.length)).come m) w' := by
  have hn0 : 0 < d.bag.length := by have := (List.getElem?_eq_some_iff.1 hm).1; omega
  have hrn := fun W => f_around2 W x.n d.bag.length hn0 (by omega)
  have hnlt := aroundD_lt x.n hn0
  have Hrn := Lib.hid hrn
  have Hm := Lib.hid hm
  have hmo := hok.bag m (List.mem_of_getElem? hm)
  clear hrn hm
  have hfa := aroundD_lt x.a (show 0 < d.hosts from hok.h1)
  have hfb := aroundD_lt x.b (show 0 < d.hosts from hok.h1)
  have hra := fun W => f_around2 W x.a d.hosts hok.h1 (by have := hok.h16; omega)
  have hrb := fun W => f_around2 W x.b d.hosts hok.h1 (by have := hok.h16; omega)
  have hW := ActW.mk' h hR x (.slice ba x.body.length bc)
  have h16 := hok.h16
  obtain ⟨hq00, g, gc, hg00, hc20⟩ := h.head hok.h1
  have Hra := Lib.hid hra
  have Hrb := Lib.hid hrb
  have HW := Lib.hid hW
  clear hra hrb hW h
  go_enter Try.func14, Try.ntmps14
  go_wp2_with fail
  generalize w.alloc (.cells (actCells x (.slice ba x.body.length bc)).toArray 35) = W at *
  have hW := HW.out
  have hc2 : W.cell? ⟨q, 2, none⟩ = _ := (hW.fr.cell hq00 (fun h => h) 2).trans hc20
  have c0 := hW.c0
  have c1 := hW.c1
  have c2 := hW.c2
  have c3 := hW.c3
  have c4 := hW.c4
  have c5 := hW.c5
  have hbl : w.heap.size < W.heap.size := by have := hW.size; omega
  have hq0 : q < W.heap.size := by omega
  have hg0 : g < W.heap.size := by omega
  have hBW : B ≤ W.heap.size := by omega
  clear hW hR hc20
  obtain ⟨own, wv, hX⟩ := HW.out.at_
  obtain ⟨_, ⟨_, _, _, hc3, _, _, _⟩, _⟩ := hX.cells
  obtain ⟨hbg, hbF⟩ := hX.bag (fun h => h)
  obtain ⟨na, nc, hvb⟩ := hbg.form
  rw [hvb] at hc3 hbg
  obtain ⟨mb, pa, pc, hmb, hmlt, _, hmr, hmB⟩ := hbg.at mailCells_len (by omega) Hm.out
  subst hmb
  have hld : ∀ w', Fr No W w' → (Instr.loadAt 47 (.pointer (some ⟨mb, aroundD x.n d.bag.length * 19, none⟩))).run Try.prog w' = .ok (.agg (mailCells m (.slice pa m.out.payload.length pc)).toArray) w' := fun w' hw' =>
    run_loadAt_mid w' mb (aroundD x.n d.bag.length * 19) 47 _ _ (hw'.range (fun h => h) hmr) Try.underlying47 rfl (by kernel_rfl)
  have Hld := Lib.hid hld
  have HX := Lib.hid hX
  have hnl : (aroundD x.n d.bag.length : Int) < (d.bag.length : Int) := by omega
  have hn0' : ((d.bag.length : Int) == 0) = false := by rw [beq_eq_false_iff_ne]; omega
  clear hld hX hmr hbg hbF hvb
  go_wp2_with fail
  refine WS.wp_region_seq (Fr No W) [] [(0, true), (1, true), (2, true), (4, true), (5, true), (6, true), (3, false), (7, false), (8, true), (9, true)] (by kernel_rfl) (by kernel_rfl) (fun c d v a w h => by cases d <;> exact h) ((Fr.refl _ _).drew) ?_
  simp only [WS.pick, List.getElem?_toArray, List.getElem?_cons_succ, List.getElem?_cons_zero]
  repeat (first | (refine WS.wpL_skip rfl ?_; try simp only [Act.put, List.setIfInBounds_toArray, List.set_cons_zero, List.set_cons_succ]) | (refine WS.wpL_q ?_ rfl ?_ ?_; rotate_left 1; (focus (intro w' hw'; have hrr' := hw'.rules; obtain ⟨hrc', _⟩ := hrr'; clear hw'; go_simp; (try with_reducible rfl); done)); try simp only [Act.put, List.setIfInBounds_toArray, List.set_cons_zero, List.set_cons_succ]))
  refine WS.wpL_e rfl (fun K hK => ?_)
  go_simp
  refine (Hra.out W.drew).mono ?_
  rintro en w' ⟨rfl, rfl⟩
  refine hK _ _ (fun _ => (Fr.refl _ _).drew) ?_
  clear hK K
  try simp only [Act.put, List.setIfInBounds_toArray, List.set_cons_zero, List.set_cons_succ]
  repeat (first | (refine WS.wpL_skip rfl ?_; try simp only [Act.put, List.setIfInBounds_toArray, List.set_cons_zero, List.set_cons_succ]) | (refine WS.wpL_q ?_ rfl ?_ ?_; rotate_left 1; (focus (intro w' hw'; have hrr' := hw'.rules; obtain ⟨hrc', _⟩ := hrr'; clear hw'; go_simp; (try with_reducible rfl); done)); try simp only [Act.put, List.setIfInBounds_toArray, List.set_cons_zero, List.set_cons_succ]))
  refine WS.wpL_e rfl (fun K hK => ?_)
  go_simp
  refine (Hrb.out W.drew).mono ?_
  rintro en w' ⟨rfl, rfl⟩
  refine hK _ _ (fun _ => (Fr.refl _ _).drew) ?_
  clear hK K
  try simp only [Act.put, List.setIfInBounds_toArray, List.set_cons_zero, List.set_cons_succ]
  repeat (first | (refine WS.wpL_skip rfl ?_; try simp only [Act.put, List.setIfInBounds_toArray, List.set_cons_zero, List.set_cons_succ]) | (refine WS.wpL_q ?_ rfl ?_ ?_; rotate_left 1; (focus (intro w' hw'; have hrr' := hw'.rules; obtain ⟨hrc', _⟩ := hrr'; clear hw'; go_simp; (try with_reducible rfl); done)); try simp only [Act.put, List.setIfInBounds_toArray, List.set_cons_zero, List.set_cons_succ]))
  refine WS.wpL_nil ?_
  go_wp2_with fail
  refine WS.wp_region_seq (Fr No W) [] [(0, true), (1, true), (2, true), (3, true), (4, true), (5, true), (6, true), (7, false), (8, true)] (by kernel_rfl) (by kernel_rfl) (fun c d v a w h => by cases d <;> exact h) ((Fr.refl _ _).drew.drew) ?_
  simp only [WS.pick, List.getElem?_toArray, List.getElem?_cons_succ, List.getElem?_cons_zero]
  repeat (first | (refine WS.wpL_skip rfl ?_; try simp only [Act.put, List.setIfInBounds_toArray, List.set_cons_zero, List.set_cons_succ]) | (refine WS.wpL_q ?_ rfl ?_ ?_; rotate_left 1; (focus (intro w' hw'; have hrr' := hw'.rules; obtain ⟨hrc', _⟩ := hrr'; clear hw'; go_simp; (try with_reducible rfl); done)); try simp only [Act.put, List.setIfInBounds_toArray, List.set_cons_zero, List.set_cons_succ]))
  refine WS.wpL_e rfl (fun K hK => ?_)
  go_simp
  refine (Hrn.out W.drew.drew).mono ?_
  rintro en w' ⟨rfl, rfl⟩
  refine hK _ _ (fun _ => (Fr.refl _ _).drew.drew) ?_
  clear hK K
  try simp only [Act.put, List.setIfInBounds_toArray, List.set_cons_zero, List.set_cons_succ]
  repeat (first | (refine WS.wpL_skip rfl ?_; try simp only [Act.put, List.setIfInBounds_toArray, List.set_cons_zero, List.set_cons_succ]) | (refine WS.wpL_q ?_ rfl ?_ ?_; rotate_left 1; (focus (intro w' hw'; have hrr' := hw'.rules; obtain ⟨hrc', _⟩ := hrr'; clear hw'; go_simp; (try with_reducible rfl); done)); try simp only [Act.put, List.setIfInBounds_toArray, List.set_cons_zero, List.set_cons_succ]))
  refine WS.wpL_nil ?_
  have hld := Hld.out W.drew.drew ((Fr.refl _ _).drew.drew)
  have hzc : (mailCells m (.slice pa m.out.payload.length pc)).toArray.size = 19 := rfl
  obtain ⟨W2, hW2⟩ : ∃ W2, W2 = ((W.alloc (.cells #[.int .i64 0, .int .i64 0, .int .u8 0, .int .u64 0, .int .u64 0, .int .u64 0, .slice none 0 0, .slice none 0 0, .bool false, .int .u8 0, .int .u8 0, .int .u8 0, .int .u32 0, .int .u32 0, .int .u64 0, .int .u8 0, .slice none 0 0, .slice none 0 0, .slice none 0 0] 47)).drew.drew).setCells W.heap.size 0 (mailCells m (.slice pa m.out.payload.length pc)).toArray.toList := ⟨_, rfl⟩
  have hf2 : Fr No W W2 := by rw [hW2]; exact Fr.setCells (.inl (Nat.le_refl _)) _ _ (((Fr.alloc0 W _).drew).drew)
  have hv2 : W2.heap[W.heap.size]? = some (.cells (mailCells m (.slice pa m.out.payload.length pc)).toArray 47 (0, 0)) := by
    rw [hW2]
    exact heap_setAll (cs := mailCells m (.slice pa m.out.payload.length pc)) (heap_alloc_new W _) rfl
  have HW2 := Lib.hid hW2
  have hs2 := hf2.size
  have hlv : W.heap.size < W2.heap.size := (Array.getElem?_eq_some_iff.1 hv2).1
  have hbl2 : w.heap.size < W2.heap.size := by omega
  have d0 : W2.cell? ⟨w.heap.size, 0, none⟩ = _ := (hf2.cell hbl (fun h => h) 0).trans c0
  have d4 : W2.cell? ⟨w.heap.size, 4, none⟩ = _ := (hf2.cell hbl (fun h => h) 4).trans c4
  have Hv2 := Lib.hid hv2
  clear hW2 hv2
  have hX2 := HX.out.fr0 hf2
  have hR2 := HW.out.reg.fr hf2
  have hnF0 := HW.out.nF
  have hnFv : ¬ F W.heap.size := fun e => by have := HW.out.reg.lt _ e; omega
  have hB2 := Nat.le_trans hBW hs2
  have hmB2 := hmB.fr hf2 FreeT.no
  have hout := f_out B W2 q d F (aroundD x.n d.bag.length) ⟨own, wv, hX2⟩ hR2 hB2 (by omega) (by omega)
  have Hout := Lib.hid hout
  have hbo : (d.out (aroundD x.n d.bag.length)).bag.length ≤ 100000 := by
    show (d.bag.eraseIdx _).length ≤ _
    have := List.length_eraseIdx_le d.bag (aroundD x.n d.bag.length)
    omega
  have hcome := fun w4 F4 (g1 : WorldAt B w4 q (d.out (aroundD x.n d.bag.length)) F4) g2 g3 g4 => f_wcome B w4 q (d.out (aroundD x.n d.bag.length)) F4 m pa pc g1 g2 g3 (hok.out _) hmo g4 hbo htk
  have Hcome := Lib.hid hcome
  clear hout hcome hX2
  go_wp2_with (first | (refine wpList_ld rfl 47 (.tmp 59) rfl rfl hld ?_) | (refine wpList_store_mid rfl 47 (.tmp 8) (.tmp 60) rfl W.heap.size 0 (mailCells m (.slice pa m.out.payload.length pc)).toArray rfl rfl (there_drew (there_drew (by rw [hzc]; exact there_alloc))) (by kernel_rfl) (by simp [Value.oneCell', mailCells, msgCells]) ?_; rw [← HW2.out]) | (go_at_call 26; refine Hout.out.mono ?_; rintro en w4 ⟨rfl, F4, p1, p2, p3, p4⟩; have hr4 := fun o => p3.cell hbl2 hnF0 o; have hl4 := Nat.lt_of_lt_of_le hbl2 p3.size; have hld4 : (Instr.loadAt 47 (.pointer (some ⟨W.heap.size, 0, none⟩))).run Try.prog w4 = .ok (.agg (mailCells m (.slice pa m.out.payload.length pc)).toArray) w4 := run_loadAt_mid w4 W.heap.size 0 47 _ _ (fun j v hv => by rw [Nat.zero_add, p3.cell hlv hnFv, cell_of_row _ _ j _ _ _ Hv2.out]; simpa using hv) Try.underlying47 rfl (by kernel_rfl); have Hc4 := Lib.hid (Hcome.out w4 F4 p1 p2 (Nat.le_trans hB2 p3.size) (hmB2.fr p3 hR2.free8))) | (refine wpList_ld rfl 47 (.tmp 8) rfl rfl hld4 ?_) | (go_at_call 27; refine Hc4.out.mono ?_; rintro en w5 ⟨rfl, hP5⟩))
  go_end0
  exact ⟨rfl, ((hP5.step p3 p4).step (hf2.mono (fun _ _ h => h.elim)) (Grew.refl _ _)).boxed HW.out.fr⟩

theorem f_act (B : Nat) (w : World) (q : Nat) (d : WD) (F : Nat → Prop) (x : ActD) (ba : Option Addr) (bc : Nat) (h : WorldAt B w q d F) (hR : Reg B w F) (hB : B ≤ w.heap.size) (hok : d.Ok) (hv : Bytes B w (.slice ba x.body.length bc) x.body) (hlen : d.bag.length ≤ 3000) (htk : ∀ a b, (d.took a b).length ≤ 4398046511104) :
    Calls Try.prog 14 #[.pointer (some ⟨q, 0, none⟩), .agg (actCells x (.slice ba x.body.length bc)).toArray] w fun e w' => e = .returned (.tuple #[]) ∧ WPost B w q F (d.act x) w' := by
  have no : ∀ {n : Int}, x.kind ≠ n → (x.kind == n) = false := fun h => by rw [beq_eq_false_iff_ne]; exact h
  have yes : ∀ {n : Int}, x.kind = n → (x.kind == n) = true := fun h => by rw [beq_iff_eq]; exact h
  by_cases k1 : x.kind = 1
  · exact act_send B w q d F x ba bc h hR hB hok hv hlen htk k1
  · by_cases k23 : x.kind = 2 ∨ x.kind = 3
    · cases hm : d.bag[aroundD x.n d.bag.length]? with
      | none =>
        have he : d.bag = [] := by
          by_cases h0 : 0 < d.bag.length
          · have := aroundD_lt x.n h0
            rw [List.getElem?_eq_getElem this] at hm; cases hm
          · exact List.eq_nil_of_length_eq_zero (by omega)
        have e : d.act x = d := by
          unfold WD.act
          simp only
          rw [if_neg k1, if_pos k23, hm]
        rw [e]
        refine act_empty B w q d F x ba bc h hR hB hok he (no k1) ?_
        rcases k23 with k | k
        · exact .inl (yes k)
        · exact .inr ⟨no (by omega), yes k⟩
      | some m =>
        rcases k23 with k | k
        · by_cases hk : x.keep = true
          · have e : d.act x = d.come m := by
              unfold WD.act
              simp only
              rw [if_neg k1, if_pos (.inl k), hm]
              simp only
              rw [if_pos k, if_neg (by rw [hk]; rintro (h | h); omega; cases h)]
            rw [e]
            exact act_keep B w q d F x ba bc h hR hB hok hlen htk m hm (no k1) (yes k) (no (by omega)) hk
          · have hk' : x.keep = false := by simpa using hk
            have e : d.act x = (d.out (aroundD x.n d.bag.length)).come m := by
              unfold WD.act
              simp only
              rw [if_neg k1, if_pos (.inl k), hm]
              simp only
              rw [if_pos k, if_pos (.inr hk')]
            rw [e]
            exact act_come B w q d F x ba bc h hR hB hok hlen htk m hm (no k1) (yes k) (no (by omega)) hk'
        · have e : d.act x = d.out (aroundD x.n d.bag.length) := by
            unfold WD.act
            simp only
            rw [if_neg k1, if_pos (.inr k), hm]
            simp only
            rw [if_neg (by omega), if_pos (.inl k)]
          rw [e]
          exact act_lose B w q d F x ba bc h hR hB hok hlen m hm (no k1) (no (by omega)) (yes k)
    · by_cases k4 : x.kind = 4
      · have e : d.act x = d.tick (aroundD x.a d.hosts) := by
          unfold WD.act
          simp only
          rw [if_neg k1, if_neg k23, if_pos k4]
        rw [e]
        exact act_tick B w q d F x ba bc h hR hB hok hlen (no k1) (no (by omega)) (no (by omega)) (yes k4)
      · have e : d.act x = d := by
          unfold WD.act
          simp only
          rw [if_neg k1, if_neg k23, if_neg k4]
        rw [e]
        by_cases k5 : x.kind = 5
        · exact act_reload B w q d F x ba bc h hR hB hok (no k1) (no (by omega)) (no (by omega)) (no k4) (yes k5)
        · exact act_none B w q d F x ba bc h hR hB hok (no k1) (no (by omega)) (no (by omega)) (no k4) (no k5)
end Go.Proofs.Ytplgmcpglbpghaa
