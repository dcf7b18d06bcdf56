/- Part 23 of the proof: Yw8. -/
import Derived.Test.YtplgmcpglbpghaaM22
set_option linter.all false
set_option linter.unusedVariables false
set_option linter.unusedSimpArgs false

/- come: the walk. -/
namespace Go.Proofs.Ytplgmcpglbpghaa
open Go.RowKit

/-- A load by an equation, ahead of a fork. -/
theorem wpF_ld {ops : Array Oper} {Q : Exit → Act → World → Prop} {S : World → Prop} {late : List Nat} {l1 l2 : List (Nat × Bool × Oper)} {a : Act} {w : World} {i : Nat} {o : Oper} {rest : List (Nat × Bool × Oper)} (ty : TypeId) (x : Operand) (ho : o.op = .load ty x)
    (hg : Region.wanted o (yielded ops a.tmps) = true) {p v : Value} (hx : a.eval x = p) (hrun : ∀ w, S w → (Instr.loadAt ty p).run Try.prog w = .ok v w)
    (h : WS.wpF Try.prog ops Q S late l1 l2 rest (a.put o.dst v) w) : WS.wpF Try.prog ops Q S late l1 l2 ((i, true, o) :: rest) a w :=
  WS.wpF_q v hg (fun w hw => by
    unfold execOp
    simp only [ho, hx, hrun w hw, Sem.run_bind, Sem.run_pure, Result.andThen_ok]) h

theorem Ups.at {B : Nat} {w : World} {a : Option Addr} {c : Nat} {l : List UpD} (h : Ups B w (.slice a l.length c) l) {k : Nat} {o : UpD} (hl : l[k]? = some o) :
    ∃ b off pa pc, a = some ⟨b, off, none⟩ ∧ b < w.heap.size ∧ Imm [121] B w b ∧ w.rangeAt b (off + k * 3) (upCells o (.slice pa o.body.length pc)) ∧ Bytes B w (.slice pa o.body.length pc) o.body := by
  obtain ⟨pvs, hps, hcl, a', c', he, _, _, hne⟩ := h
  cases he
  obtain ⟨p, hp, hb⟩ := hps.get (show (l.map (·.body))[k]? = some o.body by simp [hl])
  have hk := (List.getElem?_eq_some_iff.1 hl).1
  obtain ⟨b, off, rfl, hi, hr⟩ := hne (fun h => by rw [h] at hcl; simp at hcl; omega)
  obtain ⟨pa, pc, rfl⟩ := hb.form
  have hcell : w.rangeAt b (off + k * 3) (upCells o (.slice pa o.body.length pc)) := fun j v hj => by
    have hj6 : j < 3 := by have := (List.getElem?_eq_some_iff.1 hj).1; rw [upCells_length] at this; exact this
    have := hr (k * 3 + j) v (by rw [cellsOf_get upCells_length l pvs k o _ hl hp j hj6]; exact hj)
    rwa [← Nat.add_assoc] at this
  exact ⟨b, off, pa, pc, rfl, World.block_lt_of_cell? w _ (hcell 0 _ rfl), hi, hcell, hb⟩

/-- The cells of a pair's lists. -/
structure PairC (B : Nat) (w : World) (q : Nat) (d : WD) (wv : WV) (a b tg tc ug uc : Nat) (ka : Option Addr) (kc : Nat) : Prop where
  q4 : w.cell? ⟨q, 4, none⟩ = some (.slice (some ⟨tg, 0, none⟩) d.hosts tc)
  q5 : w.cell? ⟨q, 5, none⟩ = some (.slice (some ⟨ug, 0, none⟩) d.hosts uc)
  t : w.cell? ⟨tg, a, none⟩ = some (.slice (some ⟨wv.tb a, 0, none⟩) d.hosts d.hosts)
  tk : w.cell? ⟨wv.tb a, b, none⟩ = some (.slice ka (d.took a b).length kc)
  u : w.cell? ⟨ug, a, none⟩ = some (.slice (some ⟨wv.ub a, 0, none⟩) d.hosts d.hosts)
  up : w.cell? ⟨wv.ub a, b, none⟩ = some (.int .i64 (d.up a b))
  z : ∀ o, w.frozen? ⟨wv.ub a, o, none⟩ = false
  lq : q < w.heap.size
  lt : tg < w.heap.size
  ltb : wv.tb a < w.heap.size
  lu : ug < w.heap.size
  lub : wv.ub a < w.heap.size
  own : QOwn B B w (.slice ka (d.took a b).length kc) (d.took a b)

theorem WorldX.pairC {B : Nat} {w : World} {q : Nat} {d : WD} {F : Nat → Prop} {own : Nat → Tag} {wv : WV} (h : WorldX B w q d F own wv) (h1 : 1 ≤ d.hosts) {a b : Nat} (ha : a < d.hosts) (hb : b < d.hosts) : ∃ tg tc ug uc ka kc, PairC B w q d wv a b tg tc ug uc ka kc := by
  obtain ⟨hqlt, ⟨_, _, _, _, h4, h5, _⟩, _⟩ := h.cells
  obtain ⟨t1, t2⟩ := h.took (fun h => h)
  obtain ⟨tg, tc, htv, htgo, htglt, htgc⟩ := row_cells t1 h1
  obtain ⟨u1, u2⟩ := h.up (fun h => h)
  obtain ⟨ug, uc, huv, hugo, huglt, hugc⟩ := row_cells u1 h1
  rw [htv] at h4
  rw [huv] at h5
  obtain ⟨_, _, _, r4⟩ := h.tr a ha (fun h => h)
  obtain ⟨_, _, _, s4⟩ := h.ur a ha (fun h => h)
  obtain ⟨k1, k2⟩ := h.tk a b ha hb (fun h => h)
  obtain ⟨ka, kc, hkv⟩ := k1.form
  refine ⟨tg, tc, ug, uc, ka, kc, ⟨h4, h5, htgc a _ (rows_get ha), ?_, hugc a _ (rows_get ha), ?_, fun o => by simp [World.frozen?, s4], hqlt, htglt, (Array.getElem?_eq_some_iff.1 r4).1, huglt, (Array.getElem?_eq_some_iff.1 s4).1, by rw [← hkv]; exact k1⟩⟩
  · rw [← hkv, cell_of_row _ _ b _ _ _ r4]; simpa using vals_get hb
  · rw [cell_of_row _ _ b _ _ _ s4]; simpa using nums_get hb

structure ComeMid (B : Nat) (W : World) (q : Nat) (d3 : WD) (F F3 : Nat → Prop) (own3 : Nat → Tag) (wv : WV) (bx nb : Nat) (A : List Value) (vu vm : Value) (us : List UpD) (os : List OutD) (ch : Bool) (w3 : World) : Prop where
  x : WorldX B w3 q d3 F3 own3 wv
  reg : Reg B w3 F3
  fr : Fr F W w3
  gr : Grew F F3 W
  var : w3.heap[nb]? = some (.cells #[vu, vm, .bool ch] 68 (0, 0))
  nF : ¬ F3 nb
  nW : W.heap.size ≤ nb
  ups : Ups B w3 vu us
  outs : Outs B w3 vm os
  box : w3.rangeAt bx 0 A
  bF : ¬ F3 bx
  blt : bx < w3.heap.size

set_option maxRecDepth 100000 in
set_option maxHeartbeats 4000000 in
theorem f_wcome (B : Nat) (w : World) (q : Nat) (d : WD) (F : Nat → Prop) (x : MailD) (pa : Option Addr) (pc : Nat) (h : WorldAt B w q d F) (hR : Reg B w F) (hB : B ≤ w.heap.size) (hok : d.Ok) (hx : MailOk d x) (hpB : Bytes B w (.slice pa x.out.payload.length pc) x.out.payload) (hlen : d.bag.length ≤ 100000) (htk : ∀ a b, (d.took a b).length ≤ 4398046511104) :
    Calls Try.prog 27 #[.pointer (some ⟨q, 0, none⟩), .agg (mailCells x (.slice pa x.out.payload.length pc)).toArray] w fun e w' => e = .returned (.tuple #[]) ∧ WPost B w q F (d.come x) w' := by
  obtain ⟨ha, b, hb, hab, hto, _⟩ := id hx
  obtain ⟨hmsg, _, _, _⟩ := hx.msg hok
  obtain ⟨p', hC⟩ := hok.come_take hx hb hab hto
  have h16 := hok.h16
  obtain ⟨own, wv, hX0⟩ := h
  obtain ⟨r, hr⟩ : ∃ r, r = (d.endD b).take x.src x.out.msg := ⟨_, rfl⟩
  rw [← hr] at hC
  have htake : ∀ W', EndAt B W' (wv.ea b) (d.endD b) (partT F own (.en b)) → Reg B W' (partT F own (.en b)) → B ≤ W'.heap.size → Bytes B W' (.slice pa x.out.payload.length pc) x.out.payload →
      Calls Try.prog 21 #[.pointer (some ⟨wv.ea b, 0, none⟩), .int .u8 x.src, .agg (msgVals x.out.msg noA (.slice pa x.out.payload.length pc)).toArray] W' (EndTakePost B W' (wv.ea b) (partT F own (.en b)) r) := fun W' k1 k2 k3 k4 => by
    rw [hr]
    exact f_take B W' (wv.ea b) (d.endD b) (partT F own (.en b)) x.src x.out.msg noA pa pc k1 k2 k3 (hok.endD hb) (by omega) hmsg k4
  have Htake := Lib.hid htake
  obtain ⟨e', us, os, ch, err⟩ := r
  obtain ⟨r1, r2, r3, r4, r5, r6, r7⟩ := hC
  dsimp only at r1 r2 r3 r4 r5 r6 r7
  subst r1; subst r2
  have Hr := Lib.hid hr
  clear hr htake
  have hC := And.intro r3 (And.intro r4 (And.intro r5 (And.intro r6 r7)))
  clear r3 r4 r5 r6 r7
  have hX := hX0.fr0 (Fr.alloc0 w (.cells (mailCells x (.slice pa x.out.payload.length pc)).toArray 47))
  have hRW := hR.fr (Fr.alloc0 w (.cells (mailCells x (.slice pa x.out.payload.length pc)).toArray 47))
  have hfW : Fr No w (w.alloc (.cells (mailCells x (.slice pa x.out.payload.length pc)).toArray 47)) := Fr.alloc0 _ _
  have hbx := heap_alloc_new w (.cells (mailCells x (.slice pa x.out.payload.length pc)).toArray 47)
  have hsW : (w.alloc (.cells (mailCells x (.slice pa x.out.payload.length pc)).toArray 47)).heap.size = w.heap.size + 1 := by simp
  have hpBW := hpB.fr hfW FreeT.no
  have hbr : (w.alloc (.cells (mailCells x (.slice pa x.out.payload.length pc)).toArray 47)).rangeAt w.heap.size 0 (mailCells x (.slice pa x.out.payload.length pc)) := range_new
  have hFb : ¬ F w.heap.size := fun e => by have := hR.lt _ e; omega
  go_enter Try.func27, Try.ntmps27
  go_wp2_with fail
  generalize hWd : w.alloc (.cells (mailCells x (.slice pa x.out.payload.length pc)).toArray 47) = W at *
  have HWd := Lib.hid hWd
  have c0 := hbr 0 (.int .i64 x.src) rfl
  have c1 := hbr 1 (.int .i64 b) (by rw [← hto]; rfl)
  rw [Nat.zero_add] at c0 c1
  obtain ⟨hqlt, ⟨_, _, hc2, _, _, _, _⟩, _⟩ := hX.cells
  obtain ⟨he1, he2⟩ := hX.ends (fun h => h)
  obtain ⟨g, gc, hve, hgo, hglt, hgc⟩ := row_cells he1 hok.h1
  rw [hve] at hc2
  have hga := hgc b _ (ptrs_get hb)
  have hblt : w.heap.size < W.heap.size := by omega
  have n1 : ¬ (b : Int) < 0 := by omega
  have n1' : decide ((b : Int) < 0) = false := decide_eq_false n1
  have n2 : ¬ (d.hosts : Int) ≤ (b : Int) := by omega
  have n2' : decide (d.hosts ≤ b) = false := decide_eq_false (by omega)
  have n3 : ((b : Int) == (x.src : Int)) = false := by rw [beq_eq_false_iff_ne]; omega
  have n4 : (b : Int) < (d.hosts : Int) := by omega
  have Hto := Lib.hid hto
  have HC := Lib.hid hC
  have HX := Lib.hid hX
  have Hhto := Lib.hid hx
  have HsW := Lib.hid hsW
  have Hbr := Lib.hid hbr
  have Hgo := Lib.hid hgo
  have He2 := Lib.hid he2
  clear hWd hto hC hX0 hX hx hpB he1 hgc hbr hve hsW hgo he2
  refine WS.wp_region_seq (Fr No W) [] [(0, true), (1, true), (2, true), (3, true), (4, true), (5, true), (6, true), (7, true), (8, true), (9, true), (10, true), (11, true), (12, true), (13, true), (14, true), (15, true), (16, true), (17, true), (18, true), (19, true)] (by kernel_rfl) (by kernel_rfl) (fun c d v a w h => by cases d <;> exact h) ((Fr.refl _ _).drew) ?_
  simp only [WS.pick, List.getElem?_toArray, List.getElem?_cons_succ, List.getElem?_cons_zero]
  repeat (first | (refine WS.wpL_skip rfl ?_; try simp only [Act.put, List.setIfInBounds_toArray, List.set_cons_zero, List.set_cons_succ]) | (refine WS.wpL_q ?_ rfl ?_ ?_; rotate_left 1; (focus (intro w' hw'; have hrr' := hw'.rules; obtain ⟨hrc', _⟩ := hrr'; clear hw'; go_simp; (try with_reducible rfl); done)); try simp only [Act.put, List.setIfInBounds_toArray, List.set_cons_zero, List.set_cons_succ]))
  refine WS.wpL_nil ?_
  go_wp2_with fail
  have hX := HX.out
  have hqlt := hqlt
  have hqS : ¬ partT F own (.en b) q := fun e => by have h1 := (hX.hq (fun h => h)).2.2.1; rw [e.2] at h1; cases h1
  have hmlt := hglt
  have hmS : ¬ partT F own (.en b) g := fun e => by have h1 := (He2.out _ Hgo.out).2; rw [e.2] at h1; cases h1
  have hnlt := hblt
  have hnS : ¬ partT F own (.en b) w.heap.size := fun e => hFb e.1
  have hld : ∀ w', Fr (partT F own (.en b)) W w' → (Instr.loadAt 45 (.pointer (some ⟨w.heap.size, 2, none⟩))).run Try.prog w' = .ok (.agg (msgVals x.out.msg noA (.slice pa x.out.payload.length pc)).toArray) w' := fun w' hw' =>
    run_loadAt_mid w' w.heap.size 2 45 _ _ (hw'.range hnS (fun j v hj => by have := Hbr.out (j + 2) v hj; rwa [show 0 + (j + 2) = 2 + j by omega] at this)) Try.underlying45 rfl (by kernel_rfl)
  have e8 : IntKind.u8.wrap (x.src : Int) = x.src := by rw [IntKind.wrap_u8]; omega
  have Hld := Lib.hid hld
  clear hX hld
  refine WS.wp_region_fork (Fr (partT F own (.en b)) W) [] [(0, true), (1, true), (2, true), (3, true), (4, true), (5, true), (6, true), (7, true), (8, true), (9, true), (10, true), (11, true), (12, true)] 13 [(14, true), (15, true), (16, true), (17, false), (18, false), (19, true)] 17 [(13, false), (14, true), (15, true), (16, true), (18, false), (19, true)] (by kernel_rfl) (by kernel_rfl) (fun c d v a w h => by cases d <;> exact h) ((Fr.refl _ _).drew.drew) ?_
  simp only [WS.pick, List.getElem?_toArray, List.getElem?_cons_succ, List.getElem?_cons_zero]
  repeat (first | (refine WS.wpF_skip rfl ?_; try simp only [Act.put, List.setIfInBounds_toArray, List.set_cons_zero, List.set_cons_succ]) | (refine WS.wpF_q ?_ rfl ?_ ?_; rotate_left 1; (focus (intro w' hw'; have hrc' := Fr.rules1 hw' hqlt hqS; have hrm' := Fr.rules1 hw' hmlt hmS; have hrn' := Fr.rules1 hw' hnlt hnS; clear hw'; go_simp; (try with_reducible rfl); done)); try simp only [Act.put, List.setIfInBounds_toArray, List.set_cons_zero, List.set_cons_succ]))
  refine wpF_ld 45 (.tmp 44) rfl rfl rfl Hld.out ?_
  try simp only [Act.put, List.setIfInBounds_toArray, List.set_cons_zero, List.set_cons_succ]
  refine WS.wpF_fork ?_ ?_
  · refine WS.wpL_e rfl (fun K hK => ?_)
    go_simp
    refine (Htake.out W.drew.drew ((HX.out.en b hb (fun h => h)).fr0 ((Fr.refl No W).drew.drew)) (fun k hk => hRW k hk.1) (by show B ≤ W.heap.size; omega) (hpBW.fr ((Fr.refl No W).drew.drew) FreeT.no)).mono ?_
    rintro en w1 ⟨vu, vm, rfl, hu, ho, hE, hf1⟩
    obtain ⟨ua, uc, rfl⟩ := hu.form
    obtain ⟨oa, oc, rfl⟩ := ho.form
    have hS1 : Fr (partT F own (.en b)) W w1 := hf1.ofDrew.ofDrew
    obtain ⟨hX1, hR1, hf1', hg1⟩ := (HX.out.fr0 ((Fr.refl No W).drew.drew)).setEnd (hRW.fr ((Fr.refl No W).drew.drew)) (by show B ≤ W.heap.size; omega) hE hf1
    refine hK _ _ (fun _ => hS1) ?_
    clear hK K
    simp only [takenV]
    try simp only [Act.put, List.setIfInBounds_toArray, List.set_cons_zero, List.set_cons_succ]
    repeat (first | (refine WS.wpL_skip rfl ?_; try simp only [Act.put, List.setIfInBounds_toArray, List.set_cons_zero, List.set_cons_succ]) | (refine WS.wpL_q ?_ rfl ?_ ?_; rotate_left 1; (focus (intro w' hw'; clear hw'; go_simp; (try with_reducible rfl); done)); try simp only [Act.put, List.setIfInBounds_toArray, List.set_cons_zero, List.set_cons_succ]))
    refine WS.wpL_e rfl (fun K hK => ?_)
    go_simp
    refine hK _ _ (fun _ => hS1.alloc _) ?_
    clear hK K
    try simp only [Act.put, List.setIfInBounds_toArray, List.set_cons_zero, List.set_cons_succ]
    repeat (first | (refine WS.wpL_skip rfl ?_; try simp only [Act.put, List.setIfInBounds_toArray, List.set_cons_zero, List.set_cons_succ]) | (refine WS.wpL_q ?_ rfl ?_ ?_; rotate_left 1; (focus (intro w' hw'; clear hw'; go_simp; (try with_reducible rfl); done)); try simp only [Act.put, List.setIfInBounds_toArray, List.set_cons_zero, List.set_cons_succ]))
    refine WS.wpL_e rfl (fun K hK => ?_)
    refine wp_store_mid 68 (.tmp 4) (.tmp 47) rfl w1.heap.size 0 #[.slice ua us.length uc, .slice oa os.length oc, .bool ch] rfl rfl there_alloc (by kernel_rfl) (by simp [Value.oneCell']) ?_
    have hf3 : Fr No w1 ((w1.alloc (.cells #[nilS, nilS, .bool false] 68)).setCells w1.heap.size 0 [.slice ua us.length uc, .slice oa os.length oc, .bool ch]) := Fr.setCells (.inl (Nat.le_refl _)) _ _ (Fr.alloc0 _ _)
    refine hK _ _ (fun _ => hS1.then0 hf3) ?_
    clear hK K
    try simp only [Act.put, List.setIfInBounds_toArray, List.set_cons_zero, List.set_cons_succ]
    repeat (first | (refine WS.wpL_skip rfl ?_; try simp only [Act.put, List.setIfInBounds_toArray, List.set_cons_zero, List.set_cons_succ]) | (refine WS.wpL_q ?_ rfl ?_ ?_; rotate_left 1; (focus (intro w' hw'; clear hw'; go_simp; (try with_reducible rfl); done)); try simp only [Act.put, List.setIfInBounds_toArray, List.set_cons_zero, List.set_cons_succ]))
    refine WS.wpL_nil ?_
    obtain ⟨F3, own3, hM⟩ : ∃ F3 own3, ComeMid B W q { d with ps := upd d.ps b x.src p' } F F3 own3 wv w.heap.size w1.heap.size (mailCells x (.slice pa x.out.payload.length pc)) (.slice ua us.length uc) (.slice oa os.length oc) us os ch ((w1.alloc (.cells #[nilS, nilS, .bool false] 68)).setCells w1.heap.size 0 [.slice ua us.length uc, .slice oa os.length oc, .bool ch]) := by
      refine ⟨_, _, ⟨hX1.fr0 hf3, hR1.fr hf3, (hf1'.ofDrew.ofDrew).then0 hf3, hg1, ?_, fun e => by have := hR1.lt _ e; omega, hS1.size, hu.fr hf3 FreeT.no, ho.fr hf3 FreeT.no, ?_, ?_, ?_⟩⟩
      · exact heap_setAll (cs := [.slice ua us.length uc, .slice oa os.length oc, .bool ch]) (heap_alloc_new w1 (.cells #[nilS, nilS, .bool false] 68)) rfl
      · exact hf3.range (fun h => h) (hS1.range hnS Hbr.out)
      · intro e
        rcases hg1 _ e with e | e
        · exact hFb e
        · have e' : W.heap.size ≤ w.heap.size := e
          omega
      · have := (hS1.then0 hf3).size; omega
    generalize (w1.alloc (.cells #[nilS, nilS, .bool false] 68)).setCells w1.heap.size 0 [.slice ua us.length uc, .slice oa os.length oc, .bool ch] = w3 at *
    generalize w1.heap.size = nb at *
    clear hX1 hR1 hf1' hg1 hE hf1 hu ho hf3 hS1
    have HM := Lib.hid hM
    have hc0 := hM.box 0 (.int .i64 x.src) rfl
    have hc1 := hM.box 1 (.int .i64 b) (by rw [← Hto.out]; rfl)
    rw [Nat.zero_add] at hc0 hc1
    have hblt3 := hM.blt
    have hnb3 : nb < w3.heap.size := (Array.getElem?_eq_some_iff.1 hM.var).1
    have hv0 : w3.cell? ⟨nb, 0, none⟩ = some (.slice ua us.length uc) := by simp [World.cell?, hM.var]
    have hv1 : w3.cell? ⟨nb, 1, none⟩ = some (.slice oa os.length oc) := by simp [World.cell?, hM.var]
    have huslen : us.length ≤ 4398046511104 := by have h1 := HC.out.2.2.1; have h2 := htk x.src b; omega
    clear hM c0 c1 hc2 hga hqS hmS hnS hqlt hmlt hnlt
    go_wp2_with (go_at_call 19; refine (f_num2 w3 0).mono ?_; rintro en w' ⟨rfl, rfl⟩)
    go_loopw [6] (fun i wr => ∃ k : Nat, k ≤ us.length ∧ i = .int .i64 k ∧ WorldX B wr q { d with ps := upd d.ps b x.src p', up := upd d.up x.src b (d.up x.src b + k) } F3 own3 wv ∧ Reg B wr F3 ∧ Fr F3 w3 wr) (fun i _ => 4398046511104 - (intOf i).toNat)
    case atStart => exact ⟨0, Nat.zero_le _, rfl, by rw [Nat.add_zero, upd_self]; exact HM.out.x, HM.out.reg, Fr.refl _ _⟩
    case round =>
      obtain ⟨k, hk, rfl, hXr, hRr, hfr⟩ := hrel
      have hszr := hfr.size
      have d0 : wr.cell? ⟨w.heap.size, 0, none⟩ = some (.int .i64 x.src) := by rw [hfr.cell hblt3 HM.out.bF]; exact hc0
      have d1 : wr.cell? ⟨w.heap.size, 1, none⟩ = some (.int .i64 b) := by rw [hfr.cell hblt3 HM.out.bF]; exact hc1
      have e0 : wr.cell? ⟨nb, 0, none⟩ = some (.slice ua us.length uc) := by rw [hfr.cell hnb3 HM.out.nF]; exact hv0
      have e1' : wr.cell? ⟨nb, 1, none⟩ = some (.slice oa os.length oc) := by rw [hfr.cell hnb3 HM.out.nF]; exact hv1
      have l0 : w.heap.size < wr.heap.size := by omega
      have l1 : nb < wr.heap.size := by omega
      have HXr := Lib.hid hXr
      by_cases hlt : k < us.length
      · have hk1 : (k : Int) < (us.length : Int) := by omega
        obtain ⟨u, hu⟩ : ∃ u, us[k]? = some u := ⟨_, List.getElem?_eq_getElem hlt⟩
        obtain ⟨q1, q2, q3⟩ := HC.out.2.1 k u hu
        obtain ⟨N, hN⟩ : ∃ N, N = d.up x.src b + k := ⟨_, rfl⟩
        rw [← hN] at q1 q2
        obtain ⟨tg, tc, ug, ugc, ka, kc, hP⟩ := hXr.pairC hok.h1 ha hb
        obtain ⟨ob, off, ua2, uc2, rfl, hob, himm, hrng, hBu⟩ := (HM.out.ups.fr hfr HM.out.reg.free).at hu
        have hobF : ¬ F3 ob := fun e => by
          rcases himm with hi | ⟨t, ht, hi⟩
          · have := (HM.out.reg ob e).1; omega
          · obtain ⟨_, t', ht', hn'⟩ := hRr ob e
            rw [hi] at ht'; cases ht'
            simp at ht; subst ht
            exact hn' (by decide)
        obtain ⟨p4, p5, pt, ptk, pu, pup, pz, plq, plt, pltb, plu, plub, pown⟩ := hP
        dsimp only at p4 p5 pt ptk pu pup pown
        rw [upd_same, ← hN] at pup
        have f0 := hrng 0 (.int .u8 u.src) rfl
        have f1 := hrng 1 (.int .u64 u.seq) rfl
        have f2 := hrng 2 (.slice ua2 u.body.length uc2) rfl
        rw [Nat.add_zero] at f0
        have hha : (x.src : Int) < (d.hosts : Int) := by omega
        have HN := Lib.hid hN
        have Hq1 := Lib.hid q1
        have Hq2 := Lib.hid q2
        have Hq3 := Lib.hid q3
        have HBu := Lib.hid hBu
        have Hown := Lib.hid pown
        clear hN q1 q2 q3 hu hBu pown hrng himm hXr
        go_wp2_with fail
        refine WS.wp_region_seq (Fr No wr) [] [(0, true), (1, true), (2, true), (3, true), (4, true), (5, true), (6, true), (7, true), (8, true), (9, true), (10, true), (11, true), (12, true)] (by kernel_rfl) (by kernel_rfl) (fun c d v a w h => by cases d <;> exact h) ((Fr.refl _ _).drew) ?_
        simp only [WS.pick, List.getElem?_toArray, List.getElem?_cons_succ, List.getElem?_cons_zero]
        repeat (first | (refine WS.wpL_skip rfl ?_; try simp only [Act.put, List.setIfInBounds_toArray, List.set_cons_zero, List.set_cons_succ]) | (refine WS.wpL_q ?_ rfl ?_ ?_; rotate_left 1; (focus (intro w' hw'; have hrr' := hw'.rules; obtain ⟨hrc', _⟩ := hrr'; clear hw'; go_simp; (try with_reducible rfl); done)); try simp only [Act.put, List.setIfInBounds_toArray, List.set_cons_zero, List.set_cons_succ]))
        refine WS.wpL_nil ?_
        go_wp2_with fail
        have hfa : Fr No wr (wr.alloc (.cells #[.int .u8 u.src, .int .u64 u.seq, .slice ua2 u.body.length uc2] 121)).drew := (Fr.alloc0 wr _).drew
        have hba : (wr.alloc (.cells #[.int .u8 u.src, .int .u64 u.seq, .slice ua2 u.body.length uc2] 121)).drew.heap[wr.heap.size]? = some (.cells #[.int .u8 u.src, .int .u64 u.seq, .slice ua2 u.body.length uc2] 121 (0, 0)) := heap_alloc_new wr _
        have hsa : (wr.alloc (.cells #[.int .u8 u.src, .int .u64 u.seq, .slice ua2 u.body.length uc2] 121)).drew.heap.size = wr.heap.size + 1 := by
          show (wr.alloc (.cells #[.int .u8 u.src, .int .u64 u.seq, .slice ua2 u.body.length uc2] 121)).heap.size = _
          simp
        generalize (wr.alloc (.cells #[.int .u8 u.src, .int .u64 u.seq, .slice ua2 u.body.length uc2] 121)).drew = W1 at *
        have m0 : W1.cell? ⟨wr.heap.size, 0, none⟩ = some (.int .u8 u.src) := by rw [cell_of_row _ _ 0 _ _ _ hba]; rfl
        have m1 : W1.cell? ⟨wr.heap.size, 1, none⟩ = some (.int .u64 u.seq) := by rw [cell_of_row _ _ 1 _ _ _ hba]; rfl
        have m2 : W1.cell? ⟨wr.heap.size, 2, none⟩ = some (.slice ua2 u.body.length uc2) := by rw [cell_of_row _ _ 2 _ _ _ hba]; rfl
        have lw : wr.heap.size < W1.heap.size := by omega
        have hlN : N < (d.took x.src b).length := (List.getElem?_eq_some_iff.1 Hq2.out).1
        obtain ⟨kb, ta, tc2, hkb, hkbl, _, hkr, hkB⟩ := Hown.out.at bytesEnc_len (by omega) Hq2.out
        have g0 := hkr 0 (.slice ta u.body.length tc2) rfl
        rw [Nat.mul_one, Nat.add_zero] at g0
        subst hkb
        have t4 : W1.cell? ⟨q, 4, none⟩ = _ := (hfa.cell plq (fun h => h) 4).trans p4
        have t5 : W1.cell? ⟨q, 5, none⟩ = _ := (hfa.cell plq (fun h => h) 5).trans p5
        have tt : W1.cell? ⟨tg, x.src, none⟩ = _ := (hfa.cell plt (fun h => h) x.src).trans pt
        have ttk : W1.cell? ⟨wv.tb x.src, b, none⟩ = _ := (hfa.cell pltb (fun h => h) b).trans ptk
        have tk0 : W1.cell? ⟨kb, N, none⟩ = some (.slice ta u.body.length tc2) := (hfa.cell hkbl (fun h => h) N).trans g0
        have td0 : W1.cell? ⟨w.heap.size, 0, none⟩ = _ := (hfa.cell l0 (fun h => h) 0).trans d0
        have td1 : W1.cell? ⟨w.heap.size, 1, none⟩ = _ := (hfa.cell l0 (fun h => h) 1).trans d1
        have tu : W1.cell? ⟨ug, x.src, none⟩ = _ := (hfa.cell plu (fun h => h) x.src).trans pu
        have tub : ∀ o, W1.frozen? ⟨wv.ub x.src, o, none⟩ = false := fun o => (hfa.froz plub (fun h => h) o).trans (pz o)
        have tup : W1.cell? ⟨wv.ub x.src, b, none⟩ = _ := (hfa.cell plub (fun h => h) b).trans pup
        have s1 : q < W1.heap.size := by omega
        have s2 : tg < W1.heap.size := by omega
        have s3 : wv.tb x.src < W1.heap.size := by omega
        have s4 : kb < W1.heap.size := by omega
        have s5 : w.heap.size < W1.heap.size := by omega
        have s6 : ug < W1.heap.size := by omega
        have s7 : wv.ub x.src < W1.heap.size := by omega
        have v1 : decide ((d.took x.src b).length ≤ N) = false := decide_eq_false (by omega)
        have v2 : (N : Int) < ((d.took x.src b).length : Int) := by omega
        have htk' := htk x.src b
        have v3 : IntKind.u64.wrap (N : Int) = N := u64_in (by omega) (by omega)
        have v4 : IntKind.u64.wrap ((N : Int) + 1) = (N : Int) + 1 := u64_in (by omega) (by omega)
        have v5 : ((u.seq : Int) != (N : Int) + 1) = false := by rw [bne_eq_false_iff_eq, Hq1.out]; omega
        have v6 : IntKind.i64.wrap u.src = u.src := IntWalk.i64_in _ (by rw [Hq3.out]; omega)
        have v7 : (u.src != (x.src : Int)) = false := by rw [bne_eq_false_iff_eq]; exact Hq3.out
        have hsame := f_same W1.drew (.slice ua2 u.body.length uc2) (.slice ta u.body.length tc2) u.body u.body (HBu.out.fr (hfa.drew) FreeT.no).rd (hkB.fr (hfa.drew) FreeT.no).rd
        rw [decide_eq_true rfl] at hsame
        have Hsame := Lib.hid hsame
        have Hsa := Lib.hid hsa
        have Hfa := Lib.hid hfa
        clear hsa hsame hba hkr hkB p4 p5 pt ptk pu pup pz d0 d1 f0 f1 f2 hlN htk' g0
        have hNT : (N : Int) ≤ 4398046511104 := by have := htk x.src b; omega
        refine WS.wp_region_seq (Fr No W1) [] [(0, true), (1, true), (2, true), (3, true), (4, true), (5, true), (6, true), (7, true), (8, true), (9, true), (10, true), (11, true), (12, true), (13, true), (14, true), (15, true), (16, true), (17, true), (18, true), (19, true), (20, true), (21, true), (22, true), (23, true), (24, true), (25, true), (26, true), (27, true), (28, true), (29, true), (30, true), (31, true), (32, true), (33, false), (34, true), (35, true), (36, true), (37, true), (38, true), (39, true), (40, true), (41, true), (42, true), (43, true), (44, true), (45, true), (46, true), (47, true), (48, true), (49, true), (50, true), (51, true)] (by kernel_rfl) (by kernel_rfl) (fun c d v a w h => by cases d <;> exact h) ((Fr.refl _ _).drew) ?_
        simp only [WS.pick, List.getElem?_toArray, List.getElem?_cons_succ, List.getElem?_cons_zero]
        repeat (first | (refine WS.wpL_skip rfl ?_; try simp only [Act.put, List.setIfInBounds_toArray, List.set_cons_zero, List.set_cons_succ]) | (refine WS.wpL_q ?_ rfl ?_ ?_; rotate_left 1; (focus (intro w' hw'; have hrr' := hw'.rules; obtain ⟨hrc', _⟩ := hrr'; clear hw'; go_simp; (try with_reducible rfl); done)); try simp only [Act.put, List.setIfInBounds_toArray, List.set_cons_zero, List.set_cons_succ]))
        refine WS.wpL_e rfl (fun K hK => ?_)
        go_simp
        refine Hsame.out.mono ?_
        rintro en w5 ⟨rfl, hf5⟩
        have hf5' : Fr No W1 w5 := hf5.ofDrew
        refine hK _ _ (fun _ => hf5') ?_
        clear hK K
        try simp only [Act.put, List.setIfInBounds_toArray, List.set_cons_zero, List.set_cons_succ]
        repeat (first | (refine WS.wpL_skip rfl ?_; try simp only [Act.put, List.setIfInBounds_toArray, List.set_cons_zero, List.set_cons_succ]) | (refine WS.wpL_q ?_ rfl ?_ ?_; rotate_left 1; (focus (intro w' hw'; have hrr' := hw'.rules; obtain ⟨hrc', _⟩ := hrr'; clear hw'; go_simp; (try with_reducible rfl); done)); try simp only [Act.put, List.setIfInBounds_toArray, List.set_cons_zero, List.set_cons_succ]))
        refine WS.wpL_nil ?_
        go_wp2_with fail
        have hsz5 := hf5'.size
        have z1 : q < w5.heap.size := by omega
        have z2 : ug < w5.heap.size := by omega
        have z3 : wv.ub x.src < w5.heap.size := by omega
        have z4 : w.heap.size < w5.heap.size := by omega
        have y5 : w5.cell? ⟨q, 5, none⟩ = _ := (hf5'.cell s1 (fun h => h) 5).trans t5
        have yu : w5.cell? ⟨ug, x.src, none⟩ = _ := (hf5'.cell s6 (fun h => h) x.src).trans tu
        have yd0 : w5.cell? ⟨w.heap.size, 0, none⟩ = _ := (hf5'.cell s5 (fun h => h) 0).trans td0
        have yd1 : w5.cell? ⟨w.heap.size, 1, none⟩ = _ := (hf5'.cell s5 (fun h => h) 1).trans td1
        have yup : w5.cell? ⟨wv.ub x.src, b, none⟩ = _ := (hf5'.cell s7 (fun h => h) b).trans tup
        have yz : ∀ o, w5.frozen? ⟨wv.ub x.src, o, none⟩ = false := fun o => (hf5'.froz s7 (fun h => h) o).trans (tub o)
        have vN0 : 0 ≤ (N : Int) := by omega
        have vN : (N : Int) ≤ 4398046511104 := by omega
        have w9 : IntKind.i64.wrap ((N : Int) + 1) = (N : Int) + 1 := IntWalk.i64_in _ (by omega)
        clear t4 t5 tt ttk tk0 td0 td1 tu tub tup s1 s2 s3 s4 s5 s6 s7 m0 m1 m2 v1 v2 v5 v6 v7 lw hkbl
        refine WS.wp_region_seq (Fr No w5) [13] [(0, true), (1, true), (2, true), (3, true), (4, true), (5, true), (6, true), (7, true), (8, true), (9, true), (10, true), (11, true), (12, true), (13, false)] (by kernel_rfl) (by kernel_rfl) (fun c d v a w h => by cases d <;> exact h) ((Fr.refl _ _).drew) ?_
        simp only [WS.pick, List.getElem?_toArray, List.getElem?_cons_succ, List.getElem?_cons_zero]
        repeat (first | (refine WS.wpL_skip rfl ?_; try simp only [Act.put, List.setIfInBounds_toArray, List.set_cons_zero, List.set_cons_succ]) | (refine WS.wpL_q ?_ rfl ?_ ?_; rotate_left 1; (focus (intro w' hw'; have hrr' := hw'.rules; obtain ⟨hrc', _⟩ := hrr'; clear hw'; go_simp; (try with_reducible rfl); done)); try simp only [Act.put, List.setIfInBounds_toArray, List.set_cons_zero, List.set_cons_succ]))
        refine WS.wpL_e rfl (fun K hK => ?_)
        go_simp
        refine hK _ _ (fun h => absurd (by decide) h) ?_
        clear hK K
        try simp only [Act.put, List.setIfInBounds_toArray, List.set_cons_zero, List.set_cons_succ]
        refine WS.wpL_nil ?_
        have hf15 := Hfa.out.then0 hf5'
        obtain ⟨hX6, hR6, hf6⟩ := (HXr.out.fr0 hf15).setUp (m := N + 1) (hRr.fr hf15) ha hb rfl
        go_wp2_with fail
        refine ⟨⟨k + 1, by omega, by go_num, ?_, hR6.fr ((Fr.refl No _).drew), (hfr.then0 hf15).trans hf6.drew⟩, by simp [intOf]; omega⟩
        have e9 : upd d.up x.src b (d.up x.src b + (k + 1)) = upd (upd d.up x.src b (d.up x.src b + k)) x.src b (N + 1) := by
          funext y1 y2
          by_cases hy : y1 = x.src ∧ y2 = b
          · obtain ⟨rfl, rfl⟩ := hy
            rw [upd_same, upd_same, HN.out]; omega
          · rw [upd_ne _ _ _ _ hy, upd_ne _ _ _ _ hy, upd_ne _ _ _ _ hy]
        rw [e9]
        exact hX6.fr0 ((Fr.refl No _).drew)
      · have hkn : k = us.length := by omega
        have hk1 : ¬ (k : Int) < (us.length : Int) := by omega
        have Hkn := Lib.hid hkn
        have hpost := f_post B wr q _ F3 b _ _ ⟨own3, wv, hXr⟩ hRr (by omega) (HM.out.outs.fr hfr HM.out.reg.free) HC.out.2.2.2.1 (by have := HC.out.2.2.2.2; show d.bag.length + _ ≤ _; omega) (by omega)
        have Hpost := Lib.hid hpost
        clear hkn hpost hXr
        go_wp2_with (go_at_call 24; refine Hpost.out.mono ?_; rintro en w10 ⟨rfl, F4, hW4, hR4, hf4, hg4⟩)
        go_end0
        have hfF3 : Fr F W wr := HM.out.fr.grew hfr HM.out.gr
        have hWw := hfW.size
        refine ⟨rfl, F4, ?_, hR4, ?_, ?_⟩
        · have := HC.out.1
          rw [this, ← Hkn.out]
          exact hW4
        · exact (hfW.mono (fun _ _ h => h.elim)).trans (hfF3.grew hf4 HM.out.gr)
        · exact fun b' hb' => (HM.out.gr.trans hg4 hfF3.size b' hb').imp id (fun h => Nat.le_trans hfW.size h)
  · refine WS.wpL_e rfl (fun K hK => ?_)
    go_simp
    have hfa : Fr No W (W.drew.drew.alloc (.cells #[nilS, nilS, .bool false] 68)) := ((Fr.refl No W).drew.drew).alloc _
    have hal : (W.drew.drew.alloc (.cells #[nilS, nilS, .bool false] 68)).heap[W.heap.size]? = some (.cells #[nilS, nilS, .bool false] 68 (0, 0)) := heap_alloc_new W.drew.drew _
    have has : (W.drew.drew.alloc (.cells #[nilS, nilS, .bool false] 68)).heap.size = W.heap.size + 1 := by
      have : W.drew.drew.heap.size = W.heap.size := rfl
      simp [this]
    refine hK _ _ (fun _ => hfa.mono (fun _ _ h => h.elim)) ?_
    clear hK K
    try simp only [Act.put, List.setIfInBounds_toArray, List.set_cons_zero, List.set_cons_succ]
    repeat (first | (refine WS.wpL_skip rfl ?_; try simp only [Act.put, List.setIfInBounds_toArray, List.set_cons_zero, List.set_cons_succ]) | (refine WS.wpL_q ?_ rfl ?_ ?_; rotate_left 1; (focus (intro w' hw'; clear hw'; go_simp; (try with_reducible rfl); done)); try simp only [Act.put, List.setIfInBounds_toArray, List.set_cons_zero, List.set_cons_succ]))
    refine WS.wpL_e rfl (fun K hK => ?_)
    have Has := Lib.hid has
    clear has
    go_simp
    refine (Htake.out _ ((HX.out.en b hb (fun h => h)).fr0 hfa) (fun k hk => hRW.fr hfa k hk.1) (Nat.le_trans (by omega : B ≤ W.heap.size) hfa.size) (hpBW.fr hfa FreeT.no)).mono ?_
    rintro en w1 ⟨vu, vm, rfl, hu, ho, hE, hf1⟩
    obtain ⟨ua, uc, rfl⟩ := hu.form
    obtain ⟨oa, oc, rfl⟩ := ho.form
    have hS1 : Fr (partT F own (.en b)) W w1 := (hfa.mono (fun _ _ h => h.elim)).trans hf1
    obtain ⟨hX1, hR1, hf1', hg1⟩ := (HX.out.fr0 hfa).setEnd (hRW.fr hfa) (Nat.le_trans (by omega : B ≤ W.heap.size) hfa.size) hE hf1
    have hnb : ¬ partT F own (.en b) W.heap.size := fun e => by have := hRW.lt _ e.1; omega
    have hw1 : w1.heap[W.heap.size]? = some (.cells #[nilS, nilS, .bool false] 68 (0, 0)) := by rw [hf1.block _ (by rw [Has.out]; omega) hnb]; exact hal
    refine hK _ _ (fun _ => hS1) ?_
    clear hK K
    simp only [takenV]
    try simp only [Act.put, List.setIfInBounds_toArray, List.set_cons_zero, List.set_cons_succ]
    repeat (first | (refine WS.wpL_skip rfl ?_; try simp only [Act.put, List.setIfInBounds_toArray, List.set_cons_zero, List.set_cons_succ]) | (refine WS.wpL_q ?_ rfl ?_ ?_; rotate_left 1; (focus (intro w' hw'; clear hw'; go_simp; (try with_reducible rfl); done)); try simp only [Act.put, List.setIfInBounds_toArray, List.set_cons_zero, List.set_cons_succ]))
    refine WS.wpL_e rfl (fun K hK => ?_)
    refine wp_store_mid 68 (.tmp 4) (.tmp 47) rfl W.heap.size 0 #[.slice ua us.length uc, .slice oa os.length oc, .bool ch] rfl rfl (there_of_heap hw1 (by simp)) (by kernel_rfl) (by simp [Value.oneCell']) ?_
    have hf3 : Fr (One W.heap.size) w1 (w1.setCells W.heap.size 0 [.slice ua us.length uc, .slice oa os.length oc, .bool ch]) := Fr.setCells (S := One W.heap.size) (.inr rfl) _ _ (Fr.refl _ _)
    have hSW : ∀ w', Fr (One W.heap.size) w1 w' → Fr (partT F own (.en b)) W w' := fun w' h => hS1.trans' h (fun k hk e => by unfold One at e; omega)
    refine hK _ _ (fun _ => hSW _ hf3) ?_
    clear hK K
    try simp only [Act.put, List.setIfInBounds_toArray, List.set_cons_zero, List.set_cons_succ]
    repeat (first | (refine WS.wpL_skip rfl ?_; try simp only [Act.put, List.setIfInBounds_toArray, List.set_cons_zero, List.set_cons_succ]) | (refine WS.wpL_q ?_ rfl ?_ ?_; rotate_left 1; (focus (intro w' hw'; clear hw'; go_simp; (try with_reducible rfl); done)); try simp only [Act.put, List.setIfInBounds_toArray, List.set_cons_zero, List.set_cons_succ]))
    refine WS.wpL_nil ?_
    obtain ⟨F3, own3, hM⟩ : ∃ F3 own3, ComeMid B W q { d with ps := upd d.ps b x.src p' } F F3 own3 wv w.heap.size W.heap.size (mailCells x (.slice pa x.out.payload.length pc)) (.slice ua us.length uc) (.slice oa os.length oc) us os ch (w1.setCells W.heap.size 0 [.slice ua us.length uc, .slice oa os.length oc, .bool ch]) := by
      have hnF : ∀ k, grow F (W.drew.drew.alloc (.cells #[nilS, nilS, .bool false] 68)) w1 k → ¬ One W.heap.size k := fun k hk e => by
        unfold One at e; subst e
        rcases hg1 _ hk with e | e
        · have := hRW.lt _ e; omega
        · rw [Has.out] at e; omega
      have hfr3 : Free B w1 (One W.heap.size) := FreeT.one (by omega) (typ_of_heap hw1) (by decide)
      refine ⟨_, _, ⟨hX1.fr hf3 hfr3 hnF, hR1.fr hf3, ?_, ?_, ?_, fun e => hnF _ e rfl, Nat.le_refl _, hu.fr hf3 hfr3, ho.fr hf3 hfr3, ?_, ?_, ?_⟩⟩
      · exact (hSW _ hf3).mono (fun _ _ h => h.1)
      · intro k hk
        rcases hg1 _ hk with e | e
        · exact .inl e
        · exact .inr (Nat.le_trans hfa.size e)
      · exact heap_setAll (cs := [.slice ua us.length uc, .slice oa os.length oc, .bool ch]) hw1 rfl
      · exact (hSW _ hf3).range hnS Hbr.out
      · intro e
        rcases hg1 _ e with e | e
        · exact hFb e
        · have := hfa.size; omega
      · have := (hSW _ hf3).size; omega
    generalize w1.setCells W.heap.size 0 [.slice ua us.length uc, .slice oa os.length oc, .bool ch] = w3 at *
    obtain ⟨nb, hnbe⟩ : ∃ nb, nb = W.heap.size := ⟨_, rfl⟩
    rw [← hnbe] at hM ⊢
    clear hX1 hR1 hf1' hg1 hE hf1 hu ho hf3 hS1 hSW hw1 hnb Has hal hfa hnbe
    have HM := Lib.hid hM
    have hc0 := hM.box 0 (.int .i64 x.src) rfl
    have hc1 := hM.box 1 (.int .i64 b) (by rw [← Hto.out]; rfl)
    rw [Nat.zero_add] at hc0 hc1
    have hblt3 := hM.blt
    have hnb3 : nb < w3.heap.size := (Array.getElem?_eq_some_iff.1 hM.var).1
    have hv0 : w3.cell? ⟨nb, 0, none⟩ = some (.slice ua us.length uc) := by simp [World.cell?, hM.var]
    have hv1 : w3.cell? ⟨nb, 1, none⟩ = some (.slice oa os.length oc) := by simp [World.cell?, hM.var]
    have huslen : us.length ≤ 4398046511104 := by have h1 := HC.out.2.2.1; have h2 := htk x.src b; omega
    clear hM c0 c1 hc2 hga hqS hmS hnS hqlt hmlt hnlt
    go_wp2_with (go_at_call 19; refine (f_num2 w3 0).mono ?_; rintro en w' ⟨rfl, rfl⟩)
    go_loopw [6] (fun i wr => ∃ k : Nat, k ≤ us.length ∧ i = .int .i64 k ∧ WorldX B wr q { d with ps := upd d.ps b x.src p', up := upd d.up x.src b (d.up x.src b + k) } F3 own3 wv ∧ Reg B wr F3 ∧ Fr F3 w3 wr) (fun i _ => 4398046511104 - (intOf i).toNat)
    case atStart => exact ⟨0, Nat.zero_le _, rfl, by rw [Nat.add_zero, upd_self]; exact HM.out.x, HM.out.reg, Fr.refl _ _⟩
    case round =>
      obtain ⟨k, hk, rfl, hXr, hRr, hfr⟩ := hrel
      have hszr := hfr.size
      have d0 : wr.cell? ⟨w.heap.size, 0, none⟩ = some (.int .i64 x.src) := by rw [hfr.cell hblt3 HM.out.bF]; exact hc0
      have d1 : wr.cell? ⟨w.heap.size, 1, none⟩ = some (.int .i64 b) := by rw [hfr.cell hblt3 HM.out.bF]; exact hc1
      have e0 : wr.cell? ⟨nb, 0, none⟩ = some (.slice ua us.length uc) := by rw [hfr.cell hnb3 HM.out.nF]; exact hv0
      have e1' : wr.cell? ⟨nb, 1, none⟩ = some (.slice oa os.length oc) := by rw [hfr.cell hnb3 HM.out.nF]; exact hv1
      have l0 : w.heap.size < wr.heap.size := by omega
      have l1 : nb < wr.heap.size := by omega
      have HXr := Lib.hid hXr
      by_cases hlt : k < us.length
      · have hk1 : (k : Int) < (us.length : Int) := by omega
        obtain ⟨u, hu⟩ : ∃ u, us[k]? = some u := ⟨_, List.getElem?_eq_getElem hlt⟩
        obtain ⟨q1, q2, q3⟩ := HC.out.2.1 k u hu
        obtain ⟨N, hN⟩ : ∃ N, N = d.up x.src b + k := ⟨_, rfl⟩
        rw [← hN] at q1 q2
        obtain ⟨tg, tc, ug, ugc, ka, kc, hP⟩ := hXr.pairC hok.h1 ha hb
        obtain ⟨ob, off, ua2, uc2, rfl, hob, himm, hrng, hBu⟩ := (HM.out.ups.fr hfr HM.out.reg.free).at hu
        have hobF : ¬ F3 ob := fun e => by
          rcases himm with hi | ⟨t, ht, hi⟩
          · have := (HM.out.reg ob e).1; omega
          · obtain ⟨_, t', ht', hn'⟩ := hRr ob e
            rw [hi] at ht'; cases ht'
            simp at ht; subst ht
            exact hn' (by decide)
        obtain ⟨p4, p5, pt, ptk, pu, pup, pz, plq, plt, pltb, plu, plub, pown⟩ := hP
        dsimp only at p4 p5 pt ptk pu pup pown
        rw [upd_same, ← hN] at pup
        have f0 := hrng 0 (.int .u8 u.src) rfl
        have f1 := hrng 1 (.int .u64 u.seq) rfl
        have f2 := hrng 2 (.slice ua2 u.body.length uc2) rfl
        rw [Nat.add_zero] at f0
        have hha : (x.src : Int) < (d.hosts : Int) := by omega
        have HN := Lib.hid hN
        have Hq1 := Lib.hid q1
        have Hq2 := Lib.hid q2
        have Hq3 := Lib.hid q3
        have HBu := Lib.hid hBu
        have Hown := Lib.hid pown
        clear hN q1 q2 q3 hu hBu pown hrng himm hXr
        go_wp2_with fail
        refine WS.wp_region_seq (Fr No wr) [] [(0, true), (1, true), (2, true), (3, true), (4, true), (5, true), (6, true), (7, true), (8, true), (9, true), (10, true), (11, true), (12, true)] (by kernel_rfl) (by kernel_rfl) (fun c d v a w h => by cases d <;> exact h) ((Fr.refl _ _).drew) ?_
        simp only [WS.pick, List.getElem?_toArray, List.getElem?_cons_succ, List.getElem?_cons_zero]
        repeat (first | (refine WS.wpL_skip rfl ?_; try simp only [Act.put, List.setIfInBounds_toArray, List.set_cons_zero, List.set_cons_succ]) | (refine WS.wpL_q ?_ rfl ?_ ?_; rotate_left 1; (focus (intro w' hw'; have hrr' := hw'.rules; obtain ⟨hrc', _⟩ := hrr'; clear hw'; go_simp; (try with_reducible rfl); done)); try simp only [Act.put, List.setIfInBounds_toArray, List.set_cons_zero, List.set_cons_succ]))
        refine WS.wpL_nil ?_
        go_wp2_with fail
        have hfa : Fr No wr (wr.alloc (.cells #[.int .u8 u.src, .int .u64 u.seq, .slice ua2 u.body.length uc2] 121)).drew := (Fr.alloc0 wr _).drew
        have hba : (wr.alloc (.cells #[.int .u8 u.src, .int .u64 u.seq, .slice ua2 u.body.length uc2] 121)).drew.heap[wr.heap.size]? = some (.cells #[.int .u8 u.src, .int .u64 u.seq, .slice ua2 u.body.length uc2] 121 (0, 0)) := heap_alloc_new wr _
        have hsa : (wr.alloc (.cells #[.int .u8 u.src, .int .u64 u.seq, .slice ua2 u.body.length uc2] 121)).drew.heap.size = wr.heap.size + 1 := by
          show (wr.alloc (.cells #[.int .u8 u.src, .int .u64 u.seq, .slice ua2 u.body.length uc2] 121)).heap.size = _
          simp
        generalize (wr.alloc (.cells #[.int .u8 u.src, .int .u64 u.seq, .slice ua2 u.body.length uc2] 121)).drew = W1 at *
        have m0 : W1.cell? ⟨wr.heap.size, 0, none⟩ = some (.int .u8 u.src) := by rw [cell_of_row _ _ 0 _ _ _ hba]; rfl
        have m1 : W1.cell? ⟨wr.heap.size, 1, none⟩ = some (.int .u64 u.seq) := by rw [cell_of_row _ _ 1 _ _ _ hba]; rfl
        have m2 : W1.cell? ⟨wr.heap.size, 2, none⟩ = some (.slice ua2 u.body.length uc2) := by rw [cell_of_row _ _ 2 _ _ _ hba]; rfl
        have lw : wr.heap.size < W1.heap.size := by omega
        have hlN : N < (d.took x.src b).length := (List.getElem?_eq_some_iff.1 Hq2.out).1
        obtain ⟨kb, ta, tc2, hkb, hkbl, _, hkr, hkB⟩ := Hown.out.at bytesEnc_len (by omega) Hq2.out
        have g0 := hkr 0 (.slice ta u.body.length tc2) rfl
        rw [Nat.mul_one, Nat.add_zero] at g0
        subst hkb
        have t4 : W1.cell? ⟨q, 4, none⟩ = _ := (hfa.cell plq (fun h => h) 4).trans p4
        have t5 : W1.cell? ⟨q, 5, none⟩ = _ := (hfa.cell plq (fun h => h) 5).trans p5
        have tt : W1.cell? ⟨tg, x.src, none⟩ = _ := (hfa.cell plt (fun h => h) x.src).trans pt
        have ttk : W1.cell? ⟨wv.tb x.src, b, none⟩ = _ := (hfa.cell pltb (fun h => h) b).trans ptk
        have tk0 : W1.cell? ⟨kb, N, none⟩ = some (.slice ta u.body.length tc2) := (hfa.cell hkbl (fun h => h) N).trans g0
        have td0 : W1.cell? ⟨w.heap.size, 0, none⟩ = _ := (hfa.cell l0 (fun h => h) 0).trans d0
        have td1 : W1.cell? ⟨w.heap.size, 1, none⟩ = _ := (hfa.cell l0 (fun h => h) 1).trans d1
        have tu : W1.cell? ⟨ug, x.src, none⟩ = _ := (hfa.cell plu (fun h => h) x.src).trans pu
        have tub : ∀ o, W1.frozen? ⟨wv.ub x.src, o, none⟩ = false := fun o => (hfa.froz plub (fun h => h) o).trans (pz o)
        have tup : W1.cell? ⟨wv.ub x.src, b, none⟩ = _ := (hfa.cell plub (fun h => h) b).trans pup
        have s1 : q < W1.heap.size := by omega
        have s2 : tg < W1.heap.size := by omega
        have s3 : wv.tb x.src < W1.heap.size := by omega
        have s4 : kb < W1.heap.size := by omega
        have s5 : w.heap.size < W1.heap.size := by omega
        have s6 : ug < W1.heap.size := by omega
        have s7 : wv.ub x.src < W1.heap.size := by omega
        have v1 : decide ((d.took x.src b).length ≤ N) = false := decide_eq_false (by omega)
        have v2 : (N : Int) < ((d.took x.src b).length : Int) := by omega
        have htk' := htk x.src b
        have v3 : IntKind.u64.wrap (N : Int) = N := u64_in (by omega) (by omega)
        have v4 : IntKind.u64.wrap ((N : Int) + 1) = (N : Int) + 1 := u64_in (by omega) (by omega)
        have v5 : ((u.seq : Int) != (N : Int) + 1) = false := by rw [bne_eq_false_iff_eq, Hq1.out]; omega
        have v6 : IntKind.i64.wrap u.src = u.src := IntWalk.i64_in _ (by rw [Hq3.out]; omega)
        have v7 : (u.src != (x.src : Int)) = false := by rw [bne_eq_false_iff_eq]; exact Hq3.out
        have hsame := f_same W1.drew (.slice ua2 u.body.length uc2) (.slice ta u.body.length tc2) u.body u.body (HBu.out.fr (hfa.drew) FreeT.no).rd (hkB.fr (hfa.drew) FreeT.no).rd
        rw [decide_eq_true rfl] at hsame
        have Hsame := Lib.hid hsame
        have Hsa := Lib.hid hsa
        have Hfa := Lib.hid hfa
        clear hsa hsame hba hkr hkB p4 p5 pt ptk pu pup pz d0 d1 f0 f1 f2 hlN htk' g0
        have hNT : (N : Int) ≤ 4398046511104 := by have := htk x.src b; omega
        refine WS.wp_region_seq (Fr No W1) [] [(0, true), (1, true), (2, true), (3, true), (4, true), (5, true), (6, true), (7, true), (8, true), (9, true), (10, true), (11, true), (12, true), (13, true), (14, true), (15, true), (16, true), (17, true), (18, true), (19, true), (20, true), (21, true), (22, true), (23, true), (24, true), (25, true), (26, true), (27, true), (28, true), (29, true), (30, true), (31, true), (32, true), (33, false), (34, true), (35, true), (36, true), (37, true), (38, true), (39, true), (40, true), (41, true), (42, true), (43, true), (44, true), (45, true), (46, true), (47, true), (48, true), (49, true), (50, true), (51, true)] (by kernel_rfl) (by kernel_rfl) (fun c d v a w h => by cases d <;> exact h) ((Fr.refl _ _).drew) ?_
        simp only [WS.pick, List.getElem?_toArray, List.getElem?_cons_succ, List.getElem?_cons_zero]
        repeat (first | (refine WS.wpL_skip rfl ?_; try simp only [Act.put, List.setIfInBounds_toArray, List.set_cons_zero, List.set_cons_succ]) | (refine WS.wpL_q ?_ rfl ?_ ?_; rotate_left 1; (focus (intro w' hw'; have hrr' := hw'.rules; obtain ⟨hrc', _⟩ := hrr'; clear hw'; go_simp; (try with_reducible rfl); done)); try simp only [Act.put, List.setIfInBounds_toArray, List.set_cons_zero, List.set_cons_succ]))
        refine WS.wpL_e rfl (fun K hK => ?_)
        go_simp
        refine Hsame.out.mono ?_
        rintro en w5 ⟨rfl, hf5⟩
        have hf5' : Fr No W1 w5 := hf5.ofDrew
        refine hK _ _ (fun _ => hf5') ?_
        clear hK K
        try simp only [Act.put, List.setIfInBounds_toArray, List.set_cons_zero, List.set_cons_succ]
        repeat (first | (refine WS.wpL_skip rfl ?_; try simp only [Act.put, List.setIfInBounds_toArray, List.set_cons_zero, List.set_cons_succ]) | (refine WS.wpL_q ?_ rfl ?_ ?_; rotate_left 1; (focus (intro w' hw'; have hrr' := hw'.rules; obtain ⟨hrc', _⟩ := hrr'; clear hw'; go_simp; (try with_reducible rfl); done)); try simp only [Act.put, List.setIfInBounds_toArray, List.set_cons_zero, List.set_cons_succ]))
        refine WS.wpL_nil ?_
        go_wp2_with fail
        have hsz5 := hf5'.size
        have z1 : q < w5.heap.size := by omega
        have z2 : ug < w5.heap.size := by omega
        have z3 : wv.ub x.src < w5.heap.size := by omega
        have z4 : w.heap.size < w5.heap.size := by omega
        have y5 : w5.cell? ⟨q, 5, none⟩ = _ := (hf5'.cell s1 (fun h => h) 5).trans t5
        have yu : w5.cell? ⟨ug, x.src, none⟩ = _ := (hf5'.cell s6 (fun h => h) x.src).trans tu
        have yd0 : w5.cell? ⟨w.heap.size, 0, none⟩ = _ := (hf5'.cell s5 (fun h => h) 0).trans td0
        have yd1 : w5.cell? ⟨w.heap.size, 1, none⟩ = _ := (hf5'.cell s5 (fun h => h) 1).trans td1
        have yup : w5.cell? ⟨wv.ub x.src, b, none⟩ = _ := (hf5'.cell s7 (fun h => h) b).trans tup
        have yz : ∀ o, w5.frozen? ⟨wv.ub x.src, o, none⟩ = false := fun o => (hf5'.froz s7 (fun h => h) o).trans (tub o)
        have vN0 : 0 ≤ (N : Int) := by omega
        have vN : (N : Int) ≤ 4398046511104 := by omega
        have w9 : IntKind.i64.wrap ((N : Int) + 1) = (N : Int) + 1 := IntWalk.i64_in _ (by omega)
        clear t4 t5 tt ttk tk0 td0 td1 tu tub tup s1 s2 s3 s4 s5 s6 s7 m0 m1 m2 v1 v2 v5 v6 v7 lw hkbl
        refine WS.wp_region_seq (Fr No w5) [13] [(0, true), (1, true), (2, true), (3, true), (4, true), (5, true), (6, true), (7, true), (8, true), (9, true), (10, true), (11, true), (12, true), (13, false)] (by kernel_rfl) (by kernel_rfl) (fun c d v a w h => by cases d <;> exact h) ((Fr.refl _ _).drew) ?_
        simp only [WS.pick, List.getElem?_toArray, List.getElem?_cons_succ, List.getElem?_cons_zero]
        repeat (first | (refine WS.wpL_skip rfl ?_; try simp only [Act.put, List.setIfInBounds_toArray, List.set_cons_zero, List.set_cons_succ]) | (refine WS.wpL_q ?_ rfl ?_ ?_; rotate_left 1; (focus (intro w' hw'; have hrr' := hw'.rules; obtain ⟨hrc', _⟩ := hrr'; clear hw'; go_simp; (try with_reducible rfl); done)); try simp only [Act.put, List.setIfInBounds_toArray, List.set_cons_zero, List.set_cons_succ]))
        refine WS.wpL_e rfl (fun K hK => ?_)
        go_simp
        refine hK _ _ (fun h => absurd (by decide) h) ?_
        clear hK K
        try simp only [Act.put, List.setIfInBounds_toArray, List.set_cons_zero, List.set_cons_succ]
        refine WS.wpL_nil ?_
        have hf15 := Hfa.out.then0 hf5'
        obtain ⟨hX6, hR6, hf6⟩ := (HXr.out.fr0 hf15).setUp (m := N + 1) (hRr.fr hf15) ha hb rfl
        go_wp2_with fail
        refine ⟨⟨k + 1, by omega, by go_num, ?_, hR6.fr ((Fr.refl No _).drew), (hfr.then0 hf15).trans hf6.drew⟩, by simp [intOf]; omega⟩
        have e9 : upd d.up x.src b (d.up x.src b + (k + 1)) = upd (upd d.up x.src b (d.up x.src b + k)) x.src b (N + 1) := by
          funext y1 y2
          by_cases hy : y1 = x.src ∧ y2 = b
          · obtain ⟨rfl, rfl⟩ := hy
            rw [upd_same, upd_same, HN.out]; omega
          · rw [upd_ne _ _ _ _ hy, upd_ne _ _ _ _ hy, upd_ne _ _ _ _ hy]
        rw [e9]
        exact hX6.fr0 ((Fr.refl No _).drew)
      · have hkn : k = us.length := by omega
        have hk1 : ¬ (k : Int) < (us.length : Int) := by omega
        have Hkn := Lib.hid hkn
        have hpost := f_post B wr q _ F3 b _ _ ⟨own3, wv, hXr⟩ hRr (by omega) (HM.out.outs.fr hfr HM.out.reg.free) HC.out.2.2.2.1 (by have := HC.out.2.2.2.2; show d.bag.length + _ ≤ _; omega) (by omega)
        have Hpost := Lib.hid hpost
        clear hkn hpost hXr
        go_wp2_with (go_at_call 24; refine Hpost.out.mono ?_; rintro en w10 ⟨rfl, F4, hW4, hR4, hf4, hg4⟩)
        go_end0
        have hfF3 : Fr F W wr := HM.out.fr.grew hfr HM.out.gr
        have hWw := hfW.size
        refine ⟨rfl, F4, ?_, hR4, ?_, ?_⟩
        · have := HC.out.1
          rw [this, ← Hkn.out]
          exact hW4
        · exact (hfW.mono (fun _ _ h => h.elim)).trans (hfF3.grew hf4 HM.out.gr)
        · exact fun b' hb' => (HM.out.gr.trans hg4 hfF3.size b' hb').imp id (fun h => Nat.le_trans hfW.size h)
end Go.Proofs.Ytplgmcpglbpghaa
