/- Part 16 of the proof: Xn5, Yproto. -/
import Derived.Test.YtplgmcpglbpghaaM15
import Derived.Test.YtplgmcpglbpghaaM06
set_option linter.all false
set_option linter.unusedVariables false
set_option linter.unusedSimpArgs false

/- Load. -/
namespace Go.Proofs.Ytplgmcpglbpghaa
open Go.RowKit

/-- The same where the operation bears a guard. -/
theorem wpList_ldg {ops : Array Oper} {rest : List Oper} {op : Oper} {a : Act} {w : World} {Q : Exit → Act → World → Prop} (hgd : Region.wanted op (yielded ops a.tmps) = true) (ty : TypeId) (x : Operand) (ho : op.op = .load ty x)
    {p v : Value} (hx : a.eval x = p) (hrun : (Instr.loadAt ty p).run Try.prog w = .ok v w)
    (h : wpList Try.prog ops Q rest (a.put op.dst v) w) : wpList Try.prog ops Q (op :: rest) a w := by
  simp only [wpList, hgd, if_true]
  exact .inl (wp_ld ty x ho hx hrun h)

theorem StateG.at {B : Nat} {G : Nat → Prop} {w : World} {a : Option Addr} {c : Nat} {l : List PStD} (h : StateG B G w (.slice a l.length c) l) {k : Nat} {s : PStD} (hl : l[k]? = some s) :
    ∃ b o vq ve, a = some ⟨b, o, none⟩ ∧ b < w.heap.size ∧ G b ∧ w.rangeAt b (o + k * 6) (pstCells s (vq, ve)) ∧ PstG B G w (vq, ve) s := by
  obtain ⟨ps, hps, hcl, a', c', he, _, _, hne⟩ := h
  cases he
  obtain ⟨p, hp, hb⟩ := hps.get hl
  have hk := (List.getElem?_eq_some_iff.1 hl).1
  obtain ⟨b, o, rfl, hg, hr⟩ := hne (fun h => by rw [h] at hcl; simp at hcl; omega)
  have hcell : w.rangeAt b (o + k * 6) (pstCells s p) := fun j v hj => by
    have hj6 : j < 6 := by have := (List.getElem?_eq_some_iff.1 hj).1; rw [pstCells_len] at this; exact this
    have := hr (k * 6 + j) v (by rw [rowOf_get pstCells_len l ps k s p hl hp j hj6]; exact hj)
    rwa [← Nat.add_assoc] at this
  exact ⟨b, o, p.1, p.2, rfl, World.block_lt_of_cell? w _ (hcell 0 _ rfl), hg, hcell, hb⟩

def stAt (l : List PStD) (h : Nat) : PStD := l.getD h PStD.zero
def okAt (me queue window : Nat) (l : List PStD) (h : Nat) : Bool := if h = me then (stAt l h).zeroB else (stAt l h).layB queue && (stAt l h).keepB window
def loadB (me hosts queue window : Nat) (l : List PStD) : Bool := (List.range hosts).all (okAt me queue window l)
def loadPeer (queue window : Nat) (l : List PStD) (h : Nat) : PeerD := ((newPeer h queue window).laid (stAt l h)).kept (stAt l h)
def loadEnd (me hosts queue window : Nat) (l : List PStD) : EndD := ⟨me, hosts, loadPeer queue window l⟩
def partEnd (me hosts queue window : Nat) (l : List PStD) (k : Nat) : EndD := ⟨me, hosts, fun h => if h < k then loadPeer queue window l h else newPeer h queue window⟩
theorem partEnd_zero (me hosts queue window : Nat) (l : List PStD) : partEnd me hosts queue window l 0 = newEnd me hosts queue window := by
  simp [partEnd, newEnd]
theorem partEnd_succ (me hosts queue window : Nat) (l : List PStD) (k : Nat) : partEnd me hosts queue window l (k + 1) = (partEnd me hosts queue window l k).set k (loadPeer queue window l k) := by
  simp only [partEnd, EndD.set, EndD.mk.injEq, true_and]
  funext h
  by_cases hk : h = k
  · subst hk; simp
  · have : h < k + 1 ↔ h < k := by omega
    simp [hk, this]
theorem EndX.congr {B : Nat} {w : World} {a : Nat} {e e' : EndD} {F : Nat → Prop} {r : Nat} {q own : Nat → Nat} (h : EndX B w a e F r q own) (h1 : e'.self = e.self) (h2 : e'.hosts = e.hosts) (h3 : ∀ x, x < e.hosts → x ≠ e.self → e'.ps x = e.ps x) : EndX B w a e' F r q own := by
  obtain ⟨s, n, ps⟩ := e
  obtain ⟨s', n', ps'⟩ := e'
  dsimp only at h1 h2 h3
  subst h1; subst h2
  exact ⟨h.fa, h.fr', h.Ba, h.Br, h.oa, h.or, h.ha, h.hr, fun x hx hne => by have := h.pe x hx hne; dsimp only at this ⊢; rw [h3 x hx hne]; exact this⟩

def LoadPost (B : Nat) (w : World) (me hosts queue window : Nat) (l : List PStD) (en : Ending) (w' : World) : Prop :=
  if l.length = hosts ∧ loadB me hosts queue window l = true then
    ∃ a F, en = .returned (.tuple #[.pointer (some ⟨a, 0, none⟩), .int .i64 0]) ∧ EndAt B w' a (loadEnd me hosts queue window l) F ∧ Reg B w' F ∧ (∀ b, F b → w.heap.size ≤ b) ∧ Fr No w w'
  else en = .returned (.tuple #[.pointer none, .int .i64 87]) ∧ Fr No w w'

theorem loadB_false {me hosts queue window : Nat} {l : List PStD} {k : Nat} (hk : k < hosts) (h : okAt me queue window l k = false) : loadB me hosts queue window l = false := by
  cases hl : loadB me hosts queue window l with
  | false => rfl
  | true =>
    have := List.all_eq_true.1 hl k (by simpa using hk)
    rw [h] at this; cases this
theorem LoadPost.no {B : Nat} {w w' : World} {me hosts queue window : Nat} {l : List PStD} (h : l.length ≠ hosts ∨ loadB me hosts queue window l = false) (hf : Fr No w w') : LoadPost B w me hosts queue window l (.returned (.tuple #[.pointer none, .int .i64 87])) w' := by
  unfold LoadPost
  rw [if_neg (by
    rintro ⟨h1, h2⟩
    rcases h with h | h
    · exact h h1
    · rw [h2] at h; cases h)]
  exact ⟨rfl, hf⟩

structure LoadInv (B : Nat) (W : World) (me hosts queue window : Nat) (l : List PStD) (a r : Nat) (q : Nat → Nat) (wr : World) (k : Nat) (F : Nat → Prop) (own : Nat → Nat) : Prop where
  ex : EndX B wr a (partEnd me hosts queue window l k) F r q own
  reg : Reg B wr F
  new : ∀ b, F b → W.heap.size ≤ b
  fr : Fr No W wr
  ok : ∀ h, h < k → okAt me queue window l h = true

set_option maxRecDepth 100000 in
set_option maxHeartbeats 4000000 in
theorem f_load (B : Nat) (G : Nat → Prop) (w : World) (me hosts queue window : Nat) (v : Value) (l : List PStD) (hB : B ≤ w.heap.size) (hf : fitsI me hosts queue window = true) (hv : StateG B G w v l) (hG : ∀ b, G b → b < w.heap.size) (hwf : ∀ s ∈ l, s.Wf) (hll : l.length ≤ 140737488351232) :
    Calls Try.prog 35 #[.int .u8 me, .int .i64 hosts, .int .i64 queue, .int .i64 window, .agg #[v]] w (LoadPost B w me hosts queue window l) := by
  have hf' := of_decide_eq_true hf
  have h16 : hosts ≤ 16 := by omega
  have hq16 : queue ≤ 16 := by omega
  have hw16 : window ≤ 16 := by omega
  have hme : me < hosts := by omega
  obtain ⟨va, vc, rfl⟩ := hv.form
  have Hv := Lib.hid hv
  have Hf := Lib.hid hf
  clear hf hf' hv
  have hW0 := heap_alloc_new w (.cells #[.slice va l.length vc] 52)
  have hfrW : Fr No w (w.alloc (.cells #[.slice va l.length vc] 52)) := Fr.alloc0 _ _
  have hszW : (w.alloc (.cells #[.slice va l.length vc] 52)).heap.size = w.heap.size + 1 := by simp
  have hcW : (w.alloc (.cells #[.slice va l.length vc] 52)).cell? ⟨w.heap.size, 0, none⟩ = some (.slice va l.length vc) := by rw [cell_of_row _ _ 0 _ _ _ hW0]; rfl
  have hnew := f_new B (w.alloc (.cells #[.slice va l.length vc] 52)) me hosts queue window (by omega) Hf.out
  have Hnew := Lib.hid hnew
  have hlW : w.heap.size < (w.alloc (.cells #[.slice va l.length vc] 52)).heap.size := by omega
  clear hnew
  go_enter Try.func35, Try.ntmps35
  go_wp2_with fail
  generalize w.alloc (.cells #[.slice va l.length vc] 52) = W at *
  by_cases hlen : l.length = hosts
  · have hlb : ((l.length : Int) != (hosts : Int)) = false := by rw [bne_eq_false_iff_eq]; omega
    have Hlen := Lib.hid hlen
    clear hlen
    go_wp2_with (go_at_call 33; refine Hnew.out.mono ?_; rintro en w1 ⟨a, rfl, he, hR1, hf1⟩; have hrc1 := hf1.rules; obtain ⟨r, q, own, hx⟩ := he; have Hx := Lib.hid hx; have ha0 : w1.cell? ⟨a, 0, none⟩ = some (.slice (some ⟨r, 0, none⟩) hosts hosts) := hx.cells.1; clear hx)
    have hs1 := hf1.size
    go_loopw [37] (fun i wr => ∃ k F own', k ≤ hosts ∧ i = .int .i64 (k : Nat) ∧ LoadInv B W me hosts queue window l a r q wr k F own') (fun i _ => 16 - (intOf i).toNat)
    case atStart => exact ⟨0, _, own, Nat.zero_le _, rfl, ⟨by rw [partEnd_zero]; exact Hx.out, hR1, fun b hb => hb.1, hf1, fun h hh => by omega⟩⟩
    case round =>
      obtain ⟨k, F, own', hk, rfl, hI⟩ := hrel
      have hx := hI.ex
      have hfw := hI.fr
      have hszr := hfw.size
      have HI := Lib.hid hI
      obtain ⟨_, hcr⟩ := hx.cells
      have hblt : w.heap.size < wr.heap.size := by omega
      have hbox : wr.cell? ⟨w.heap.size, 0, none⟩ = some (.slice va l.length vc) := by rw [hfw.cell hlW (fun h => h)]; exact hcW
      have hbS : ¬ F w.heap.size := fun h => by have := hI.new _ h; omega
      clear hI ha0 hrc1
      by_cases hlt : k < hosts
      · have hk1 : (k : Int) < (hosts : Int) := by omega
        have hk2 : (k : Int) < (l.length : Int) := by have := Hlen.out; omega
        have hc := hcr k hlt
        obtain ⟨s, hs⟩ : ∃ s, l[k]? = some s := ⟨_, List.getElem?_eq_getElem (by have := Hlen.out; omega)⟩
        have hsw := hwf s (List.mem_of_getElem? hs)
        have hst : stAt l k = s := by simp [stAt, List.getD_eq_getElem?_getD, hs]
        obtain ⟨b, o, vq, ve, rfl, hb, hGb, hrange, hpst⟩ := Hv.out.at hs
        have hbW : b < W.heap.size := by omega
        have hbF : ¬ F b := fun h => by have := HI.out.new _ h; omega
        have hld : ∀ w', Fr F wr w' → (Instr.loadAt 88 (.pointer (some ⟨b, o + k * 6, none⟩))).run Try.prog w' = .ok (.agg (pstCells s (vq, ve)).toArray) w' := fun w' hw' =>
          run_loadAt_mid w' b (o + k * 6) 88 _ _ (hw'.range hbF (hfw.range (fun h => h) (hfrW.range (fun h => h) hrange))) Try.underlying88 rfl (by kernel_rfl)
        have hld0 := hld wr (Fr.refl _ _)
        have Hst := Lib.hid hst
        have Hld := Lib.hid hld
        have Hrange := Lib.hid hrange
        clear hs hcr hst hrange hld
        by_cases hkm : k = me
        · have hh : ¬ (partEnd me hosts queue window l k).has k = true := by simp [EndD.has, partEnd, hkm]
          rw [endPtr_no hh] at hc
          have Hkm := Lib.hid hkm
          clear hkm hh
          obtain ⟨qa, qc, hvq⟩ := hpst.1.form
          obtain ⟨ea, ec, hve⟩ := hpst.2.form
          dsimp only at hvq hve
          subst hvq; subst hve
          have hz0 := f_zero wr s qa ea qc ec hsw
          have Hz0 := Lib.hid hz0
          clear hz0 hpst
          cases hz : s.zeroB with
          | true =>
            have Hz := Lib.hid hz
            clear hz
            go_wp2_with (first | (refine wpList_ldg rfl 88 (.tmp 48) rfl rfl hld0 ?_) | (go_at_call 54; refine Hz0.out.mono ?_; rintro en w2 ⟨rfl, hf2⟩; rw [Hz.out]))
            refine WS.wp_region_seq (Fr F w2) [] [(0, true), (1, true), (2, true), (3, true), (4, true), (5, true), (6, true), (7, true), (8, true), (9, true), (10, true), (11, false), (12, true), (13, true), (14, true), (15, true), (16, true), (17, true), (18, true), (19, true), (20, true), (21, false), (22, true), (23, true), (24, true)] (by kernel_rfl) (by kernel_rfl) (fun c d v a w h => by cases d <;> exact h) ((Fr.refl _ _).drew) ?_
            simp only [WS.pick, List.getElem?_toArray, List.getElem?_cons_succ, List.getElem?_cons_zero]
            repeat (first | (refine WS.wpL_skip rfl ?_; try simp only [Act.put, List.setIfInBounds_toArray, List.set_cons_zero, List.set_cons_succ]) | (refine WS.wpL_q ?_ rfl ?_ ?_; rotate_left 1; (focus (intro w' hw'; clear hw'; go_simp; (try with_reducible rfl); done)); try simp only [Act.put, List.setIfInBounds_toArray, List.set_cons_zero, List.set_cons_succ]))
            refine WS.wpL_eskip rfl (fun _ => (Fr.refl _ _).drew) ?_
            try simp only [Act.put, List.setIfInBounds_toArray, List.set_cons_zero, List.set_cons_succ]
            repeat (first | (refine WS.wpL_skip rfl ?_; try simp only [Act.put, List.setIfInBounds_toArray, List.set_cons_zero, List.set_cons_succ]) | (refine WS.wpL_q ?_ rfl ?_ ?_; rotate_left 1; (focus (intro w' hw'; clear hw'; go_simp; (try with_reducible rfl); done)); try simp only [Act.put, List.setIfInBounds_toArray, List.set_cons_zero, List.set_cons_succ]))
            refine WS.wpL_eskip rfl (fun _ => (Fr.refl _ _).drew) ?_
            try simp only [Act.put, List.setIfInBounds_toArray, List.set_cons_zero, List.set_cons_succ]
            repeat (first | (refine WS.wpL_skip rfl ?_; try simp only [Act.put, List.setIfInBounds_toArray, List.set_cons_zero, List.set_cons_succ]) | (refine WS.wpL_q ?_ rfl ?_ ?_; rotate_left 1; (focus (intro w' hw'; clear hw'; go_simp; (try with_reducible rfl); done)); try simp only [Act.put, List.setIfInBounds_toArray, List.set_cons_zero, List.set_cons_succ]))
            refine WS.wpL_nil ?_
            go_wp2_with fail
            have hI := HI.out
            refine ⟨⟨k + 1, F, own', by omega, by go_num, ⟨?_, hI.reg.fr hf2.drew, hI.new, hfw.then0 hf2.drew, fun h hh => ?_⟩⟩, by simp [intOf]; omega⟩
            · refine (hI.ex.fr hf2.drew FreeT.no (fun _ _ h => h)).congr rfl rfl fun x hx hne => ?_
              have hkm := Hkm.out
              have hne' : x ≠ me := hne
              have : x < k + 1 ↔ x < k := by omega
              simp only [partEnd, this]
            · by_cases hhk : h = k
              · rw [hhk]; unfold okAt; rw [if_pos Hkm.out, Hst.out]; exact Hz.out
              · exact hI.ok h (by omega)
          | false =>
            have Hz := Lib.hid hz
            clear hz
            go_wp2_with (first | (refine wpList_ldg rfl 88 (.tmp 48) rfl rfl hld0 ?_) | (go_at_call 54; refine Hz0.out.mono ?_; rintro en w2 ⟨rfl, hf2⟩; rw [Hz.out]))
            go_ret2
            exact LoadPost.no (.inr (loadB_false hlt (by unfold okAt; rw [if_pos Hkm.out, Hst.out]; exact Hz.out))) ((hfrW.then0 hfw).then0 hf2)
        · have hh : (partEnd me hosts queue window l k).has k = true := by simp [EndD.has, partEnd, hlt, hkm]
          rw [endPtr_yes hh] at hc
          have hI := HI.out
          have hpe := hI.ex.pe k hlt hkm
          rw [show (partEnd me hosts queue window l k).ps k = newPeer k queue window by simp [partEnd]] at hpe
          have hxd := hI.ex.fr ((Fr.refl No wr).drew) FreeT.no (fun _ _ h => h)
          have hRd : Reg B wr.drew F := hI.reg.fr ((Fr.refl No wr).drew)
          have hpst1 : PstG B G wr.drew (vq, ve) s := ((hpst.fr hfrW FreeT.no (fun _ _ h => h)).fr hfw FreeT.no (fun _ _ h => h)).fr ((Fr.refl No wr).drew) FreeT.no (fun _ _ h => h)
          have hlayC := f_lay B G wr.drew (q k) (newPeer k queue window) (part F own' k) s vq ve (hpe.fr ((Fr.refl No wr).drew) FreeT.no (fun _ _ h => h)) (hRd.part own' k) (by show B ≤ wr.heap.size; omega) hpst1 hsw hq16
          have HlayC := Lib.hid hlayC
          have Hxd := Lib.hid hxd
          have Hkm := Lib.hid hkm
          clear hkm hh hpe hxd hlayC hI
          have hqlt := hblt
          have hqS := hbS
          go_wp2_with fail
          refine WS.wp_region_seq (Fr F wr) [] [(0, true), (1, true), (2, true), (3, true), (4, true), (5, true), (6, true), (7, true), (8, true), (9, true), (10, true), (11, false), (12, true), (13, true), (14, true), (15, true), (16, true), (17, true), (18, true), (19, true), (20, true), (21, false), (22, true), (23, true), (24, true)] (by kernel_rfl) (by kernel_rfl) (fun c d v a w h => by cases d <;> exact h) ((Fr.refl _ _).drew) ?_
          simp only [WS.pick, List.getElem?_toArray, List.getElem?_cons_succ, List.getElem?_cons_zero]
          repeat (first | (refine WS.wpL_skip rfl ?_; try simp only [Act.put, List.setIfInBounds_toArray, List.set_cons_zero, List.set_cons_succ]) | (refine WS.wpL_q ?_ rfl ?_ ?_; rotate_left 1; (focus (intro w' hw'; have hrc' := Fr.rules1 hw' hqlt hqS; clear hw'; go_simp; (try with_reducible rfl); done)); try simp only [Act.put, List.setIfInBounds_toArray, List.set_cons_zero, List.set_cons_succ]))
          refine wpL_ld 88 (.tmp 62) rfl rfl rfl Hld.out ?_
          try simp only [Act.put, List.setIfInBounds_toArray, List.set_cons_zero, List.set_cons_succ]
          repeat (first | (refine WS.wpL_skip rfl ?_; try simp only [Act.put, List.setIfInBounds_toArray, List.set_cons_zero, List.set_cons_succ]) | (refine WS.wpL_q ?_ rfl ?_ ?_; rotate_left 1; (focus (intro w' hw'; have hrc' := Fr.rules1 hw' hqlt hqS; clear hw'; go_simp; (try with_reducible rfl); done)); try simp only [Act.put, List.setIfInBounds_toArray, List.set_cons_zero, List.set_cons_succ]))
          refine WS.wpL_e rfl (fun K hK => ?_)
          go_simp
          refine HlayC.out.mono ?_
          rintro en w2 ⟨rfl, hf2, hp2⟩
          have hf2F : Fr F wr w2 := hf2.ofDrew.mono (fun _ _ h => h.1)
          cases hlay : s.layB (newPeer k queue window).room with
          | false =>
            have Hlay := Lib.hid hlay
            clear hlay
            refine hK _ _ (fun _ => hf2F) ?_
            clear hK K
            try simp only [Act.put, List.setIfInBounds_toArray, List.set_cons_zero, List.set_cons_succ]
            repeat (first | (refine WS.wpL_skip rfl ?_; try simp only [Act.put, List.setIfInBounds_toArray, List.set_cons_zero, List.set_cons_succ]) | (refine WS.wpL_q ?_ rfl ?_ ?_; rotate_left 1; (focus (intro w' hw'; have hrc' := Fr.rules1 hw' hqlt hqS; clear hw'; go_simp; (try with_reducible rfl); done)); try simp only [Act.put, List.setIfInBounds_toArray, List.set_cons_zero, List.set_cons_succ]))
            refine WS.wpL_eskip rfl (fun _ => hf2F) ?_
            try simp only [Act.put, List.setIfInBounds_toArray, List.set_cons_zero, List.set_cons_succ]
            repeat (first | (refine WS.wpL_skip rfl ?_; try simp only [Act.put, List.setIfInBounds_toArray, List.set_cons_zero, List.set_cons_succ]) | (refine WS.wpL_q ?_ rfl ?_ ?_; rotate_left 1; (focus (intro w' hw'; have hrc' := Fr.rules1 hw' hqlt hqS; clear hw'; go_simp; (try with_reducible rfl); done)); try simp only [Act.put, List.setIfInBounds_toArray, List.set_cons_zero, List.set_cons_succ]))
            refine WS.wpL_nil ?_
            go_wp2_with fail
            go_ret2
            exact LoadPost.no (.inr (loadB_false hlt (by unfold okAt; rw [if_neg Hkm.out, Hst.out]; have := Hlay.out; rw [show (newPeer k queue window).room = queue from rfl] at this; rw [this]; rfl))) ((hfrW.then0 hfw).trans' hf2F (fun x hx h => by have := HI.out.new _ h; omega))
          | true =>
            have Hlay := Lib.hid hlay
            have hx2 := Hxd.out.step hRd hlt (hp2 hlay) hf2
            have hR2 : Reg B w2 (grow F wr.drew w2) := hRd.grow (hf2.mono (fun _ _ h => h.1)) (by show B ≤ wr.heap.size; omega)
            have hpe2 := hx2.pe k hlt Hkm.out
            rw [EndD.set_ps] at hpe2
            have hsz2 := hf2F.size
            have hGF : ∀ b, G b → ¬ part F own' k b := fun b hb h => by have := hG b hb; have := HI.out.new _ h.1; omega
            have hkeepC := f_keep B G w2 (q k) ((newPeer k queue window).laid s) _ s vq ve hpe2 (hR2.part _ k) (by omega) (hpst1.fr hf2 ((hRd.part own' k).free8) hGF) hsw hw16
            have HkeepC := Lib.hid hkeepC
            have Hx2 := Lib.hid hx2
            clear hkeepC hx2 hpe2 hlay hp2
            refine hK _ _ (fun _ => hf2F) ?_
            clear hK K
            try simp only [Act.put, List.setIfInBounds_toArray, List.set_cons_zero, List.set_cons_succ]
            repeat (first | (refine WS.wpL_skip rfl ?_; try simp only [Act.put, List.setIfInBounds_toArray, List.set_cons_zero, List.set_cons_succ]) | (refine WS.wpL_q ?_ rfl ?_ ?_; rotate_left 1; (focus (intro w' hw'; have hrc' := Fr.rules1 hw' hqlt hqS; clear hw'; go_simp; (try with_reducible rfl); done)); try simp only [Act.put, List.setIfInBounds_toArray, List.set_cons_zero, List.set_cons_succ]))
            refine wpL_ld 88 (.tmp 72) rfl rfl rfl Hld.out ?_
            try simp only [Act.put, List.setIfInBounds_toArray, List.set_cons_zero, List.set_cons_succ]
            repeat (first | (refine WS.wpL_skip rfl ?_; try simp only [Act.put, List.setIfInBounds_toArray, List.set_cons_zero, List.set_cons_succ]) | (refine WS.wpL_q ?_ rfl ?_ ?_; rotate_left 1; (focus (intro w' hw'; have hrc' := Fr.rules1 hw' hqlt hqS; clear hw'; go_simp; (try with_reducible rfl); done)); try simp only [Act.put, List.setIfInBounds_toArray, List.set_cons_zero, List.set_cons_succ]))
            refine WS.wpL_e rfl (fun K hK => ?_)
            go_simp
            refine HkeepC.out.mono ?_
            rintro en w3 ⟨rfl, hf3, hp3⟩
            have hf3F : Fr F wr w3 := hf2F.trans' hf3 (fun x hx h => by
              rcases h.1 with h | ⟨h1, _⟩
              · exact h
              · have h1' : wr.heap.size ≤ x := h1
                omega)
            have hokk : okAt me queue window l k = s.keepB ((newPeer k queue window).laid s).reach := by
              unfold okAt
              rw [if_neg Hkm.out, Hst.out]
              have := Hlay.out
              rw [show (newPeer k queue window).room = queue from rfl] at this
              rw [this]; rfl
            have Hokk := Lib.hid hokk
            clear hokk
            cases hkeep : s.keepB ((newPeer k queue window).laid s).reach with
            | false =>
              have Hkeep := Lib.hid hkeep
              clear hkeep
              refine hK _ _ (fun _ => hf3F) ?_
              clear hK K
              try simp only [Act.put, List.setIfInBounds_toArray, List.set_cons_zero, List.set_cons_succ]
              repeat (first | (refine WS.wpL_skip rfl ?_; try simp only [Act.put, List.setIfInBounds_toArray, List.set_cons_zero, List.set_cons_succ]) | (refine WS.wpL_q ?_ rfl ?_ ?_; rotate_left 1; (focus (intro w' hw'; have hrc' := Fr.rules1 hw' hqlt hqS; clear hw'; go_simp; (try with_reducible rfl); done)); try simp only [Act.put, List.setIfInBounds_toArray, List.set_cons_zero, List.set_cons_succ]))
              refine WS.wpL_nil ?_
              go_wp2_with fail
              go_ret2
              exact LoadPost.no (.inr (loadB_false hlt (by rw [Hokk.out]; exact Hkeep.out))) ((hfrW.then0 hfw).trans' hf3F (fun x hx h => by have := HI.out.new _ h; omega))
            | true =>
              have Hkeep := Lib.hid hkeep
              obtain ⟨own3, hx3⟩ : ∃ own3, EndX B w3 a (((partEnd me hosts queue window l k).set k ((newPeer k queue window).laid s)).set k (((newPeer k queue window).laid s).kept s)) (grow (grow F wr.drew w2) w2 w3) r q own3 := ⟨_, Hx2.out.step hR2 hlt (hp3 hkeep) hf3⟩
              have hR3 : Reg B w3 (grow (grow F wr.drew w2) w2 w3) := hR2.grow (hf3.mono (fun _ _ h => h.1)) (by omega)
              have Hx3 := Lib.hid hx3
              clear hx3 hkeep hp3
              refine hK _ _ (fun _ => hf3F) ?_
              clear hK K
              try simp only [Act.put, List.setIfInBounds_toArray, List.set_cons_zero, List.set_cons_succ]
              repeat (first | (refine WS.wpL_skip rfl ?_; try simp only [Act.put, List.setIfInBounds_toArray, List.set_cons_zero, List.set_cons_succ]) | (refine WS.wpL_q ?_ rfl ?_ ?_; rotate_left 1; (focus (intro w' hw'; have hrc' := Fr.rules1 hw' hqlt hqS; clear hw'; go_simp; (try with_reducible rfl); done)); try simp only [Act.put, List.setIfInBounds_toArray, List.set_cons_zero, List.set_cons_succ]))
              refine WS.wpL_nil ?_
              go_wp2_with fail
              have hI := HI.out
              refine ⟨⟨k + 1, _, own3, by omega, by go_num, ⟨?_, hR3, fun b hb => ?_, hfw.trans' hf3F (fun x hx h => by have := hI.new _ h; omega), fun h hh => ?_⟩⟩, by simp [intOf]; omega⟩
              · refine Hx3.out.congr rfl rfl fun x hx hne => ?_
                by_cases hxk : x = k
                · subst hxk
                  rw [EndD.set_ps]
                  simp only [partEnd]
                  rw [if_pos (Nat.lt_succ_self x)]
                  unfold loadPeer; rw [Hst.out]
                · rw [EndD.set_ne _ _ _ hxk, EndD.set_ne _ _ _ hxk]
                  have : x < k + 1 ↔ x < k := by omega
                  simp only [partEnd, this]
              · rcases hb with (hb | ⟨h1, _⟩) | ⟨h1, _⟩
                · exact hI.new b hb
                · have h1' : wr.heap.size ≤ b := h1
                  omega
                · omega
              · by_cases hhk : h = k
                · rw [hhk, Hokk.out]; exact Hkeep.out
                · exact hI.ok h (by omega)
      · have hkn : k = hosts := by omega
        have hk1 : ¬ (k : Int) < (hosts : Int) := by omega
        have Hkn := Lib.hid hkn
        clear hkn
        go_wp2_with fail
        go_ret2
        have hI := HI.out
        rw [Hkn.out] at hI
        unfold LoadPost
        rw [if_pos ⟨Hlen.out, List.all_eq_true.2 fun x hx => hI.ok x (by simpa using hx)⟩]
        exact ⟨a, F, rfl, ⟨r, q, own', hI.ex.congr rfl rfl (fun x hx _ => by
          have hx' : x < hosts := hx
          show loadPeer queue window l x = if x < hosts then loadPeer queue window l x else newPeer x queue window
          rw [if_pos hx'])⟩, hI.reg, fun b hb => by have := hI.new b hb; omega, hfrW.then0 hI.fr⟩
  · have hlb : ((l.length : Int) != (hosts : Int)) = true := by rw [bne_iff_ne]; omega
    have Hlen := Lib.hid hlen
    clear hlen
    go_wp2_with (go_at_call 33; refine Hnew.out.mono ?_; rintro en w1 ⟨a, rfl, he, hR1, hf1⟩; have hrc1 := hf1.rules)
    go_ret2
    exact LoadPost.no (.inl Hlen.out) (hfrW.then0 hf1)
end Go.Proofs.Ytplgmcpglbpghaa

/- The protocol between two ends, as plain data: what stays true. No Go and no memory here. -/
namespace Go.Proofs.Ytplgmcpglbpghaa

/-- The number n has come. -/
def Rec (R : PeerD) (n : Nat) : Prop := n ≤ R.deliv ∨ ∃ f ∈ R.early, f.1 = n

/-- Sender S, receiver R, and what was taken. -/
structure Pair (S R : PeerD) (T : List (List Int)) : Prop where
  sent : S.sent = T.length
  ack : S.acked ≤ R.deliv
  del : R.deliv ≤ S.sent
  queue : S.queue = T.drop S.acked
  early : ∀ f ∈ R.early, f.1 ≤ S.sent ∧ T[f.1 - 1]? = some f.2
  mask : ∀ i, S.mask.testBit i = true → Rec R (S.acked + 2 + i)
  tb : ∀ l ∈ T, 1 ≤ l.length ∧ l.length ≤ 3072
  win : R.reach = S.window

structure DataIn (S : PeerD) (T : List (List Int)) (seq : Nat) (pl : List Int) : Prop where
  lo : 1 ≤ seq
  hi : seq ≤ S.sent
  win : seq ≤ S.acked + S.window
  body : T[seq - 1]? = some pl
structure AckIn (R : PeerD) (seq mask : Nat) : Prop where
  le : seq ≤ R.deliv
  m64 : mask ≤ u64max
  bits : ∀ i, mask.testBit i = true → Rec R (seq + 2 + i)

/-- From p to p' nothing has gone back. -/
structure Mono (p p' : PeerD) : Prop where
  to : p'.to = p.to
  room : p'.room = p.room
  window : p'.window = p.window
  reach : p'.reach = p.reach
  sent : p.sent ≤ p'.sent
  acked : p.acked ≤ p'.acked
  deliv : p.deliv ≤ p'.deliv
  came : ∀ n, Rec p n → Rec p' n
theorem Mono.refl (p : PeerD) : Mono p p := ⟨rfl, rfl, rfl, rfl, Nat.le_refl _, Nat.le_refl _, Nat.le_refl _, fun _ h => h⟩

theorem DataIn.mono {S S' : PeerD} {T T' : List (List Int)} {seq : Nat} {pl : List Int} (h : DataIn S T seq pl) (hm : Mono S S') (hT : ∀ (i : Nat) x, T[i]? = some x → T'[i]? = some x) : DataIn S' T' seq pl :=
  ⟨h.lo, Nat.le_trans h.hi hm.sent, by have := h.win; have := hm.acked; have := hm.window; omega, hT _ _ h.body⟩
theorem AckIn.mono {R R' : PeerD} {seq mask : Nat} (h : AckIn R seq mask) (hm : Mono R R') : AckIn R' seq mask :=
  ⟨Nat.le_trans h.le hm.deliv, h.m64, fun i hi => hm.came _ (h.bits i hi)⟩

theorem Pair.rec_le {S R : PeerD} {T : List (List Int)} (h : Pair S R T) {n : Nat} (hn : Rec R n) : n ≤ S.sent := by
  rcases hn with hn | ⟨f, hf, rfl⟩
  · have := h.del; omega
  · exact (h.early f hf).1

/-- Only the receiver's half turns. -/
theorem Pair.recv {S R R' : PeerD} {T : List (List Int)} (h : Pair S R T) (hm : Mono R R') (hd : R'.deliv ≤ S.sent) (he : ∀ f ∈ R'.early, f.1 ≤ S.sent ∧ T[f.1 - 1]? = some f.2) : Pair S R' T :=
  ⟨h.sent, Nat.le_trans h.ack hm.deliv, hd, h.queue, he, fun i hi => hm.came _ (h.mask i hi), h.tb, by rw [hm.reach]; exact h.win⟩

/-- What the queue holds at a place, was taken with that number. -/
theorem Pair.dataIn {S R : PeerD} {T : List (List Int)} (h : Pair S R T) (hok : S.Ok) {i : Nat} (hi : i < min S.queue.length S.window) : DataIn S T (S.data i).seq (S.data i).payload := by
  have hq := hok.qlen
  have ha := hok.acked
  have hl : i < S.queue.length := by omega
  refine ⟨by simp only [PeerD.data]; omega, by simp only [PeerD.data]; omega, by simp only [PeerD.data]; omega, ?_⟩
  simp only [PeerD.data]
  have e : S.queue[i]? = some (S.queue.getD i []) := by rw [List.getD_eq_getElem?_getD, List.getElem?_eq_getElem hl]; rfl
  rw [← e, h.queue, List.getElem?_drop]
  congr 1; omega

theorem drain_nums : ∀ (L : List Frm) (d i : Nat) (f : Frm), (PeerD.drain d L).1[i]? = some f → f.1 = d + 1 + i
  | [], d, i, f, h => by simp [PeerD.drain] at h
  | g :: l, d, i, f, h => by
    simp only [PeerD.drain] at h
    split at h
    · rename_i hg
      cases i with
      | zero => simp at h; subst h; simpa using hg
      | succ i =>
        have := drain_nums l (d + 1) i f (by simpa using h)
        omega
    · simp at h

/-- What a Data does. -/
structure Came (S R : PeerD) (T : List (List Int)) (r : PeerD × List UpD × List OutD × Bool × Int) : Prop where
  err : r.2.2.2.2 = 0
  mono : Mono R r.1
  same : r.1.sent = R.sent ∧ r.1.acked = R.acked ∧ r.1.queue = R.queue ∧ r.1.mask = R.mask
  pair : Pair S r.1 T
  ups : r.1.deliv = R.deliv + r.2.1.length
  up : ∀ i u, r.2.1[i]? = some u → u.seq = R.deliv + 1 + i ∧ T[R.deliv + i]? = some u.body ∧ u.src = R.to
  mails : r.2.2.1 = [r.1.ack]

theorem Pair.came {S R : PeerD} {T : List (List Int)} (h : Pair S R T) (hok : R.Ok) {seq : Nat} {pl : List Int} (hd : DataIn S T seq pl) (hseq : seq ≤ u64max) : Came S R T (R.come seq pl) ∧ Rec (R.come seq pl).1 seq := by
  have hpl := h.tb pl (List.mem_of_getElem? hd.body)
  unfold PeerD.come
  rw [if_neg (by omega), if_neg (by have := hd.win; have := h.ack; have := h.win; omega)]
  split
  · rename_i hc
    refine ⟨⟨rfl, Mono.refl _, ⟨rfl, rfl, rfl, rfl⟩, h, by simp, by simp, rfl⟩, ?_⟩
    rcases hc with hc | hc
    · exact .inl hc
    · obtain ⟨f, hf, e⟩ := List.any_eq_true.1 hc
      exact .inr ⟨f, hf, by simpa using e⟩
  · rename_i hc
    have h4 : R.deliv < seq := Nat.lt_of_not_le fun e => hc (.inl e)
    have h5 : (R.early.any fun f => f.1 == seq) = false := by
      cases e : R.early.any fun f => f.1 == seq with
      | false => rfl
      | true => exact absurd (.inr e) hc
    obtain ⟨s, hL⟩ := hok.laid h4 (by have := hd.win; have := h.ack; have := h.win; omega) h5 hseq hpl
    obtain ⟨i1, i2, i3, i4, i5⟩ := drain_spec (PeerD.insertAt R.early seq pl) R.deliv s (fun f hf => (hL f hf).1)
    have hin : ∀ f ∈ PeerD.insertAt R.early seq pl, f.1 ≤ S.sent ∧ T[f.1 - 1]? = some f.2 := by
      intro f hf
      rcases mem_insertAt.1 hf with rfl | hf
      · exact ⟨hd.hi, hd.body⟩
      · exact h.early f hf
    generalize hl : PeerD.insertAt R.early seq pl = L at *
    have hcase : ∀ f ∈ L, f.1 ≤ (PeerD.drain R.deliv L).2.1 ∨ f ∈ (PeerD.drain R.deliv L).2.2 := by
      intro f hf
      rw [i1, List.mem_append] at hf
      rcases hf with hf | hf
      · exact .inl (i4 f hf)
      · exact .inr hf
    have hm : Mono R { R with deliv := (PeerD.drain R.deliv L).2.1, early := (PeerD.drain R.deliv L).2.2 } := by
      refine ⟨rfl, rfl, rfl, rfl, Nat.le_refl _, Nat.le_refl _, by rw [i2]; exact Nat.le_add_right _ _, ?_⟩
      rintro n (hn | ⟨f, hf, rfl⟩)
      · refine .inl ?_
        show n ≤ (PeerD.drain R.deliv L).2.1
        omega
      · rcases hcase f (by rw [← hl]; exact mem_insertAt.2 (.inr hf)) with hh | hh
        · exact .inl hh
        · exact .inr ⟨f, hh, rfl⟩
    refine ⟨⟨rfl, hm, ⟨rfl, rfl, rfl, rfl⟩, h.recv hm ?_ ?_, ?_, ?_, rfl⟩, ?_⟩
    · show (PeerD.drain R.deliv L).2.1 ≤ S.sent
      by_cases he : (PeerD.drain R.deliv L).1 = []
      · rw [i2, he]; simpa using h.del
      · obtain ⟨f, hf, e⟩ := i5 he
        rw [← e]; exact (hin f hf).1
    · intro f hf
      exact hin f (by rw [i1]; exact List.mem_append_right _ hf)
    · show (PeerD.drain R.deliv L).2.1 = _
      rw [i2]; simp
    · intro i u hu
      simp only [List.getElem?_map, Option.map_eq_some_iff] at hu
      obtain ⟨f, hf, rfl⟩ := hu
      have hn := drain_nums L R.deliv i f hf
      refine ⟨hn, ?_, rfl⟩
      have := (hin f (by rw [i1]; exact List.mem_append_left _ (List.mem_of_getElem? hf))).2
      rw [hn, show R.deliv + 1 + i - 1 = R.deliv + i by omega] at this
      exact this
    · rcases hcase (seq, pl) (by rw [← hl]; exact mem_insertAt.2 (.inl rfl)) with hh | hh
      · exact .inl hh
      · exact .inr ⟨_, hh, rfl⟩

theorem testBit_or_pow (m n i : Nat) : (m ||| 2 ^ n).testBit i = true ↔ m.testBit i = true ∨ i = n := by
  rw [Nat.testBit_or, Nat.testBit_two_pow]
  simp only [Bool.or_eq_true, decide_eq_true_eq]
  constructor
  · rintro (h | h)
    · exact .inl h
    · exact .inr h.symm
  · rintro (h | h)
    · exact .inl h
    · exact .inr h.symm

theorem ackMask_bits (d : Nat) (l : List Frm) (i : Nat) : (PeerD.ackMask d l).testBit i = true ↔ ∃ f ∈ l, f.1 - d - 2 = i := by
  unfold PeerD.ackMask
  suffices ∀ m : Nat, (l.foldl (fun m f => m ||| 2 ^ (f.1 - d - 2)) m).testBit i = true ↔ m.testBit i = true ∨ ∃ f ∈ l, f.1 - d - 2 = i by
    rw [this 0]; simp
  induction l with
  | nil => simp
  | cons f l ih =>
    intro m
    rw [List.foldl_cons, ih, testBit_or_pow]
    constructor
    · rintro ((h | h) | ⟨g, hg, e⟩)
      · exact .inl h
      · exact .inr ⟨f, List.mem_cons_self, h.symm⟩
      · exact .inr ⟨g, List.mem_cons_of_mem _ hg, e⟩
    · rintro (h | ⟨g, hg, e⟩)
      · exact .inl (.inl h)
      · rcases List.mem_cons.1 hg with rfl | hg
        · exact .inl (.inr e.symm)
        · exact .inr ⟨g, hg, e⟩

theorem ackMask_le (d : Nat) (l : List Frm) (h : ∀ f ∈ l, f.1 - d - 2 < 64) : PeerD.ackMask d l ≤ u64max := by
  have : PeerD.ackMask d l < 2 ^ 64 := by
    refine Nat.lt_pow_two_of_testBit _ fun i hi => ?_
    cases e : (PeerD.ackMask d l).testBit i with
    | false => rfl
    | true =>
      obtain ⟨f, hf, e'⟩ := (ackMask_bits d l i).1 e
      have := h f hf
      omega
  unfold u64max; omega

theorem PeerD.Ok.early_bit {p : PeerD} (h : p.Ok) : ∀ f ∈ p.early, f.1 - p.deliv - 2 < 64 := fun f hf => by
  have h1 := (h.early f hf).2.1
  have h2 := h.win
  have h3 := h.room16
  have h4 := h.reach
  omega

/-- The Ack that is sent says just what has come. -/
theorem ack_in {R : PeerD} (h : R.Ok) : AckIn R R.ack.seq R.ack.mask := by
  refine ⟨Nat.le_refl _, ackMask_le _ _ h.early_bit, fun i hi => ?_⟩
  obtain ⟨f, hf, e⟩ := (ackMask_bits _ _ _).1 hi
  have := (h.early f hf).1
  exact .inr ⟨f, hf, by simp only [PeerD.ack]; omega⟩

/-- What an Ack does. -/
structure Heard (S R : PeerD) (T : List (List Int)) (r : PeerD × List OutD × Bool × Int) (seq : Nat) : Prop where
  err : r.2.2.2 = 0
  mono : Mono S r.1
  same : r.1.sent = S.sent ∧ r.1.deliv = S.deliv ∧ r.1.early = S.early
  pair : Pair r.1 R T
  acked : r.1.acked = max S.acked seq
  mails : r.2.1 = r.1.datas (min S.queue.length S.window - (r.1.acked - S.acked)) (if S.acked < seq then min r.1.queue.length r.1.window else 0)

theorem Pair.heard {S R : PeerD} {T : List (List Int)} (h : Pair S R T) (hok : S.Ok) {seq mask : Nat} (ha : AckIn R seq mask) : Heard S R T (S.heard seq mask) seq := by
  have hb : S.beyond seq mask = false := by
    cases e : S.beyond seq mask with
    | false => rfl
    | true =>
      unfold PeerD.beyond beyondB at e
      simp only [Bool.and_eq_true, decide_eq_true_eq] at e
      have h1 := ha.bits (Nat.log2 mask) (Nat.testBit_log2 e.1)
      have h2 := h.rec_le h1
      omega
  have hs : ¬ (S.sent < seq ∨ S.beyond seq mask = true) := by
    rintro (e | e)
    · have := ha.le; have := h.del; omega
    · rw [hb] at e; cases e
  unfold PeerD.heard
  rw [if_neg hs]
  by_cases h1 : seq < S.acked
  · rw [if_pos h1]
    exact ⟨rfl, Mono.refl _, ⟨rfl, rfl, rfl⟩, h, by show S.acked = _; omega, by rw [if_neg (by omega)]; simp [PeerD.datas]⟩
  · rw [if_neg h1]
    by_cases h2 : seq = S.acked
    · rw [if_pos h2]
      refine ⟨rfl, ⟨rfl, rfl, rfl, rfl, Nat.le_refl _, Nat.le_refl _, Nat.le_refl _, fun _ h => h⟩, ⟨rfl, rfl, rfl⟩, ⟨h.sent, h.ack, h.del, h.queue, h.early, ?_, h.tb, h.win⟩, by show S.acked = _; omega, by rw [if_neg (by omega)]; simp [PeerD.datas]⟩
      intro i hi
      have hi' : (S.mask ||| mask).testBit i = true := hi
      rw [Nat.testBit_or, Bool.or_eq_true] at hi'
      rcases hi' with hi | hi
      · exact h.mask i hi
      · have := ha.bits i hi; rw [h2] at this; exact this
    · rw [if_neg h2]
      have hlt : S.acked < seq := by omega
      refine ⟨rfl, ⟨rfl, rfl, rfl, rfl, Nat.le_refl _, by show S.acked ≤ seq; omega, Nat.le_refl _, fun _ h => h⟩, ⟨rfl, rfl, rfl⟩, ⟨h.sent, ha.le, h.del, ?_, h.early, ha.bits, h.tb, h.win⟩, by show seq = _; omega, by rw [if_pos hlt]⟩
      show S.queue.drop (seq - S.acked) = T.drop seq
      rw [h.queue, List.drop_drop]
      congr 1; omega

/-- What a Send does. -/
structure Pushed (S R : PeerD) (T : List (List Int)) (l : List Int) (r : PeerD × List OutD × Int) : Prop where
  mono : Mono S r.1
  same : r.1.acked = S.acked ∧ r.1.deliv = S.deliv ∧ r.1.early = S.early ∧ r.1.mask = S.mask
  pair : Pair r.1 R (T ++ [l])
  outs : ∀ o ∈ r.2.1, ∃ i, i < min r.1.queue.length r.1.window ∧ o = r.1.data i

theorem Pair.pushed {S R : PeerD} {T : List (List Int)} (h : Pair S R T) (hok : S.Ok) {l : List Int} (hl : 1 ≤ l.length ∧ l.length ≤ 3072) (he : (S.push l).2.2 = 0) : Pushed S R T l (S.push l) := by
  unfold PeerD.push at he ⊢
  split at he
  · cases he
  · rename_i h1
    rw [if_neg h1]
    split at he
    · cases he
    · rename_i h2
      rw [if_neg h2]
      have hq := hok.qlen
      have ha := hok.acked
      have hs := h.sent
      refine ⟨⟨rfl, rfl, rfl, rfl, Nat.le_add_right _ _, Nat.le_refl _, Nat.le_refl _, fun _ h => h⟩, ⟨rfl, rfl, rfl, rfl⟩, ⟨?_, h.ack, ?_, ?_, ?_, h.mask, ?_, h.win⟩, ?_⟩
      · show S.sent + 1 = (T ++ [l]).length
        simp; omega
      · have := h.del; show R.deliv ≤ S.sent + 1; omega
      · show S.queue ++ [l] = (T ++ [l]).drop S.acked
        rw [List.drop_append_of_le_length (by omega), ← h.queue]
      · intro f hf
        obtain ⟨a, b⟩ := h.early f hf
        refine ⟨by show f.1 ≤ S.sent + 1; omega, ?_⟩
        rw [List.getElem?_append_left (List.getElem?_eq_some_iff.1 b).1]; exact b
      · intro g hg
        rcases List.mem_append.1 hg with hg | hg
        · exact h.tb g hg
        · rw [List.mem_singleton.1 hg]; exact hl
      · intro o ho
        show ∃ i, i < min (S.queue ++ [l]).length S.window ∧ _
        dsimp only at ho
        split at ho
        · rename_i hw
          refine ⟨S.queue.length, by simp; omega, ?_⟩
          rw [List.mem_singleton.1 ho]
          rfl
        · cases ho

theorem push_err {S : PeerD} {l : List Int} (he : (S.push l).2.2 ≠ 0) : (S.push l).1 = S ∧ (S.push l).2.1 = [] ∧ (S.room ≤ S.queue.length ∨ S.sent = u64max) := by
  unfold PeerD.push at he ⊢
  split
  · rename_i h1; exact ⟨rfl, rfl, .inl h1⟩
  · split
    · rename_i h1 h2; exact ⟨rfl, rfl, .inr h2⟩
    · rename_i h1 h2
      rw [if_neg h1, if_neg h2] at he
      exact absurd rfl he

theorem mem_datas {p : PeerD} {lo hi : Nat} {o : OutD} (h : o ∈ p.datas lo hi) : ∃ i, lo ≤ i ∧ i < hi ∧ o = p.data i := by
  unfold PeerD.datas at h
  obtain ⟨i, hi, rfl⟩ := List.mem_map.1 h
  have := List.mem_range'_1.1 hi
  exact ⟨i, this.1, by omega, rfl⟩
theorem mem_again {p : PeerD} {o : OutD} (h : o ∈ p.again) : ∃ i, i < min p.queue.length p.window ∧ p.due i = true ∧ o = p.data i := by
  unfold PeerD.again PeerD.againTo at h
  obtain ⟨i, hi, rfl⟩ := List.mem_map.1 h
  have := List.mem_filter.1 hi
  exact ⟨i, by simpa using this.1, this.2, rfl⟩
end Go.Proofs.Ytplgmcpglbpghaa
