/- Part 10 of the proof: Xs13. -/
import Derived.Test.YtplgmcpglbpghaaM09
import Derived.Test.YtplgmcpglbpghaaM06
set_option linter.all false
set_option linter.unusedVariables false
set_option linter.unusedSimpArgs false

namespace Go.Proofs.Ytplgmcpglbpghaa
open Go.RowKit

theorem frames_one : ∀ {l : List (Nat × List Int)} {vs : List Value}, (∀ v ∈ vs, v.oneCell' = true) → ∀ u ∈ cellsOf frameCells l vs, u.oneCell' = true
  | [], [], _, u, hu => by cases hu
  | _ :: _, [], _, u, hu => by cases hu
  | [], _ :: _, _, u, hu => by cases hu
  | f :: l, v :: vs, h, u, hu => by
    simp only [cellsOf, frameCells, List.cons_append, List.nil_append, List.mem_cons] at hu
    rcases hu with rfl | rfl | hu
    · rfl
    · exact h _ List.mem_cons_self
    · exact frames_one (fun v hv => h v (List.mem_cons_of_mem _ hv)) u hu
theorem bytes_one {B : Nat} {w : World} {vs : List Value} {ls : List (List Int)} (h : All2 (Bytes B w) vs ls) : ∀ v ∈ vs, v.oneCell' = true := All2.all (fun v l h => by obtain ⟨a, c, rfl⟩ := Bytes.form h; rfl) h

/-- The early frames were laid anew, in their row or in a new one, and the peer takes the list. -/
theorem PeerAt.newEarly {B : Nat} {w w4 : World} {q : Nat} {p : PeerD} {F S : Nat → Prop} (h : PeerAt B w q p F) (hR : Reg B w F) (hf : Fr S w w4) (hS : ∀ b, S b → F b ∧ typ w b = some 97) {v : Value} {n : Nat} {vs : List Value} {l : List (Nat × List Int)} (hown : w4.ownsRow B 97 2 v n (cellsOf frameCells l vs)) (hvs : All2 (Bytes B w4) vs (l.map (·.2))) (hn : n = l.length) :
    PeerAt B (w4.setCell ⟨q, 10, none⟩ v) q { p with early := l } (fun b => F b ∨ v.ownBlock = some b) := by
  have hlt := h.lt
  obtain ⟨h0, hb, vq, ve, hh, ⟨us, hus, hown2, he⟩, _⟩ := h
  have hSq : ¬ S q := fun e => by have h1 := (hS q e).2; rw [typ_of_heap hh] at h1; exact absurd h1 (by decide)
  have hh4 := hh
  rw [← hf.block q hlt hSq] at hh4
  have hfw := Fr.setCell0 w4 ⟨q, 10, none⟩ v
  have hfree : Free B w4 (One q) := by rintro b rfl; exact (hR.fr hf).free _ h0
  have hfS : Free B w S := fun b hb hi => hR.free b (hS b hb).1 hi
  subst hn
  refine ⟨.inl h0, hb, vq, v, by rw [heap_set hh4]; rfl, ⟨us, hus.mono fun _ _ h => (h.fr hf (hfS.sub (by decide))).fr hfw (hfree.sub (by decide)), ?_, fun k hk => .inl (he k hk)⟩, ⟨vs, hvs.mono fun _ _ h => h.fr hfw (hfree.sub (by decide)), ?_, fun k hk => .inr hk⟩⟩
  · refine owns_fr (owns_fr hown2 hf (fun k hk e => ?_)) hfw (fun j hj e => own_ne hown2 hh (by decide) (by rw [hj, e]))
    have h1 := (hS k e).2
    rw [(owns_typ hown2 hk).1] at h1
    exact absurd h1 (by decide)
  · exact owns_fr hown hfw (fun j hj e => own_ne hown hh4 (by decide) (by rw [hj, e]))

theorem PeerAt.fr8 {B : Nat} {S F : Nat → Prop} {w w' : World} {q : Nat} {p : PeerD} (h : PeerAt B w q p F) (hf : Fr S w w') (hS : FreeT [5] B w S) (hn : ∀ k, F k → ¬ S k) : PeerAt B w' q p F := by
  have hlt := h.lt
  obtain ⟨h0, hb, vq, ve, hh, ⟨vs, hvs, hown, hq⟩, ⟨us, hus, hown2, he⟩⟩ := h
  exact ⟨h0, hb, vq, ve, by rw [hf.block q hlt (hn q h0)]; exact hh, ⟨vs, hvs.mono fun _ _ h => h.fr hf hS, owns_fr hown hf (fun k hk => hn k (hq k hk)), hq⟩, ⟨us, hus.mono fun _ _ h => h.fr hf hS, owns_fr hown2 hf (fun k hk => hn k (he k hk)), he⟩⟩

def toUp (to : Int) (f : Nat × List Int) : UpD := { src := to, seq := f.1, body := f.2 }

def lenAt (w : World) (a : Addr) : Nat := match w.cell? a with | some (.slice _ n _) => n | _ => 0

theorem PeerAt.early_len {B : Nat} {w : World} {q : Nat} {p : PeerD} {F : Nat → Prop} (h : PeerAt B w q p F) : lenAt w ⟨q, 10, none⟩ = p.early.length := by
  obtain ⟨_, _, vq, ve, hh, _, vs, hvs, hown, _⟩ := h
  have g10 := (peerCells_get hh).2.2.2.2
  obtain ⟨_, a, c, rfl, _⟩ := range_of_owns hown
  unfold lenAt; rw [g10]

/-- What stays true from round to round of the loop that hands up. -/
structure ComeInv (B q tb : Nat) (F5 : Nat → Prop) (W6 : World) (p : PeerD) (L : List (Nat × List Int)) (wr : World) (us : List (Nat × List Int)) (d : Nat) (rest : List (Nat × List Int)) (v : Value) : Prop where
  pe : PeerAt B wr q { p with deliv := d, early := rest } F5
  at_ : wr.heap[tb]? = some (.cells #[v, nilS, .bool true] 68 (0, 0))
  own : UpsOwn B (tb + 1) wr v (us.map (toUp p.to))
  fr : Fr (fun b => F5 b ∨ b = tb) W6 wr
  dr : PeerD.drain p.deliv L = (us ++ (PeerD.drain d rest).1, (PeerD.drain d rest).2)
  srt : rest.Pairwise fun f g => f.1 < g.1
  gt : ∀ f ∈ rest, d < f.1 ∧ f.1 ≤ u64max
  len : us.length + rest.length ≤ 17

set_option maxRecDepth 100000 in
set_option maxHeartbeats 8000000 in
theorem come_new (B : Nat) (w : World) (q : Nat) (p : PeerD) (F : Nat → Prop) (m : MsgD) (x : MsgA) (pa : Option Addr) (pc seq : Nat) (hp : PeerAt B w q p F) (hR : Reg B w F) (hB : B ≤ w.heap.size) (hok : p.Ok) (hs : m.seq = seq) (hseq : seq ≤ u64max) (hpl : Bytes B w (.slice pa m.payload.length pc) m.payload) (hsz0 : szB m.payload.length = true)
    (h1 : p.deliv < seq) (h2 : seq - p.deliv ≤ p.reach) (hany : (p.early.any fun f => f.1 == seq) = false) (L : List (Nat × List Int)) (hL : L = PeerD.insertAt p.early seq m.payload) (p' : PeerD) (hp' : p' = { p with deliv := (PeerD.drain p.deliv L).2.1, early := (PeerD.drain p.deliv L).2.2 }) :
    Calls Try.prog 43 #[.pointer (some ⟨q, 7, none⟩), .agg (msgVals m x (.slice pa m.payload.length pc)).toArray] w (TakePost B w q F p' ((PeerD.drain p.deliv L).1.map (toUp p.to)) [p'.ack] true 0) := by
  have hlt := hp.lt
  have hp0 := Lib.hid hp
  obtain ⟨_, _, vq, ve, hh, _, hE⟩ := hp
  obtain ⟨⟨g0, g1, g2, g3⟩, ⟨g4, g5, g6, g7⟩, g8, g9, g10⟩ := peerCells_get hh
  obtain ⟨_, mg1, _, mg16⟩ := msg_get m x (.slice pa m.payload.length pc)
  rw [hs] at mg1
  have hplen := hpl.1
  have hpmax : m.payload.length ≤ maxLen := by unfold maxLen; omega
  have Hpl := Lib.hid hpl
  generalize (msgVals m x (.slice pa m.payload.length pc)).toArray = A at *
  have hW := InW.mk' w A
  have c1 := hW.msg 1
  have c16 := hW.msg 16
  rw [mg1] at c1
  rw [mg16] at c16
  have hth := hW.there
  have hT := typ_of_heap hW.res
  have hfr := hW.fr
  have hsz := hW.size
  obtain ⟨hrc, hrf⟩ := hfr.rules
  have hlW : w.heap.size < (inW w A).heap.size := by omega
  have hlW1 : w.heap.size + 1 < (inW w A).heap.size := by omega
  have hqW : q < (inW w A).heap.size := by omega
  have g7W : (inW w A).cell? ⟨q, 7, none⟩ = some (.int .u8 p.to) := by rw [hrc _ _ hlt]; exact g7
  have g8W : (inW w A).cell? ⟨q, 8, none⟩ = some (.int .u64 p.reach) := by rw [hrc _ _ hlt]; exact g8
  have g9W : (inW w A).cell? ⟨q, 9, none⟩ = some (.int .u64 p.deliv) := by rw [hrc _ _ hlt]; exact g9
  have g10W : (inW w A).cell? ⟨q, 10, none⟩ = some ve := by rw [hrc _ _ hlt]; exact g10
  have hpW : PeerAt B (inW w A) q p F := hp0.out.fr hfr FreeT.no (fun _ _ h => h)
  have hRW : Reg B (inW w A) F := hR.fr hfr
  clear hs mg1 g0 g1 g2 g3 g4 g5 g6 g7 g8 g9 g10 hW hrc hrf hh hsz hpl hplen
  have hEW := hE.fr hfr FreeT.no (fun _ _ h => h)
  obtain ⟨ao, c, b, rfl, hnc, hao⟩ := hEW.search
  have hel := hok.early_len
  have hsort := hok.sorted
  have hd1 : decide (p.deliv < seq) = true := by simp; omega
  have hd1' : (p.deliv : Int) < (seq : Int) := by omega
  have e1 : IntKind.u64.wrap ((seq : Int) - p.deliv) = (seq : Int) - p.deliv := u64_in (by omega) (by unfold u64max at hseq; omega)
  have hd2 : ¬ (p.reach : Int) < (seq : Int) - p.deliv := by omega
  have hd2' : decide ((p.reach : Int) < (seq : Int) - p.deliv) = false := by simp; omega
  have hd3 : decide (seq ≤ p.deliv) = false := by simp; omega
  have hlaid := hok.laid h1 h2 hany hseq (szB_true.1 hsz0)
  rw [← hL] at hlaid
  have Hlaid := Lib.hid hlaid
  have HL := Lib.hid hL
  have Hany := Lib.hid hany
  have Hp' := Lib.hid hp'
  clear h2 hany hlaid hL hp'
  go_enter Try.func43, Try.ntmps43
  go_wp2_with (go_at_call 45; refine (f_sized _ pa m.payload.length pc hpmax).mono ?_; rintro e w1 ⟨rfl, rfl⟩; rw [hsz0])
  rw [show (w.alloc (.cells A 45)).alloc (.cells #[nilS, nilS, .bool false] 68) = inW w A from rfl]
  generalize inW w A = W at *
  clear mg16
  refine WS.wp_region_seq (Fr No W) [] [(0, true), (1, true), (2, true), (3, true), (4, true), (5, true), (6, true), (7, true), (8, true), (9, true), (10, true), (11, true), (12, true), (13, true), (14, true), (15, true), (16, true), (17, true), (18, true), (19, true), (20, true)] (by kernel_rfl) (by kernel_rfl) (fun c d v a w h => by cases d <;> exact h) ((Fr.refl _ _).drew) ?_
  simp only [WS.pick, List.getElem?_toArray, List.getElem?_cons_succ, List.getElem?_cons_zero]
  repeat (first | (refine WS.wpL_skip rfl ?_; try simp only [Act.put, List.setIfInBounds_toArray, List.set_cons_zero, List.set_cons_succ]) | (refine WS.wpL_q ?_ rfl ?_ ?_; rotate_left 1; (focus (intro w' hw'; have hrr' := hw'.rules; obtain ⟨hrc', _⟩ := hrr'; clear hw'; go_simp; (try with_reducible rfl); done)); try simp only [Act.put, List.setIfInBounds_toArray, List.set_cons_zero, List.set_cons_succ]))
  refine WS.wpL_nil ?_
  go_wp2_with fail
  refine WS.wp_region_seq (Fr No W) [] [(0, true), (1, true), (2, true), (3, true), (4, true), (5, true), (6, false), (7, true), (8, true), (9, true), (10, true), (11, true)] (by kernel_rfl) (by kernel_rfl) (fun c d v a w h => by cases d <;> exact h) ((Fr.refl _ _).drew.drew) ?_
  simp only [WS.pick, List.getElem?_toArray, List.getElem?_cons_succ, List.getElem?_cons_zero]
  repeat (first | (refine WS.wpL_skip rfl ?_; try simp only [Act.put, List.setIfInBounds_toArray, List.set_cons_zero, List.set_cons_succ]) | (refine WS.wpL_q ?_ rfl ?_ ?_; rotate_left 1; (focus (intro w' hw'; have hrr' := hw'.rules; obtain ⟨hrc', _⟩ := hrr'; clear hw'; go_simp; (try with_reducible rfl); done)); try simp only [Act.put, List.setIfInBounds_toArray, List.set_cons_zero, List.set_cons_succ]))
  refine WS.wpL_e rfl (fun K hK => ?_)
  go_simp
  refine (f_search W.drew.drew b c p.early seq ao (fun h => ⟨(hao h).1, (hao h).2⟩) hsort (by omega) hnc).mono ?_
  rintro e w1 ⟨rfl, hf1⟩
  rw [Hany.out]
  have hf1' := hf1.ofDrew.ofDrew
  refine hK _ _ (fun _ => hf1') ?_
  clear hK K hf1
  try simp only [Act.put, List.setIfInBounds_toArray, List.set_cons_zero, List.set_cons_succ]
  repeat (first | (refine WS.wpL_skip rfl ?_; try simp only [Act.put, List.setIfInBounds_toArray, List.set_cons_zero, List.set_cons_succ]) | (refine WS.wpL_q ?_ rfl ?_ ?_; rotate_left 1; (focus (intro w' hw'; have hrr' := hw'.rules; obtain ⟨hrc', _⟩ := hrr'; clear hw'; go_simp; (try with_reducible rfl); done)); try simp only [Act.put, List.setIfInBounds_toArray, List.set_cons_zero, List.set_cons_succ]))
  refine WS.wpL_nil ?_
  obtain ⟨hrc1, hrf1⟩ := hf1'.rules
  go_wp2_with fail
  refine WS.wp_region_seq (Fr No W) [] [(0, true), (1, true), (2, true), (3, true), (4, true), (5, true), (6, true), (7, true), (8, true), (9, true)] (by kernel_rfl) (by kernel_rfl) (fun c d v a w h => by cases d <;> exact h) (hf1'.drew) ?_
  simp only [WS.pick, List.getElem?_toArray, List.getElem?_cons_succ, List.getElem?_cons_zero]
  repeat (first | (refine WS.wpL_skip rfl ?_; try simp only [Act.put, List.setIfInBounds_toArray, List.set_cons_zero, List.set_cons_succ]) | (refine WS.wpL_q ?_ rfl ?_ ?_; rotate_left 1; (focus (intro w' hw'; have hrr' := hw'.rules; obtain ⟨hrc', _⟩ := hrr'; clear hw'; go_simp; (try with_reducible rfl); done)); try simp only [Act.put, List.setIfInBounds_toArray, List.set_cons_zero, List.set_cons_succ]))
  refine WS.wpL_nil ?_
  have hf1d := hf1'.drew
  go_wp2_with fail
  obtain ⟨hrcd, hrfd⟩ := hf1d.rules
  obtain ⟨vs, hvs, hown, hFo⟩ := hEW
  generalize hSd : (fun b => (Value.slice ao p.early.length c).ownBlock = some b) = S
  have hSF : ∀ b, S b → F b := by rw [← hSd]; exact hFo
  refine WS.wp_region_seq (Fr S W) [16] [(0, true), (1, true), (2, true), (3, true), (4, true), (5, true), (6, true), (7, true), (8, true), (9, true), (10, false), (11, true), (12, false), (13, false), (14, true), (15, true), (16, false)] (by kernel_rfl) (by kernel_rfl) (fun c d v a w h => by cases d <;> exact h) (hf1d.drew.mono (fun _ _ h => h.elim)) ?_
  simp only [WS.pick, List.getElem?_toArray, List.getElem?_cons_succ, List.getElem?_cons_zero]
  have hz10 : ∀ o, W.frozen? ⟨q, o, none⟩ = false := fun o => by
    obtain ⟨_, _, _, _, hh', _⟩ := hpW
    simp [World.frozen?, hh']
  have hqlt := hqW
  have hqS : ¬ S q := by
    rw [← hSd]; intro e
    obtain ⟨_, _, _, _, hh', _⟩ := hpW
    exact own_ne hown hh' (by decide) e
  have hmlt := hlW
  have hmS : ¬ S w.heap.size := by
    intro e
    have := hR.lt _ (hSF _ e)
    omega
  repeat (first | (refine WS.wpL_skip rfl ?_; try simp only [Act.put, List.setIfInBounds_toArray, List.set_cons_zero, List.set_cons_succ]) | (refine WS.wpL_q ?_ rfl ?_ ?_; rotate_left 1; (focus (intro w' hw'; have hrc' := Fr.rules1 hw' hqlt hqS; have hrm' := Fr.rules1 hw' hmlt hmS; clear hw'; go_simp; (try with_reducible rfl); done)); try simp only [Act.put, List.setIfInBounds_toArray, List.set_cons_zero, List.set_cons_succ]))
  refine WS.wpL_e rfl (fun K hK => ?_)
  go_simp
  refine (cloneB B _ (.slice pa m.payload.length pc) m.payload (Hpl.out.fr (hfr.then0 hf1d.drew) FreeT.no)).mono ?_
  rintro e w2 ⟨pv, rfl, hpv, hf2⟩
  obtain ⟨oa, oc, rfl⟩ := hpv.form
  have hf2' : Fr No W w2 := hf1d.drew.then0 hf2
  refine hK _ _ (fun _ => hf2'.mono (fun _ _ h => h.elim)) ?_
  clear hK K
  try simp only [Act.put, List.setIfInBounds_toArray, List.set_cons_zero, List.set_cons_succ]
  repeat (first | (refine WS.wpL_skip rfl ?_; try simp only [Act.put, List.setIfInBounds_toArray, List.set_cons_zero, List.set_cons_succ]) | (refine WS.wpL_q ?_ rfl ?_ ?_; rotate_left 1; (focus (intro w' hw'; have hrc' := Fr.rules1 hw' hqlt hqS; have hrm' := Fr.rules1 hw' hmlt hmS; clear hw'; go_simp; (try with_reducible rfl); done)); try simp only [Act.put, List.setIfInBounds_toArray, List.set_cons_zero, List.set_cons_succ]))
  refine WS.wpL_e rfl (fun K hK => ?_)
  go_simp
  have hf3 := hf2'.alloc (.cells (frameCells (seq, m.payload) (.slice oa m.payload.length oc)).toArray 97)
  have hv3 : (w2.alloc (.cells (frameCells (seq, m.payload) (.slice oa m.payload.length oc)).toArray 97)).heap[w2.heap.size]? = some (.cells (frameCells (seq, m.payload) (.slice oa m.payload.length oc)).toArray 97 (0, 0)) := heap_alloc_new _ _
  refine hK _ _ (fun _ => hf3.mono (fun _ _ h => h.elim)) ?_
  clear hK K
  try simp only [Act.put, List.setIfInBounds_toArray, List.set_cons_zero, List.set_cons_succ]
  repeat (first | (refine WS.wpL_skip rfl ?_; try simp only [Act.put, List.setIfInBounds_toArray, List.set_cons_zero, List.set_cons_succ]) | (refine WS.wpL_q ?_ rfl ?_ ?_; rotate_left 1; (focus (intro w' hw'; have hrc' := Fr.rules1 hw' hqlt hqS; have hrm' := Fr.rules1 hw' hmlt hmS; clear hw'; go_simp; (try with_reducible rfl); done)); try simp only [Act.put, List.setIfInBounds_toArray, List.set_cons_zero, List.set_cons_succ]))
  refine WS.wpL_e rfl (fun K hK => ?_)
  go_simp
  have hpl3 : Bytes B (w2.alloc (.cells (frameCells (seq, m.payload) (.slice oa m.payload.length oc)).toArray 97)) (.slice oa m.payload.length oc) m.payload := hpv.fr (Fr.alloc0 _ _) FreeT.no
  have hb3 : w2.heap.size < (w2.alloc (.cells (frameCells (seq, m.payload) (.slice oa m.payload.length oc)).toArray 97)).heap.size := by simp
  simp only [frameCells] at hf3 hv3 hpl3 hb3
  generalize hw3 : w2.alloc (.cells [Value.int .u64 (seq : Int), .slice oa m.payload.length oc].toArray 97) = w3 at *
  have hown3 := owns_fr hown hf3 (fun k _ h => h)
  have hsz3 := (hfr.then0 hf2').size
  have hpll : placeOf p.early seq ≤ p.early.length := placeOf_le _ _
  refine (f_insert B w3 (.slice ao p.early.length c) p.early.length (place p.early seq) (cellsOf frameCells p.early vs) [.int .u64 seq, .slice oa m.payload.length oc] w2.heap.size hown3 (frames_one (bytes_one hvs)) hpll rfl (by simp [Value.oneCell']) hv3 (fun e => by have := hR.lt _ (hFo _ e); omega) (by omega) (by omega)).mono ?_
  rintro e w4 ⟨v4, rfl, hown4, hf4, hcase⟩
  rw [show ([.int .u64 (seq : Int), .slice oa m.payload.length oc] : List Value) = frameCells (seq, m.payload) (.slice oa m.payload.length oc) from rfl, show place p.early seq = placeOf p.early seq from rfl, cellsOf_insert frameCells_length _ _ _ _ _ (by rw [hvs.length, List.length_map]) hpll, ← insertAt_eq, ← HL.out] at hown4
  have hf4' : Fr S w3 w4 := by rw [← hSd]; exact hf4
  have hfS : Fr S W w4 := (hf3.mono (fun _ _ h => h.elim)).trans hf4'
  have hLl : L.length = p.early.length + 1 := by rw [HL.out, insertAt_length]
  rw [← hLl] at hown4
  obtain ⟨a4, c4, rfl⟩ := owns_form hown4
  refine hK _ _ (fun _ => hfS) ?_
  clear hK K
  try simp only [Act.put, List.setIfInBounds_toArray, List.set_cons_zero, List.set_cons_succ]
  repeat (first | (refine WS.wpL_skip rfl ?_; try simp only [Act.put, List.setIfInBounds_toArray, List.set_cons_zero, List.set_cons_succ]) | (refine WS.wpL_q ?_ rfl ?_ ?_; rotate_left 1; (focus (intro w' hw'; have hrc' := Fr.rules1 hw' hqlt hqS; have hrm' := Fr.rules1 hw' hmlt hmS; clear hw'; go_simp; (try with_reducible rfl); done)); try simp only [Act.put, List.setIfInBounds_toArray, List.set_cons_zero, List.set_cons_succ]))
  have hrc4 := hfS.rules1 hqlt hqS
  refine WS.wpL_e rfl (fun K hK => ?_)
  go_simp
  refine hK _ _ (fun h => absurd (by decide) h) ?_
  clear hK K
  try simp only [Act.put, List.setIfInBounds_toArray, List.set_cons_zero, List.set_cons_succ]
  refine WS.wpL_nil ?_
  have hST : ∀ b, S b → F b ∧ typ W b = some 97 := by rw [← hSd]; exact fun b hb => ⟨hFo b hb, (owns_typ hown hb).1⟩
  have hp5 : PeerAt B (w4.setCell ⟨q, 10, none⟩ (.slice a4 (p.early.length + 1) c4)) q { p with early := L } (fun b => F b ∨ (Value.slice a4 (p.early.length + 1) c4).ownBlock = some b) := by
    rw [← hLl]
    refine PeerAt.newEarly hpW hRW hfS hST hown4 ?_ rfl
    rw [HL.out, insertAt_eq, List.map_append, List.map_cons, List.map_take, List.map_drop]
    refine All2.append ((hvs.mono fun _ _ h => (h.fr hfS (fun b hb hi => hRW.free8 b (hSF b hb) hi))).take _) ⟨?_, (hvs.mono fun _ _ h => (h.fr hfS (fun b hb hi => hRW.free8 b (hSF b hb) hi))).drop _⟩
    exact hpl3.fr hf4' (fun b hb hi => (hRW.fr hf3).free8 b (hSF b hb) hi)
  have hF5w : Fr F w (w4.setCell ⟨q, 10, none⟩ (.slice a4 (p.early.length + 1) c4)) := ((hfr.mono (S' := F) (fun _ _ h => h.elim)).trans (hfS.mono (fun b _ hb => hSF b hb))).setCell _ _ (.inr hp0.out.here)
  have hFq : F q := hp0.out.here
  have hF4 : ∀ b, (F b ∨ (Value.slice a4 (p.early.length + 1) c4).ownBlock = some b) → grow F w (w4.setCell ⟨q, 10, none⟩ (.slice a4 (p.early.length + 1) c4)) b := by
    rintro b (hb | hb)
    · exact .inl hb
    · rcases hcase with hc | ⟨k, hc, hk⟩
      · rw [← hLl, hc] at hb
        exact .inl (hFo b hb)
      · rw [← hLl, hc] at hb
        cases hb
        rw [← hLl] at *
        have ht := owns_typ hown4 hc
        refine .inr ⟨by omega, ?_, .inr ?_⟩
        · have := typ_lt ht.1; simp [World.setCell]; exact this
        · rw [typ_setCell]; exact ht.1
  rw [← hLl] at hp5 hF5w hF4
  obtain ⟨F5, hF5e⟩ : ∃ F5 : Nat → Prop, ∀ b, F5 b ↔ (F b ∨ (Value.slice a4 L.length c4).ownBlock = some b) := ⟨_, fun _ => Iff.rfl⟩
  replace hp5 := hp5.mono (fun b hb => (hF5e b).2 hb)
  replace hF4 := fun b (hb : F5 b) => hF4 b ((hF5e b).1 hb)
  have hF5 : ∀ b, F b → F5 b := fun b hb => (hF5e b).2 (.inl hb)
  clear hF5e
  have hth5 : (w4.setCell ⟨q, 10, none⟩ (.slice a4 L.length c4)).there (w.heap.size + 1) 0 3 := there_fr (there_fr hth hfS (fun h => by have := hR.lt _ (hSF _ h); omega)) (Fr.setCell0 _ _ _) (fun h => by unfold One at h; simp at h; omega)
  have hT5 := (Fr.setCell0 w4 ⟨q, 10, none⟩ (.slice a4 L.length c4)).ty _ _ (hfS.ty _ _ hT)
  rw [← hLl]
  have hL16 : L.length ≤ 17 := by omega
  generalize (w4.setCell ⟨q, 10, none⟩ (.slice a4 L.length c4)) = W5 at *
  clear hLl hcase hown4 hfS hf4' hpl3 hST hb3 hv3 hf3 hpv hf2' hf2 hrc4 hown3 hqS hqlt hmS hmlt hz10 hSF hSd hFo hvs hown hrcd hrfd hf1d hrc1 hrf1 hf1' hlW hlW1 hqW hth hT hfr g7W g8W g9W g10W hpW hRW c1 c16 hE hpll hsz3 hw3 hf4
  have hR5 : Reg B W5 F5 := fun b hb => hR.grow hF5w hB b (hF4 b hb)
  go_wp2_with fail
  have htb : (W5.alloc (.cells #[nilS, nilS, .bool true] 68)).heap[W5.heap.size]? = some (.cells #[nilS, nilS, .bool true] 68 (0, 0)) := heap_alloc_new W5 _
  have hall : Fr No W5 (W5.alloc (.cells #[nilS, nilS, .bool true] 68)) := Fr.alloc0 _ _
  have hsz6 : (W5.alloc (.cells #[nilS, nilS, .bool true] 68)).heap.size = W5.heap.size + 1 := by simp
  generalize W5.alloc (.cells #[nilS, nilS, .bool true] 68) = W6 at *
  have hp6 := hp5.fr hall FreeT.no (fun _ _ h => h)
  have hR6 := hR5.fr hall
  have hF5lt := hR5.lt
  have HZ6 := Lib.hid hsz6
  clear hsz6
  go_loopw [9] (fun _ wr => ∃ us d rest v, ComeInv B q W5.heap.size F5 W6 p L wr us d rest v) (fun _ wr => lenAt wr ⟨q, 10, none⟩)
  case atStart =>
    exact ⟨[], p.deliv, L, nilS, hp6, htb, OwnL.nil _ _ _ _ _ _ _, Fr.refl _ _, by simp, Hlaid.out.1, fun f hf => ⟨(Hlaid.out.2 f hf).1, (Hlaid.out.2 f hf).2.2.1⟩, by simpa using hL16⟩
  case round =>
    obtain ⟨us, d, rest, v, hI⟩ := hrel
    have hpr := hI.pe
    have hRr := hR6.fr hI.fr
    have HI := Lib.hid hI
    clear hI
    obtain ⟨_, _, vqr, ver, hhr, _, vs, hvs, hown, hFo⟩ := id hpr
    obtain ⟨⟨k0, k1, k2, k3⟩, ⟨k4, k5, k6, k7⟩, k8, k9, k10⟩ := peerCells_get hhr
    obtain ⟨hcl, ar, cr, rfl, hncr, hcmr, hne⟩ := range_of_owns hown
    dsimp only at k7 k9 k10 hcl hncr hvs hown hFo hne
    clear k0 k1 k2 k3 k4 k5 k6 k8
    have hqr : q < wr.heap.size := hpr.lt
    have hmeas : lenAt wr ⟨q, 10, none⟩ = rest.length := by unfold lenAt; rw [k10]
    have hsplit : rest = [] ∨ (∃ f l', rest = f :: l' ∧ f.1 ≠ d + 1) ∨ (∃ f l', rest = f :: l' ∧ f.1 = d + 1) := by
      cases rest with
      | nil => exact .inl rfl
      | cons f l' =>
        by_cases h : f.1 = d + 1
        · exact .inr (.inr ⟨f, l', rfl, h⟩)
        · exact .inr (.inl ⟨f, l', rfl, h⟩)
    rcases hsplit with hr0 | ⟨f, l', hr0, hne1⟩ | ⟨f, l', hr0, heq1⟩
    · have hdrain : PeerD.drain d rest = ([], d, rest) := by rw [hr0]; rfl
      have hrl : rest.length = 0 := by rw [hr0]; rfl
      rw [hrl] at k10
      have Hmeas := Lib.hid hmeas
      clear hmeas hr0
      go_wp2_with fail
      refine WS.wp_region_seq (Fr No wr) [] [(0, true), (1, true), (2, true), (3, true), (4, true), (5, true), (6, true), (7, true), (8, true), (9, true), (10, true), (11, true), (12, true), (13, true), (14, true), (15, true), (16, true), (17, true), (18, true), (19, true), (20, true)] (by kernel_rfl) (by kernel_rfl) (fun c d v a w h => by cases d <;> exact h) ((Fr.refl _ _).drew) ?_
      simp only [WS.pick, List.getElem?_toArray, List.getElem?_cons_succ, List.getElem?_cons_zero]
      repeat (first | (refine WS.wpL_skip rfl ?_; try simp only [Act.put, List.setIfInBounds_toArray, List.set_cons_zero, List.set_cons_succ]) | (refine WS.wpL_q ?_ rfl ?_ ?_; rotate_left 1; (focus (intro w' hw'; have hrr' := hw'.rules; obtain ⟨hrc', _⟩ := hrr'; clear hw'; go_simp; (try with_reducible rfl); done)); try simp only [Act.put, List.setIfInBounds_toArray, List.set_cons_zero, List.set_cons_succ]))
      refine WS.wpL_nil ?_
      have hI := HI.out
      have hdr := hI.dr
      rw [hdrain, List.append_nil] at hdr
      have hpp : p' = { p with deliv := d, early := rest } := by rw [Hp'.out, hdr]
      have hok' : p'.Ok := by rw [Hp'.out]; exact hok.drained Hlaid.out.1 Hlaid.out.2
      have hpr' : PeerAt B wr q p' F5 := by rw [hpp]; exact hpr
      have Hdr := Lib.hid hdr
      have Hhpp := Lib.hid hpp
      have htbw : W5.heap.size < wr.heap.size := by have := hI.fr.size; have := HZ6.out; omega
      have hct0 : wr.cell? ⟨W5.heap.size, 0, none⟩ = some v := by simp [World.cell?, hI.at_]
      have hct1 : wr.cell? ⟨W5.heap.size, 1, none⟩ = some nilS := by simp [World.cell?, hI.at_]
      have hct2 : wr.cell? ⟨W5.heap.size, 2, none⟩ = some (.bool true) := by simp [World.cell?, hI.at_]
      have hzt : ∀ o, wr.frozen? ⟨W5.heap.size, o, none⟩ = false := fun o => by simp [World.frozen?, hI.at_]
      have htT := typ_of_heap hI.at_
      have hthr : wr.there (w.heap.size + 1) 0 3 := there_fr (there_fr hth5 hall (fun h => h)) hI.fr (fun e => by
        rcases e with e | e
        · obtain ⟨_, t, ht, hn⟩ := hR5 _ e
          rw [hT5] at ht; cases ht
          rcases hF4 _ e with e | ⟨h1, h2, h3⟩
          · have := hR.lt _ e; omega
          · rw [hT5] at h3; rcases h3 with h3 | h3 <;> cases h3
        · have := typ_lt hT5; omega)
      have hTr := hI.fr.ty _ _ (hall.ty _ _ hT5)
      obtain ⟨va, vc, rfl⟩ := hI.own.form
      have Hhct := Lib.hid hthr
      clear hpp hdr hI hown hvs hhr
      go_wp2_with (first | (go_at_call 62; refine (f_ack B _ q p' F5 hpr'.drew hok').mono ?_; rintro e w2 ⟨rfl, hf2⟩; have hf2' : Fr No wr w2 := hf2.ofDrew; have hrc2 := hf2'.rules; have htb2 : W5.heap.size < w2.heap.size := Nat.lt_of_lt_of_le htbw hf2'.size; have hth9 : ((w2.setCell ⟨W5.heap.size, 1, none⟩ (.slice (some ⟨w2.heap.size, 0, none⟩) 1 1)).alloc (.cells (outCells p'.ack nilS).toArray 119)).there (w.heap.size + 1) 0 3 := World.there_alloc (there_fr (there_fr Hhct.out hf2' (fun h => h)) (Fr.setCell0 _ _ _) (fun h => by unfold One at h; simp at h; have := typ_lt hT5; omega)) _; simp only [outCells, msgCells] at hth9 ⊢) | (have hth10 := hth9; refine wpList_store_mid rfl 68 (.tmp 4) (.tmp 138) rfl _ _ _ rfl rfl hth9 (by kernel_rfl) (by simp [Value.oneCell']) ?_))
      refine bodyPost_ret (results_cell2 (p := 4) (u := 5) (ty := 68) rfl rfl (World.rangeAt_setCells_same _ (w.heap.size + 1) 0 [.slice va us.length vc, .slice (some ⟨w2.heap.size, 0, none⟩) 1 1, .bool true] hth9) Try.underlying68 rfl (by kernel_rfl)) rfl ?_
      have hfa : Fr (One W5.heap.size) wr ((w2.setCell ⟨W5.heap.size, 1, none⟩ (.slice (some ⟨w2.heap.size, 0, none⟩) 1 1)).alloc (.cells (outCells p'.ack nilS).toArray 119)) := ((hf2'.mono (S' := One W5.heap.size) (fun _ _ h => h.elim)).setCell ⟨W5.heap.size, 1, none⟩ _ (.inr rfl)).alloc _
      have hO : Outs B ((w2.setCell ⟨W5.heap.size, 1, none⟩ (.slice (some ⟨w2.heap.size, 0, none⟩) 1 1)).alloc (.cells (outCells p'.ack nilS).toArray 119)) (.slice (some ⟨w2.heap.size, 0, none⟩) 1 1) [p'.ack] := by
        have h := Outs.one (o := p'.ack) (w := w2.setCell ⟨W5.heap.size, 1, none⟩ (.slice (some ⟨w2.heap.size, 0, none⟩) 1 1)) (Bytes.nil B _)
        rwa [show (w2.setCell ⟨W5.heap.size, 1, none⟩ (.slice (some ⟨w2.heap.size, 0, none⟩) 1 1)).heap.size = w2.heap.size by simp [World.setCell]] at h
      have hW5F : ∀ b, F5 b → b < W5.heap.size := hF5lt
      have hfree : Free B wr (One W5.heap.size) := FreeT.one (by have := hF5w.size; omega) htT (by decide)
      have hU : Ups B ((w2.setCell ⟨W5.heap.size, 1, none⟩ (.slice (some ⟨w2.heap.size, 0, none⟩) 1 1)).alloc (.cells (outCells p'.ack nilS).toArray 119)) (.slice va us.length vc) (us.map (toUp p.to)) := by
        have h := (UpsOwn.ups HI.out.own).fr hfa hfree
        rwa [List.length_map] at h
      have hP := hpr'.fr hfa hfree (fun b hb e => by unfold One at e; have := hW5F b hb; omega)
      have hW5W := (hall.mono (S' := fun b => F5 b ∨ b = W5.heap.size) (fun _ _ h => h.elim)).trans (HI.out.fr.trans' hfa (fun x _ e => .inr e))
      have hTf := hW5W.ty _ _ hT5
      have hdr := Hdr.out
      rw [hdr]
      generalize hWf : (w2.setCell ⟨W5.heap.size, 1, none⟩ (.slice (some ⟨w2.heap.size, 0, none⟩) 1 1)).alloc (.cells (outCells p'.ack nilS).toArray 119) = Wf at *
      have hth10 : Wf.there (w.heap.size + 1) 0 3 := by rw [← hWf]; exact hth9
      rw [show (w2.setCell ⟨W5.heap.size, 1, none⟩ (.slice (some ⟨w2.heap.size, 0, none⟩) 1 1)).alloc (.cells #[.int .u8 p'.ack.to, .int .u8 p'.ack.kind, .int .u64 p'.ack.seq, .int .u64 0, .int .u64 0, nilS, nilS, .bool false, .int .u8 0, .int .u8 0, .int .u8 0, .int .u32 0, .int .u32 0, .int .u64 p'.ack.mask, .int .u8 0, nilS, nilS, nilS] 119) = Wf from hWf]
      exact takeRet hth10 hB hTf hU hO (hP.mono (fun b hb => grow_mono' hW5W b (hF4 b hb))) (hF5w.trans' hW5W (fun x hx e => by
        rcases e with e | e
        · rcases hF4 _ e with e | ⟨h1, _⟩
          · exact e
          · omega
        · have := hF5w.size; omega)) hR
    · have hdrain : PeerD.drain d rest = ([], d, rest) := by rw [hr0]; simp only [PeerD.drain, if_neg hne1]
      have hrl : 1 ≤ rest.length := by rw [hr0]; simp
      have hk1 : (0 : Int) < (rest.length : Int) := by omega
      have hk3 : 0 < rest.length := by omega
      have hk4 : ¬ rest = [] := by rw [hr0]; simp
      have hk2 : decide (0 < rest.length) = true := by simp; omega
      obtain ⟨b2, rfl, _, _, htb2', hrng⟩ := hne (by intro h0; have := congrArg List.length h0; rw [hcl] at this; simp at this; omega)
      have hfa := FramesAt.mk' hvs hown
      obtain ⟨fa, fc, c0, c1⟩ := hfa 0 f (by rw [hr0]; rfl)
      rw [Nat.zero_mul] at c0 c1
      rw [Nat.zero_add] at c1
      have hb2 : b2 < wr.heap.size := typ_lt htb2'
      have hgt := HI.out.gt f (by rw [hr0]; exact List.mem_cons_self)
      have hwd : IntKind.u64.wrap ((d : Int) + 1) = (d : Int) + 1 := u64_in (by omega) (by have := hgt.2; unfold u64max at this; omega)
      have Hmeas := Lib.hid hmeas
      have Hr0 := Lib.hid hr0
      clear hmeas hfa hr0
      have hbq : ((f.1 : Int) == (d : Int) + 1) = false := by rw [beq_eq_false_iff_ne]; omega
      go_wp2_with fail
      refine WS.wp_region_seq (Fr No wr) [] [(0, true), (1, true), (2, true), (3, true), (4, true), (5, true), (6, true), (7, true), (8, true), (9, true), (10, true), (11, true), (12, true), (13, true), (14, true), (15, true), (16, true), (17, true), (18, true), (19, true), (20, true)] (by kernel_rfl) (by kernel_rfl) (fun c d v a w h => by cases d <;> exact h) ((Fr.refl _ _).drew) ?_
      simp only [WS.pick, List.getElem?_toArray, List.getElem?_cons_succ, List.getElem?_cons_zero]
      repeat (first | (refine WS.wpL_skip rfl ?_; try simp only [Act.put, List.setIfInBounds_toArray, List.set_cons_zero, List.set_cons_succ]) | (refine WS.wpL_q ?_ rfl ?_ ?_; rotate_left 1; (focus (intro w' hw'; have hrr' := hw'.rules; obtain ⟨hrc', _⟩ := hrr'; clear hw'; go_simp; (try with_reducible rfl); done)); try simp only [Act.put, List.setIfInBounds_toArray, List.set_cons_zero, List.set_cons_succ]))
      refine WS.wpL_nil ?_
      clear hne
      have hI := HI.out
      have hdr := hI.dr
      rw [hdrain, List.append_nil] at hdr
      have hpp : p' = { p with deliv := d, early := rest } := by rw [Hp'.out, hdr]
      have hok' : p'.Ok := by rw [Hp'.out]; exact hok.drained Hlaid.out.1 Hlaid.out.2
      have hpr' : PeerAt B wr q p' F5 := by rw [hpp]; exact hpr
      have Hdr := Lib.hid hdr
      have Hhpp := Lib.hid hpp
      have htbw : W5.heap.size < wr.heap.size := by have := hI.fr.size; have := HZ6.out; omega
      have hct0 : wr.cell? ⟨W5.heap.size, 0, none⟩ = some v := by simp [World.cell?, hI.at_]
      have hct1 : wr.cell? ⟨W5.heap.size, 1, none⟩ = some nilS := by simp [World.cell?, hI.at_]
      have hct2 : wr.cell? ⟨W5.heap.size, 2, none⟩ = some (.bool true) := by simp [World.cell?, hI.at_]
      have hzt : ∀ o, wr.frozen? ⟨W5.heap.size, o, none⟩ = false := fun o => by simp [World.frozen?, hI.at_]
      have htT := typ_of_heap hI.at_
      have hthr : wr.there (w.heap.size + 1) 0 3 := there_fr (there_fr hth5 hall (fun h => h)) hI.fr (fun e => by
        rcases e with e | e
        · obtain ⟨_, t, ht, hn⟩ := hR5 _ e
          rw [hT5] at ht; cases ht
          rcases hF4 _ e with e | ⟨h1, h2, h3⟩
          · have := hR.lt _ e; omega
          · rw [hT5] at h3; rcases h3 with h3 | h3 <;> cases h3
        · have := typ_lt hT5; omega)
      have hTr := hI.fr.ty _ _ (hall.ty _ _ hT5)
      obtain ⟨va, vc, rfl⟩ := hI.own.form
      have Hhct := Lib.hid hthr
      clear hpp hdr hI hown hvs hhr
      go_wp2_with (first | (go_at_call 62; refine (f_ack B _ q p' F5 hpr'.drew hok').mono ?_; rintro e w2 ⟨rfl, hf2⟩; have hf2' : Fr No wr w2 := hf2.ofDrew; have hrc2 := hf2'.rules; have htb2 : W5.heap.size < w2.heap.size := Nat.lt_of_lt_of_le htbw hf2'.size; have hth9 : ((w2.setCell ⟨W5.heap.size, 1, none⟩ (.slice (some ⟨w2.heap.size, 0, none⟩) 1 1)).alloc (.cells (outCells p'.ack nilS).toArray 119)).there (w.heap.size + 1) 0 3 := World.there_alloc (there_fr (there_fr Hhct.out hf2' (fun h => h)) (Fr.setCell0 _ _ _) (fun h => by unfold One at h; simp at h; have := typ_lt hT5; omega)) _; simp only [outCells, msgCells] at hth9 ⊢) | (have hth10 := hth9; refine wpList_store_mid rfl 68 (.tmp 4) (.tmp 138) rfl _ _ _ rfl rfl hth9 (by kernel_rfl) (by simp [Value.oneCell']) ?_))
      refine bodyPost_ret (results_cell2 (p := 4) (u := 5) (ty := 68) rfl rfl (World.rangeAt_setCells_same _ (w.heap.size + 1) 0 [.slice va us.length vc, .slice (some ⟨w2.heap.size, 0, none⟩) 1 1, .bool true] hth9) Try.underlying68 rfl (by kernel_rfl)) rfl ?_
      have hfa : Fr (One W5.heap.size) wr ((w2.setCell ⟨W5.heap.size, 1, none⟩ (.slice (some ⟨w2.heap.size, 0, none⟩) 1 1)).alloc (.cells (outCells p'.ack nilS).toArray 119)) := ((hf2'.mono (S' := One W5.heap.size) (fun _ _ h => h.elim)).setCell ⟨W5.heap.size, 1, none⟩ _ (.inr rfl)).alloc _
      have hO : Outs B ((w2.setCell ⟨W5.heap.size, 1, none⟩ (.slice (some ⟨w2.heap.size, 0, none⟩) 1 1)).alloc (.cells (outCells p'.ack nilS).toArray 119)) (.slice (some ⟨w2.heap.size, 0, none⟩) 1 1) [p'.ack] := by
        have h := Outs.one (o := p'.ack) (w := w2.setCell ⟨W5.heap.size, 1, none⟩ (.slice (some ⟨w2.heap.size, 0, none⟩) 1 1)) (Bytes.nil B _)
        rwa [show (w2.setCell ⟨W5.heap.size, 1, none⟩ (.slice (some ⟨w2.heap.size, 0, none⟩) 1 1)).heap.size = w2.heap.size by simp [World.setCell]] at h
      have hW5F : ∀ b, F5 b → b < W5.heap.size := hF5lt
      have hfree : Free B wr (One W5.heap.size) := FreeT.one (by have := hF5w.size; omega) htT (by decide)
      have hU : Ups B ((w2.setCell ⟨W5.heap.size, 1, none⟩ (.slice (some ⟨w2.heap.size, 0, none⟩) 1 1)).alloc (.cells (outCells p'.ack nilS).toArray 119)) (.slice va us.length vc) (us.map (toUp p.to)) := by
        have h := (UpsOwn.ups HI.out.own).fr hfa hfree
        rwa [List.length_map] at h
      have hP := hpr'.fr hfa hfree (fun b hb e => by unfold One at e; have := hW5F b hb; omega)
      have hW5W := (hall.mono (S' := fun b => F5 b ∨ b = W5.heap.size) (fun _ _ h => h.elim)).trans (HI.out.fr.trans' hfa (fun x _ e => .inr e))
      have hTf := hW5W.ty _ _ hT5
      have hdr := Hdr.out
      rw [hdr]
      generalize hWf : (w2.setCell ⟨W5.heap.size, 1, none⟩ (.slice (some ⟨w2.heap.size, 0, none⟩) 1 1)).alloc (.cells (outCells p'.ack nilS).toArray 119) = Wf at *
      have hth10 : Wf.there (w.heap.size + 1) 0 3 := by rw [← hWf]; exact hth9
      rw [show (w2.setCell ⟨W5.heap.size, 1, none⟩ (.slice (some ⟨w2.heap.size, 0, none⟩) 1 1)).alloc (.cells #[.int .u8 p'.ack.to, .int .u8 p'.ack.kind, .int .u64 p'.ack.seq, .int .u64 0, .int .u64 0, nilS, nilS, .bool false, .int .u8 0, .int .u8 0, .int .u8 0, .int .u32 0, .int .u32 0, .int .u64 p'.ack.mask, .int .u8 0, nilS, nilS, nilS] 119) = Wf from hWf]
      exact takeRet hth10 hB hTf hU hO (hP.mono (fun b hb => grow_mono' hW5W b (hF4 b hb))) (hF5w.trans' hW5W (fun x hx e => by
        rcases e with e | e
        · rcases hF4 _ e with e | ⟨h1, _⟩
          · exact e
          · omega
        · have := hF5w.size; omega)) hR
    · have hnothing := True.intro
      have hrl : 1 ≤ rest.length := by rw [hr0]; simp
      have hk1 : (0 : Int) < (rest.length : Int) := by omega
      have hk3 : 0 < rest.length := by omega
      have hk4 : ¬ rest = [] := by rw [hr0]; simp
      have hk2 : decide (0 < rest.length) = true := by simp; omega
      obtain ⟨b2, rfl, _, _, htb2', hrng⟩ := hne (by intro h0; have := congrArg List.length h0; rw [hcl] at this; simp at this; omega)
      have hfa := FramesAt.mk' hvs hown
      obtain ⟨fa, fc, c0, c1⟩ := hfa 0 f (by rw [hr0]; rfl)
      rw [Nat.zero_mul] at c0 c1
      rw [Nat.zero_add] at c1
      have hb2 : b2 < wr.heap.size := typ_lt htb2'
      have hgt := HI.out.gt f (by rw [hr0]; exact List.mem_cons_self)
      have hwd : IntKind.u64.wrap ((d : Int) + 1) = (d : Int) + 1 := u64_in (by omega) (by have := hgt.2; unfold u64max at this; omega)
      have Hmeas := Lib.hid hmeas
      have Hr0 := Lib.hid hr0
      clear hmeas hfa hr0
      have hbq : ((f.1 : Int) == (d : Int) + 1) = true := by rw [beq_iff_eq]; omega
      have hfB : Bytes B wr (.slice fa f.2.length fc) f.2 := by
        have hr0 := Hr0.out
        obtain ⟨v1, hv1, hvB⟩ := hvs.get (j := 0) (b := f.2) (by rw [hr0]; rfl)
        have := (frame_cells hrng (k := 0) (f := f) (by rw [hr0]; rfl) hv1).2
        rw [Nat.zero_mul, Nat.zero_add, c1] at this
        cases this; exact hvB
      have Heq1 := Lib.hid heq1
      clear heq1
      go_wp2_with fail
      refine WS.wp_region_seq (Fr No wr) [] [(0, true), (1, true), (2, true), (3, true), (4, true), (5, true), (6, true), (7, true), (8, true), (9, true), (10, true), (11, true), (12, true), (13, true), (14, true), (15, true), (16, true), (17, true), (18, true), (19, true), (20, true)] (by kernel_rfl) (by kernel_rfl) (fun c d v a w h => by cases d <;> exact h) ((Fr.refl _ _).drew) ?_
      simp only [WS.pick, List.getElem?_toArray, List.getElem?_cons_succ, List.getElem?_cons_zero]
      repeat (first | (refine WS.wpL_skip rfl ?_; try simp only [Act.put, List.setIfInBounds_toArray, List.set_cons_zero, List.set_cons_succ]) | (refine WS.wpL_q ?_ rfl ?_ ?_; rotate_left 1; (focus (intro w' hw'; have hrr' := hw'.rules; obtain ⟨hrc', _⟩ := hrr'; clear hw'; go_simp; (try with_reducible rfl); done)); try simp only [Act.put, List.setIfInBounds_toArray, List.set_cons_zero, List.set_cons_succ]))
      refine WS.wpL_nil ?_
      obtain ⟨va, vc, rfl⟩ := HI.out.own.form
      rw [List.length_map] at *
      go_wp2_with fail
      have hI := HI.out
      have htbw : W5.heap.size < wr.heap.size := by have := hI.fr.size; have := HZ6.out; omega
      have hqt : q < W5.heap.size := hF5lt q hpr.here
      have hfr1 : Fr No wr (wr.alloc (.cells #[.int .u64 f.1, .slice fa f.2.length fc] 97)) := Fr.alloc0 _ _
      have hs1 : (wr.alloc (.cells #[.int .u64 f.1, .slice fa f.2.length fc] 97)).heap.size = wr.heap.size + 1 := by simp
      have hb1 : (wr.alloc (.cells #[.int .u64 f.1, .slice fa f.2.length fc] 97)).heap[wr.heap.size]? = some (.cells #[.int .u64 f.1, .slice fa f.2.length fc] 97 (0, 0)) := heap_alloc_new _ _
      generalize wr.alloc (.cells #[.int .u64 f.1, .slice fa f.2.length fc] 97) = W1 at *
      have hct0 : W1.cell? ⟨W5.heap.size, 0, none⟩ = some (.slice va us.length vc) := by rw [hfr1.cell htbw (fun h => h)]; simp [World.cell?, hI.at_]
      have hzt : ∀ o, W1.frozen? ⟨W5.heap.size, o, none⟩ = false := fun o => by rw [hfr1.froz htbw (fun h => h)]; simp [World.frozen?, hI.at_]
      have m0 : W1.cell? ⟨wr.heap.size, 0, none⟩ = some (.int .u64 f.1) := by rw [cell_of_row _ _ 0 _ _ _ hb1]; rfl
      have m1 : W1.cell? ⟨wr.heap.size, 1, none⟩ = some (.slice fa f.2.length fc) := by rw [cell_of_row _ _ 1 _ _ _ hb1]; rfl
      have k7' : W1.cell? ⟨q, 7, none⟩ = some (.int .u8 p.to) := by rw [hfr1.cell hqr (fun h => h)]; exact k7
      generalize hSd : (fun b => (Value.slice va us.length vc).ownBlock = some b) = S
      have hSb : ∀ b, S b → W5.heap.size + 1 ≤ b ∧ b < wr.heap.size := by
        rw [← hSd]; intro b hb
        have := hI.own.block hb
        exact ⟨this.2, typ_lt this.1⟩
      have hqlt : q < W1.heap.size := by omega
      have hqS : ¬ S q := fun e => by have := hSb _ e; omega
      have hmlt : wr.heap.size < W1.heap.size := by omega
      have hmS : ¬ S wr.heap.size := fun e => by have := hSb _ e; omega
      have hnlt : W5.heap.size < W1.heap.size := by omega
      have hnS : ¬ S W5.heap.size := fun e => by have := hSb _ e; omega
      have Hs1 := Lib.hid hs1
      clear hs1 hI k7 k9 k10
      refine WS.wp_region_seq (Fr S W1) [14] [(0, true), (1, true), (2, true), (3, true), (4, true), (5, true), (6, true), (7, true), (8, true), (9, true), (10, true), (11, false), (12, false), (13, true), (14, false)] (by kernel_rfl) (by kernel_rfl) (fun c d v a w h => by cases d <;> exact h) ((Fr.refl _ _).drew.drew) ?_
      simp only [WS.pick, List.getElem?_toArray, List.getElem?_cons_succ, List.getElem?_cons_zero]
      repeat (first | (refine WS.wpL_skip rfl ?_; try simp only [Act.put, List.setIfInBounds_toArray, List.set_cons_zero, List.set_cons_succ]) | (refine WS.wpL_q ?_ rfl ?_ ?_; rotate_left 1; (focus (intro w' hw'; have hrc' := Fr.rules1 hw' hqlt hqS; have hrm' := Fr.rules1 hw' hmlt hmS; have hrn' := Fr.rules1 hw' hnlt hnS; clear hw'; go_simp; (try with_reducible rfl); done)); try simp only [Act.put, List.setIfInBounds_toArray, List.set_cons_zero, List.set_cons_succ]))
      refine WS.wpL_e rfl (fun K hK => ?_)
      go_simp
      have hf2 : Fr No W1 (W1.drew.drew.alloc (.cells (upCells (toUp p.to f) (.slice fa f.2.length fc)).toArray 121)) := ((Fr.refl _ _).drew.drew).alloc _
      refine hK _ _ (fun _ => hf2.mono (fun _ _ h => h.elim)) ?_
      clear hK K
      try simp only [Act.put, List.setIfInBounds_toArray, List.set_cons_zero, List.set_cons_succ]
      repeat (first | (refine WS.wpL_skip rfl ?_; try simp only [Act.put, List.setIfInBounds_toArray, List.set_cons_zero, List.set_cons_succ]) | (refine WS.wpL_q ?_ rfl ?_ ?_; rotate_left 1; (focus (intro w' hw'; have hrc' := Fr.rules1 hw' hqlt hqS; have hrm' := Fr.rules1 hw' hmlt hmS; have hrn' := Fr.rules1 hw' hnlt hnS; clear hw'; go_simp; (try with_reducible rfl); done)); try simp only [Act.put, List.setIfInBounds_toArray, List.set_cons_zero, List.set_cons_succ]))
      have hown2 : UpsOwn B (W5.heap.size + 1) (W1.drew.drew.alloc (.cells (upCells (toUp p.to f) (.slice fa f.2.length fc)).toArray 121)) (.slice va us.length vc) (us.map (toUp p.to)) := (HI.out.own.fr0 hfr1).fr0 hf2
      refine WS.wpL_e rfl (fun K hK => ?_)
      refine wp_snoc (x := toUp p.to f) (pv := .slice fa f.2.length fc) elUps upCells_length (by decide) (.tmp 106) (.tmp 116) rfl rfl hown2 rfl ⟨W1.heap.size, 0, rfl, range_new (w := W1.drew.drew) (cs := upCells (toUp p.to f) (.slice fa f.2.length fc))⟩ (by simp [upCells, Value.oneCell']) ((hfB.fr hfr1 FreeT.no).fr hf2 FreeT.no) (by have := hF5w.size; omega) (by rw [List.length_map]; simp only [maxLen]; have := HI.out.len; omega) (by rw [List.length_map]; have := HI.out.len; omega) (by simp; omega) ?_
      intro ao' c' w8 hown8 hf8 _
      have hf8' : Fr S W1 w8 := (hf2.mono (S' := S) (fun _ _ h => h.elim)).trans (by rw [← hSd]; exact hf8)
      refine hK _ _ (fun _ => hf8') ?_
      clear hK K
      try simp only [Act.put, List.setIfInBounds_toArray, List.set_cons_zero, List.set_cons_succ]
      repeat (first | (refine WS.wpL_skip rfl ?_; try simp only [Act.put, List.setIfInBounds_toArray, List.set_cons_zero, List.set_cons_succ]) | (refine WS.wpL_q ?_ rfl ?_ ?_; rotate_left 1; (focus (intro w' hw'; have hrc' := Fr.rules1 hw' hqlt hqS; have hrm' := Fr.rules1 hw' hmlt hmS; have hrn' := Fr.rules1 hw' hnlt hnS; clear hw'; go_simp; (try with_reducible rfl); done)); try simp only [Act.put, List.setIfInBounds_toArray, List.set_cons_zero, List.set_cons_succ]))
      have hrn8 := hf8'.rules1 hnlt hnS
      refine WS.wpL_e rfl (fun K hK => ?_)
      go_simp
      refine hK _ _ (fun h => absurd (by decide) h) ?_
      clear hK K
      try simp only [Act.put, List.setIfInBounds_toArray, List.set_cons_zero, List.set_cons_succ]
      refine WS.wpL_nil ?_
      have hI := HI.out
      have hf9 : Fr (fun b => S b ∨ b = W5.heap.size) wr (w8.setCell ⟨W5.heap.size, 0, none⟩ (.slice ao' (us.length + 1) c')) := ((hfr1.mono (fun _ _ h => h.elim)).trans' hf8' (fun x _ h => .inl h)).setCell _ _ (.inr (.inr rfl))
      have hBt : B ≤ W5.heap.size := by have := hF5w.size; omega
      have hfree9 : FreeT [5] B wr (fun b => S b ∨ b = W5.heap.size) := FreeT.of (by
        rintro b (hb | rfl)
        · rw [← hSd] at hb
          have h := hI.own.block hb
          exact ⟨by omega, _, h.1, by decide⟩
        · exact ⟨hBt, _, typ_of_heap hI.at_, by decide⟩)
      have hpr9 : PeerAt B (w8.setCell ⟨W5.heap.size, 0, none⟩ (.slice ao' (us.length + 1) c')) q { p with deliv := d, early := rest } F5 := hpr.fr8 hf9 hfree9 (by
        rintro b hb (hs | rfl)
        · have := hSb b hs; have := hF5lt b hb; omega
        · have := hF5lt _ hb; omega)
      have htb9 : (w8.setCell ⟨W5.heap.size, 0, none⟩ (.slice ao' (us.length + 1) c')).heap[W5.heap.size]? = some (.cells #[.slice ao' (us.length + 1) c', nilS, .bool true] 68 (0, 0)) := by
        rw [heap_set (by rw [hf8'.block _ hnlt hnS, hfr1.block _ htbw (fun h => h)]; exact hI.at_)]; rfl
      have hown9 : UpsOwn B (W5.heap.size + 1) (w8.setCell ⟨W5.heap.size, 0, none⟩ (.slice ao' (us.length + 1) c')) (.slice ao' (us.length + 1) c') ((us ++ [f]).map (toUp p.to)) := by
        rw [List.map_append, List.map_singleton]
        rw [List.length_map] at hown8
        exact hown8.fr (Fr.setCell0 w8 ⟨W5.heap.size, 0, none⟩ _) (FreeT.one hBt (hf8'.ty _ _ (hfr1.ty _ _ (typ_of_heap hI.at_))) (by decide)) (fun k hk e => by unfold One at e; have := (hown8.block hk).2; simp at e; omega)
      have hF9 : Fr (fun b => F5 b ∨ b = W5.heap.size) W6 (w8.setCell ⟨W5.heap.size, 0, none⟩ (.slice ao' (us.length + 1) c')) := hI.fr.trans' hf9 (by
        rintro x hx (hs | rfl)
        · have := hSb x hs; have := HZ6.out; omega
        · exact .inr rfl)
      have hR9 : Reg B (w8.setCell ⟨W5.heap.size, 0, none⟩ (.slice ao' (us.length + 1) c')) F5 := hR6.fr hF9
      generalize w8.setCell ⟨W5.heap.size, 0, none⟩ (.slice ao' (us.length + 1) c') = W9 at *
      clear hf8 hown8 hf9 hfree9 hrn8 hf8' hown2 hf2 hSb hSd hqS hmS hnS hct0 hzt m0 m1 k7' hb1 hfr1
      obtain ⟨_, _, vq9, ve9, hh9, hQ9, vs9, hvs9, hown9e, hFo9⟩ := id hpr9
      obtain ⟨⟨n0, n1, n2, n3⟩, ⟨n4, n5, n6, n7⟩, n8, n9, n10⟩ := peerCells_get hh9
      dsimp only at n9 n10 hvs9 hown9e hFo9
      clear n0 n1 n2 n3 n4 n5 n6 n7 n8
      have hr0 := Hr0.out
      have hl16 : l'.length ≤ 16 := by have := HI.out.len; rw [hr0] at this; simp at this; omega
      rw [hr0] at hvs9 hown9e
      obtain ⟨v0, vs', rfl, hv0, hvs'⟩ : ∃ v0 vs', vs9 = v0 :: vs' ∧ Bytes B W9 v0 f.2 ∧ All2 (Bytes B W9) vs' (l'.map (·.2)) := by
        cases vs9 with
        | nil => exact hvs9.elim
        | cons v0 vs' => exact ⟨v0, vs', rfl, hvs9.1, hvs9.2⟩
      have h1x := frames_one (l := f :: l') (bytes_one hvs9)
      have hown9f := hown9e
      rcases hown9e.2 with ⟨_, h0⟩ | ⟨g, cap, cur, rfl, hgB, hgh, _⟩
      · simp at h0
      have hgF := hFo9 g rfl
      simp only [List.length_cons] at n10 hown9f
      have hgt9 := typ_of_heap hgh
      have hqlt9 : q < W9.heap.size := hpr9.lt
      have hz9 : ∀ o, W9.frozen? ⟨q, o, none⟩ = false := fun o => by simp [World.frozen?, hh9]
      have hgq : ¬ One g q := fun e => by unfold One at e; rw [← e, typ_of_heap hh9] at hgt9; cases hgt9
      have hp10 : PeerAt B (W9.setCell ⟨q, 9, none⟩ (.int .u64 ((d : Int) + 1))) q { p with deliv := d + 1, early := rest } F5 := PeerAt.set hpr9 9 _ (fun _ _ => rfl) rfl rfl hR9.free
      have hf10 := Fr.setCell0 W9 ⟨q, 9, none⟩ (.int .u64 ((d : Int) + 1))
      have hown10 := owns_fr hown9f hf10 (fun k hk e => own_ne hown9f hh9 (by decide) (by rw [hk, e]))
      have hvs10 : All2 (Bytes B (W9.setCell ⟨q, 9, none⟩ (.int .u64 ((d : Int) + 1)))) vs' (l'.map (·.2)) := hvs'.mono fun _ _ h => h.fr hf10 (by rintro b rfl; exact hR9.free8 _ hpr9.here)
      clear hr0 hvs9 hown9e hown9f hgh hv0 hvs'
      have hq10 : q < (W9.setCell ⟨q, 9, none⟩ (.int .u64 ((d : Int) + 1))).heap.size := by simp [World.setCell]; exact hqlt9
      go_wp2_with (go_at_call 64; refine (f_delete B _ g l'.length cap _ hown10 h1x (by omega) _ rfl).mono ?_; rintro en W10 ⟨rfl, hown11, hf11⟩; have hrc11 := hf11.rules1 hq10 hgq)
      have hr0 := Hr0.out
      have hI := HI.out
      have heq := Heq1.out
      have hR10 := hR9.fr hf10
      have hone : ∀ b, One g b → F5 b ∧ typ (W9.setCell ⟨q, 9, none⟩ (.int .u64 ((d : Int) + 1))) b = some 97 := by rintro b rfl; exact ⟨hgF, hf10.ty _ _ hgt9⟩
      have hvs11 : All2 (Bytes B W10) vs' (l'.map (·.2)) := hvs10.mono fun _ _ h => h.fr hf11 (fun b hb hi => hR10.free8 b (hone b hb).1 hi)
      have hp12 := PeerAt.newEarly (l := l') hp10 hR10 hf11 hone hown11 hvs11 rfl
      have hp13 : PeerAt B (W10.setCell ⟨q, 10, none⟩ (.slice (some ⟨g, 0, none⟩) l'.length cap)) q { p with deliv := d + 1, early := l' } F5 := hp12.mono (by
        rintro b (hb | hb)
        · exact hb
        · cases hb; exact hgF)
      have hf12 : Fr (fun b => b = q ∨ b = g) W9 (W10.setCell ⟨q, 10, none⟩ (.slice (some ⟨g, 0, none⟩) l'.length cap)) := ((hf10.mono (S' := fun b => b = q ∨ b = g) (fun _ _ h => .inl h)).trans' hf11 (fun _ _ h => .inr h)).setCell _ _ (.inr (.inl rfl))
      have hgW5 := hF5lt _ hgF
      have hn12 : ∀ b, W5.heap.size ≤ b → ¬ (b = q ∨ b = g) := by rintro b hb (rfl | rfl) <;> omega
      have htl9 : W5.heap.size < W9.heap.size := (Array.getElem?_eq_some_iff.1 htb9).1
      refine ⟨⟨us ++ [f], d + 1, l', .slice ao' (us.length + 1) c', ⟨hp13, ?_, ?_, ?_, ?_, ?_, ?_, ?_⟩⟩, ?_⟩
      · rw [hf12.block _ htl9 (hn12 _ (Nat.le_refl _))]; exact htb9
      · refine hown9.fr hf12 (FreeT.of ?_) (fun k hk => hn12 k (by have := (hown9.block hk).2; omega))
        rintro b (rfl | rfl)
        · exact ⟨hpr9.base, _, typ_of_heap hh9, by decide⟩
        · exact ⟨hgB, _, hgt9, by decide⟩
      · refine hF9.trans' hf12 ?_
        rintro x hx (rfl | rfl)
        · exact .inl hpr9.here
        · exact .inl hgF
      · rw [hI.dr, hr0]
        simp only [PeerD.drain, if_pos heq, List.append_assoc, List.cons_append, List.nil_append]
      · have := hI.srt
        rw [hr0] at this
        exact (List.pairwise_cons.1 this).2
      · intro y hy
        have h1 := hI.srt
        rw [hr0] at h1
        have h1 := (List.pairwise_cons.1 h1).1 y hy
        have h2 := hI.gt y (by rw [hr0]; exact List.mem_cons_of_mem _ hy)
        exact ⟨by omega, h2.2⟩
      · have := hI.len
        rw [hr0] at this
        simp only [List.length_append, List.length_cons, List.length_nil] at this ⊢
        omega
      · rw [hp13.early_len, Hmeas.out, hr0]
        show l'.length < (f :: l').length
        simp
end Go.Proofs.Ytplgmcpglbpghaa
