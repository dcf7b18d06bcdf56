/- Part 9 of the proof: Xs12, Xcells. -/
import Derived.Test.YtplgmcpglbpghaaM06
import Derived.Test.YtplgmcpglbpghaaM07
import Derived.Test.YtplgmcpglbpghaaM08
import Derived.Test.YtplgmcpglbpghaaM02
set_option linter.all false
set_option linter.unusedVariables false
set_option linter.unusedSimpArgs false

namespace Go.Proofs.Ytplgmcpglbpghaa
open Go.RowKit

set_option maxRecDepth 100000 in
set_option maxHeartbeats 1000000 in
theorem come_bad (B : Nat) (w : World) (q : Nat) (p : PeerD) (F : Nat → Prop) (m : MsgD) (x : MsgA) (pa : Option Addr) (pc seq : Nat) (hp : PeerAt B w q p F) (hR : Reg B w F) (hB : B ≤ w.heap.size) (hs : m.seq = seq) (hpl : Bytes B w (.slice pa m.payload.length pc) m.payload) (hsz0 : szB m.payload.length = false) :
    Calls Try.prog 43 #[.pointer (some ⟨q, 7, none⟩), .agg (msgVals m x (.slice pa m.payload.length pc)).toArray] w (TakePost B w q F p [] [] false 81) := by
  have hlt := hp.lt
  have hp0 := Lib.hid hp
  obtain ⟨_, _, vq, ve, hh, _, hE⟩ := hp
  obtain ⟨⟨g0, g1, g2, g3⟩, ⟨g4, g5, g6, g7⟩, g8, g9, g10⟩ := peerCells_get hh
  obtain ⟨_, mg1, _, mg16⟩ := msg_get m x (.slice pa m.payload.length pc)
  rw [hs] at mg1
  have hplen := hpl.1
  have hpmax : m.payload.length ≤ maxLen := by unfold maxLen; omega
  have Hpl := Lib.hid hpl
  generalize (msgVals m x (.slice pa m.payload.length pc)).toArray = A at *
  have hW := InW.mk' w A
  have c1 := hW.msg 1
  have c16 := hW.msg 16
  rw [mg1] at c1
  rw [mg16] at c16
  have hth := hW.there
  have hT := typ_of_heap hW.res
  have hfr := hW.fr
  have hsz := hW.size
  obtain ⟨hrc, hrf⟩ := hfr.rules
  have hlW : w.heap.size < (inW w A).heap.size := by omega
  have hlW1 : w.heap.size + 1 < (inW w A).heap.size := by omega
  have hqW : q < (inW w A).heap.size := by omega
  have g7W : (inW w A).cell? ⟨q, 7, none⟩ = some (.int .u8 p.to) := by rw [hrc _ _ hlt]; exact g7
  have g8W : (inW w A).cell? ⟨q, 8, none⟩ = some (.int .u64 p.reach) := by rw [hrc _ _ hlt]; exact g8
  have g9W : (inW w A).cell? ⟨q, 9, none⟩ = some (.int .u64 p.deliv) := by rw [hrc _ _ hlt]; exact g9
  have g10W : (inW w A).cell? ⟨q, 10, none⟩ = some ve := by rw [hrc _ _ hlt]; exact g10
  have hpW : PeerAt B (inW w A) q p F := hp0.out.fr hfr FreeT.no (fun _ _ h => h)
  have hRW : Reg B (inW w A) F := hR.fr hfr
  clear hs mg1 g0 g1 g2 g3 g4 g5 g6 g7 g8 g9 g10 hW hrc hrf hh hsz hpl hplen
  go_enter Try.func43, Try.ntmps43
  go_wp2_with (first | (go_at_call 45; refine (f_sized _ pa m.payload.length pc hpmax).mono ?_; rintro e w1 ⟨rfl, rfl⟩; rw [hsz0]) | (refine wpList_store_mid rfl _ _ _ rfl _ _ _ rfl rfl hth (by kernel_rfl) (by simp [Value.oneCell']) ?_))
  refine bodyPost_ret (results_cell2 (p := 4) (u := 5) (ty := 68) rfl rfl (World.rangeAt_setCells_same _ (w.heap.size + 1) 0 [nilS, nilS, .bool false] hth) Try.underlying68 rfl (by kernel_rfl)) rfl ?_
  exact takeRet hth hB hT (Ups.nil _ _) (Outs.nil _ _) ((hp0.out.fr hfr FreeT.no (fun _ _ h => h)).mono (fun _ h => .inl h)) (hfr.mono (fun _ _ h => h.elim)) hR

set_option maxRecDepth 100000 in
set_option maxHeartbeats 1000000 in
theorem come_far (B : Nat) (w : World) (q : Nat) (p : PeerD) (F : Nat → Prop) (m : MsgD) (x : MsgA) (pa : Option Addr) (pc seq : Nat) (hp : PeerAt B w q p F) (hR : Reg B w F) (hB : B ≤ w.heap.size) (hok : p.Ok) (hs : m.seq = seq) (hseq : seq ≤ u64max) (hpl : Bytes B w (.slice pa m.payload.length pc) m.payload) (hsz0 : szB m.payload.length = true)
    (h1 : p.deliv < seq) (h2 : p.reach < seq - p.deliv) :
    Calls Try.prog 43 #[.pointer (some ⟨q, 7, none⟩), .agg (msgVals m x (.slice pa m.payload.length pc)).toArray] w (TakePost B w q F p [] [] false 84) := by
  have hlt := hp.lt
  have hp0 := Lib.hid hp
  obtain ⟨_, _, vq, ve, hh, _, hE⟩ := hp
  obtain ⟨⟨g0, g1, g2, g3⟩, ⟨g4, g5, g6, g7⟩, g8, g9, g10⟩ := peerCells_get hh
  obtain ⟨_, mg1, _, mg16⟩ := msg_get m x (.slice pa m.payload.length pc)
  rw [hs] at mg1
  have hplen := hpl.1
  have hpmax : m.payload.length ≤ maxLen := by unfold maxLen; omega
  have Hpl := Lib.hid hpl
  generalize (msgVals m x (.slice pa m.payload.length pc)).toArray = A at *
  have hW := InW.mk' w A
  have c1 := hW.msg 1
  have c16 := hW.msg 16
  rw [mg1] at c1
  rw [mg16] at c16
  have hth := hW.there
  have hT := typ_of_heap hW.res
  have hfr := hW.fr
  have hsz := hW.size
  obtain ⟨hrc, hrf⟩ := hfr.rules
  have hlW : w.heap.size < (inW w A).heap.size := by omega
  have hlW1 : w.heap.size + 1 < (inW w A).heap.size := by omega
  have hqW : q < (inW w A).heap.size := by omega
  have g7W : (inW w A).cell? ⟨q, 7, none⟩ = some (.int .u8 p.to) := by rw [hrc _ _ hlt]; exact g7
  have g8W : (inW w A).cell? ⟨q, 8, none⟩ = some (.int .u64 p.reach) := by rw [hrc _ _ hlt]; exact g8
  have g9W : (inW w A).cell? ⟨q, 9, none⟩ = some (.int .u64 p.deliv) := by rw [hrc _ _ hlt]; exact g9
  have g10W : (inW w A).cell? ⟨q, 10, none⟩ = some ve := by rw [hrc _ _ hlt]; exact g10
  have hpW : PeerAt B (inW w A) q p F := hp0.out.fr hfr FreeT.no (fun _ _ h => h)
  have hRW : Reg B (inW w A) F := hR.fr hfr
  clear hs mg1 g0 g1 g2 g3 g4 g5 g6 g7 g8 g9 g10 hW hrc hrf hh hsz hpl hplen
  have hd1 : decide (p.deliv < seq) = true := by simp; omega
  have hd1' : (p.deliv : Int) < (seq : Int) := by omega
  have e1 : IntKind.u64.wrap ((seq : Int) - p.deliv) = (seq : Int) - p.deliv := u64_in (by omega) (by unfold u64max at hseq; omega)
  have hd2 : (p.reach : Int) < (seq : Int) - p.deliv := by omega
  go_enter Try.func43, Try.ntmps43
  go_wp2_with (go_at_call 45; refine (f_sized _ pa m.payload.length pc hpmax).mono ?_; rintro e w1 ⟨rfl, rfl⟩; rw [hsz0])
  rw [show (w.alloc (.cells A 45)).alloc (.cells #[nilS, nilS, .bool false] 68) = inW w A from rfl]
  generalize inW w A = W at *
  clear mg16
  refine WS.wp_region_seq (Fr No W) [] [(0, true), (1, true), (2, true), (3, true), (4, true), (5, true), (6, true), (7, true), (8, true), (9, true), (10, true), (11, true), (12, true), (13, true), (14, true), (15, true), (16, true), (17, true), (18, true), (19, true), (20, true)] (by kernel_rfl) (by kernel_rfl) (fun c d v a w h => by cases d <;> exact h) ((Fr.refl _ _).drew) ?_
  simp only [WS.pick, List.getElem?_toArray, List.getElem?_cons_succ, List.getElem?_cons_zero]
  repeat (first | (refine WS.wpL_skip rfl ?_; try simp only [Act.put, List.setIfInBounds_toArray, List.set_cons_zero, List.set_cons_succ]) | (refine WS.wpL_q ?_ rfl ?_ ?_; rotate_left 1; (focus (intro w' hw'; have hrr' := hw'.rules; obtain ⟨hrc', _⟩ := hrr'; clear hw'; go_simp; (try with_reducible rfl); done)); try simp only [Act.put, List.setIfInBounds_toArray, List.set_cons_zero, List.set_cons_succ]))
  refine WS.wpL_nil ?_
  have hth1 := there_drew hth
  go_wp2_with (refine wpList_store_mid rfl _ _ _ rfl _ _ _ rfl rfl hth1 (by kernel_rfl) (by simp [Value.oneCell']) ?_)
  refine bodyPost_ret (results_cell2 (p := 4) (u := 5) (ty := 68) rfl rfl (World.rangeAt_setCells_same _ (w.heap.size + 1) 0 [nilS, nilS, .bool false] hth1) Try.underlying68 rfl (by kernel_rfl)) rfl ?_
  exact takeRet hth1 hB hT (Ups.nil _ _) (Outs.nil _ _) ((hp0.out.fr hfr.drew FreeT.no (fun _ _ h => h)).mono (fun _ h => .inl h)) (hfr.drew.mono (fun _ _ h => h.elim)) hR

theorem sorted_len {l : List (Nat × List Int)} {lo hi : Nat} (hs : l.Pairwise fun f g => f.1 < g.1) (h : ∀ f ∈ l, lo ≤ f.1 ∧ f.1 ≤ hi) (hlo : lo ≤ hi + 1) : l.length + lo ≤ hi + 1 := by
  induction l generalizing lo with
  | nil => simpa using hlo
  | cons f l ih =>
    have hf := h f List.mem_cons_self
    have hp := List.pairwise_cons.1 hs
    have := ih hp.2 (lo := f.1 + 1) (fun g hg => ⟨hp.1 g hg, (h g (List.mem_cons_of_mem _ hg)).2⟩) (by omega)
    simp only [List.length_cons]
    omega
theorem PeerD.Ok.early_len {p : PeerD} (hok : p.Ok) : p.early.length ≤ 16 := by
  have h1 := hok.reach
  have h2 := hok.win
  have h3 := hok.room16
  have := sorted_len (lo := p.deliv + 1) (hi := p.deliv + p.reach) hok.sorted (fun f hf => ⟨by have := (hok.early f hf).1; omega, (hok.early f hf).2.1⟩) (by omega)
  omega

theorem EarlyAt.search {B : Nat} {w : World} {v : Value} {l : List (Nat × List Int)} {F : Nat → Prop} (h : EarlyAt B w v l F) : ∃ ao c b, v = .slice ao l.length c ∧ l.length ≤ c ∧ (l ≠ [] → ao = some ⟨b, 0, none⟩ ∧ FramesAt w b l) := by
  obtain ⟨vs, hvs, hown, hF⟩ := h
  obtain ⟨hcl, a, c, rfl, hnc, hcm, hne⟩ := range_of_owns hown
  by_cases hl : l = []
  · subst hl
    exact ⟨a, c, 0, rfl, hnc, fun h => absurd rfl h⟩
  · obtain ⟨b, rfl, _⟩ := hne (by intro h0; have := congrArg List.length h0; rw [hcl] at this; simp at this; exact hl (List.eq_nil_of_length_eq_zero (by omega)))
    exact ⟨_, c, b, rfl, hnc, fun _ => ⟨rfl, FramesAt.mk' hvs hown⟩⟩

set_option maxRecDepth 100000 in
set_option maxHeartbeats 2000000 in
theorem come_dup (B : Nat) (w : World) (q : Nat) (p : PeerD) (F : Nat → Prop) (m : MsgD) (x : MsgA) (pa : Option Addr) (pc seq : Nat) (hp : PeerAt B w q p F) (hR : Reg B w F) (hB : B ≤ w.heap.size) (hok : p.Ok) (hs : m.seq = seq) (hseq : seq ≤ u64max) (hpl : Bytes B w (.slice pa m.payload.length pc) m.payload) (hsz0 : szB m.payload.length = true)
    (h2 : p.deliv < seq → seq - p.deliv ≤ p.reach) (h3 : seq ≤ p.deliv ∨ (p.early.any fun f => f.1 == seq) = true) :
    Calls Try.prog 43 #[.pointer (some ⟨q, 7, none⟩), .agg (msgVals m x (.slice pa m.payload.length pc)).toArray] w (TakePost B w q F p [] [p.ack] false 0) := by
  have hlt := hp.lt
  have hp0 := Lib.hid hp
  obtain ⟨_, _, vq, ve, hh, _, hE⟩ := hp
  obtain ⟨⟨g0, g1, g2, g3⟩, ⟨g4, g5, g6, g7⟩, g8, g9, g10⟩ := peerCells_get hh
  obtain ⟨_, mg1, _, mg16⟩ := msg_get m x (.slice pa m.payload.length pc)
  rw [hs] at mg1
  have hplen := hpl.1
  have hpmax : m.payload.length ≤ maxLen := by unfold maxLen; omega
  have Hpl := Lib.hid hpl
  generalize (msgVals m x (.slice pa m.payload.length pc)).toArray = A at *
  have hW := InW.mk' w A
  have c1 := hW.msg 1
  have c16 := hW.msg 16
  rw [mg1] at c1
  rw [mg16] at c16
  have hth := hW.there
  have hT := typ_of_heap hW.res
  have hfr := hW.fr
  have hsz := hW.size
  obtain ⟨hrc, hrf⟩ := hfr.rules
  have hlW : w.heap.size < (inW w A).heap.size := by omega
  have hlW1 : w.heap.size + 1 < (inW w A).heap.size := by omega
  have hqW : q < (inW w A).heap.size := by omega
  have g7W : (inW w A).cell? ⟨q, 7, none⟩ = some (.int .u8 p.to) := by rw [hrc _ _ hlt]; exact g7
  have g8W : (inW w A).cell? ⟨q, 8, none⟩ = some (.int .u64 p.reach) := by rw [hrc _ _ hlt]; exact g8
  have g9W : (inW w A).cell? ⟨q, 9, none⟩ = some (.int .u64 p.deliv) := by rw [hrc _ _ hlt]; exact g9
  have g10W : (inW w A).cell? ⟨q, 10, none⟩ = some ve := by rw [hrc _ _ hlt]; exact g10
  have hpW : PeerAt B (inW w A) q p F := hp0.out.fr hfr FreeT.no (fun _ _ h => h)
  have hRW : Reg B (inW w A) F := hR.fr hfr
  clear hs mg1 g0 g1 g2 g3 g4 g5 g6 g7 g8 g9 g10 hW hrc hrf hh hsz hpl hplen
  obtain ⟨ao, c, b, rfl, hnc, hao⟩ := (hE.fr hfr FreeT.no (fun _ _ h => h)).search
  have hel := hok.early_len
  have hsort := hok.sorted
  by_cases h1 : p.deliv < seq
  · have hany := h3.resolve_left (by omega)
    have hd1 : decide (p.deliv < seq) = true := by simp; omega
    have hd1' : (p.deliv : Int) < (seq : Int) := by omega
    have e1 : IntKind.u64.wrap ((seq : Int) - p.deliv) = (seq : Int) - p.deliv := u64_in (by omega) (by unfold u64max at hseq; omega)
    have hd2 : ¬ (p.reach : Int) < (seq : Int) - p.deliv := by have := h2 h1; omega
    have hd2' : decide ((p.reach : Int) < (seq : Int) - p.deliv) = false := by simp; omega
    have hd3 : decide (seq ≤ p.deliv) = false := by simp; omega
    have Hany := Lib.hid hany
    clear h3 h2 hany
    go_enter Try.func43, Try.ntmps43
    go_wp2_with (go_at_call 45; refine (f_sized _ pa m.payload.length pc hpmax).mono ?_; rintro e w1 ⟨rfl, rfl⟩; rw [hsz0])
    rw [show (w.alloc (.cells A 45)).alloc (.cells #[nilS, nilS, .bool false] 68) = inW w A from rfl]
    generalize inW w A = W at *
    clear mg16
    refine WS.wp_region_seq (Fr No W) [] [(0, true), (1, true), (2, true), (3, true), (4, true), (5, true), (6, true), (7, true), (8, true), (9, true), (10, true), (11, true), (12, true), (13, true), (14, true), (15, true), (16, true), (17, true), (18, true), (19, true), (20, true)] (by kernel_rfl) (by kernel_rfl) (fun c d v a w h => by cases d <;> exact h) ((Fr.refl _ _).drew) ?_
    simp only [WS.pick, List.getElem?_toArray, List.getElem?_cons_succ, List.getElem?_cons_zero]
    repeat (first | (refine WS.wpL_skip rfl ?_; try simp only [Act.put, List.setIfInBounds_toArray, List.set_cons_zero, List.set_cons_succ]) | (refine WS.wpL_q ?_ rfl ?_ ?_; rotate_left 1; (focus (intro w' hw'; have hrr' := hw'.rules; obtain ⟨hrc', _⟩ := hrr'; clear hw'; go_simp; (try with_reducible rfl); done)); try simp only [Act.put, List.setIfInBounds_toArray, List.set_cons_zero, List.set_cons_succ]))
    refine WS.wpL_nil ?_
    go_wp2_with fail
    refine WS.wp_region_seq (Fr No W) [] [(0, true), (1, true), (2, true), (3, true), (4, true), (5, true), (6, false), (7, true), (8, true), (9, true), (10, true), (11, true)] (by kernel_rfl) (by kernel_rfl) (fun c d v a w h => by cases d <;> exact h) ((Fr.refl _ _).drew.drew) ?_
    simp only [WS.pick, List.getElem?_toArray, List.getElem?_cons_succ, List.getElem?_cons_zero]
    repeat (first | (refine WS.wpL_skip rfl ?_; try simp only [Act.put, List.setIfInBounds_toArray, List.set_cons_zero, List.set_cons_succ]) | (refine WS.wpL_q ?_ rfl ?_ ?_; rotate_left 1; (focus (intro w' hw'; have hrr' := hw'.rules; obtain ⟨hrc', _⟩ := hrr'; clear hw'; go_simp; (try with_reducible rfl); done)); try simp only [Act.put, List.setIfInBounds_toArray, List.set_cons_zero, List.set_cons_succ]))
    refine WS.wpL_e rfl (fun K hK => ?_)
    go_simp
    refine (f_search W.drew.drew b c p.early seq ao (fun h => ⟨(hao h).1, (hao h).2⟩) hsort (by omega) hnc).mono ?_
    rintro e w1 ⟨rfl, hf1⟩
    rw [Hany.out]
    have hf1' := hf1.ofDrew.ofDrew
    refine hK _ _ (fun _ => hf1') ?_
    clear hK K hf1
    try simp only [Act.put, List.setIfInBounds_toArray, List.set_cons_zero, List.set_cons_succ]
    repeat (first | (refine WS.wpL_skip rfl ?_; try simp only [Act.put, List.setIfInBounds_toArray, List.set_cons_zero, List.set_cons_succ]) | (refine WS.wpL_q ?_ rfl ?_ ?_; rotate_left 1; (focus (intro w' hw'; have hrr' := hw'.rules; obtain ⟨hrc', _⟩ := hrr'; clear hw'; go_simp; (try with_reducible rfl); done)); try simp only [Act.put, List.setIfInBounds_toArray, List.set_cons_zero, List.set_cons_succ]))
    refine WS.wpL_nil ?_
    obtain ⟨hrc1, hrf1⟩ := hf1'.rules
    go_wp2_with fail
    refine WS.wp_region_seq (Fr No W) [] [(0, true), (1, true), (2, true), (3, true), (4, true), (5, true), (6, true), (7, true), (8, true), (9, true)] (by kernel_rfl) (by kernel_rfl) (fun c d v a w h => by cases d <;> exact h) (hf1'.drew) ?_
    simp only [WS.pick, List.getElem?_toArray, List.getElem?_cons_succ, List.getElem?_cons_zero]
    repeat (first | (refine WS.wpL_skip rfl ?_; try simp only [Act.put, List.setIfInBounds_toArray, List.set_cons_zero, List.set_cons_succ]) | (refine WS.wpL_q ?_ rfl ?_ ?_; rotate_left 1; (focus (intro w' hw'; have hrr' := hw'.rules; obtain ⟨hrc', _⟩ := hrr'; clear hw'; go_simp; (try with_reducible rfl); done)); try simp only [Act.put, List.setIfInBounds_toArray, List.set_cons_zero, List.set_cons_succ]))
    refine WS.wpL_nil ?_
    have hf1d := hf1'.drew
    go_wp2_with (first | (go_at_call 62; refine (f_ack B _ q p F (hpW.fr hf1d FreeT.no (fun _ _ h => h)) hok).mono ?_; rintro e w2 ⟨rfl, hf2⟩; have hth2 := World.there_alloc (there_fr (there_fr hth hf1d (fun h => h)) hf2 (fun h => h)) (.cells (outCells p.ack nilS).toArray 119); simp only [outCells, msgCells]) | (refine wpList_store_mid rfl _ _ _ rfl _ _ _ rfl rfl hth2 (by kernel_rfl) (by simp [Value.oneCell']) ?_))
    refine bodyPost_ret (results_cell2 (p := 4) (u := 5) (ty := 68) rfl rfl (World.rangeAt_setCells_same _ (w.heap.size + 1) 0 [nilS, .slice (some ⟨w2.heap.size, 0, none⟩) 1 1, .bool false] hth2) Try.underlying68 rfl (by kernel_rfl)) rfl ?_
    have hfa := hfr.then0 ((hf1d.then0 hf2).alloc (.cells (outCells p.ack nilS).toArray 119))
    exact takeRet hth2 hB (((hf1d.then0 hf2).alloc _).ty _ _ hT) (Ups.nil _ _) (Outs.one (Bytes.nil _ _)) ((hp0.out.fr hfa FreeT.no (fun _ _ h => h)).mono (fun _ h => .inl h)) (hfa.mono (fun _ _ h => h.elim)) hR
  · obtain ⟨an, hany⟩ : ∃ an, (p.early.any fun f => f.1 == seq) = an := ⟨_, rfl⟩
    have hd1 : decide (p.deliv < seq) = false := by simp; omega
    have hd1' : ¬ (p.deliv : Int) < (seq : Int) := by omega
    have hd3 : decide (seq ≤ p.deliv) = true := by simp; omega
    have Hany := Lib.hid hany
    clear h3 h2 hany
    go_enter Try.func43, Try.ntmps43
    go_wp2_with (go_at_call 45; refine (f_sized _ pa m.payload.length pc hpmax).mono ?_; rintro e w1 ⟨rfl, rfl⟩; rw [hsz0])
    rw [show (w.alloc (.cells A 45)).alloc (.cells #[nilS, nilS, .bool false] 68) = inW w A from rfl]
    generalize inW w A = W at *
    clear mg16
    refine WS.wp_region_seq (Fr No W) [] [(0, true), (1, true), (2, true), (3, true), (4, true), (5, true), (6, true), (7, true), (8, true), (9, true), (10, true), (11, true), (12, true), (13, true), (14, true), (15, true), (16, true), (17, true), (18, true), (19, true), (20, true)] (by kernel_rfl) (by kernel_rfl) (fun c d v a w h => by cases d <;> exact h) ((Fr.refl _ _).drew) ?_
    simp only [WS.pick, List.getElem?_toArray, List.getElem?_cons_succ, List.getElem?_cons_zero]
    repeat (first | (refine WS.wpL_skip rfl ?_; try simp only [Act.put, List.setIfInBounds_toArray, List.set_cons_zero, List.set_cons_succ]) | (refine WS.wpL_q ?_ rfl ?_ ?_; rotate_left 1; (focus (intro w' hw'; have hrr' := hw'.rules; obtain ⟨hrc', _⟩ := hrr'; clear hw'; go_simp; (try with_reducible rfl); done)); try simp only [Act.put, List.setIfInBounds_toArray, List.set_cons_zero, List.set_cons_succ]))
    refine WS.wpL_nil ?_
    go_wp2_with fail
    refine WS.wp_region_seq (Fr No W) [] [(0, true), (1, true), (2, true), (3, true), (4, true), (5, true), (6, false), (7, true), (8, true), (9, true), (10, true), (11, true)] (by kernel_rfl) (by kernel_rfl) (fun c d v a w h => by cases d <;> exact h) ((Fr.refl _ _).drew.drew) ?_
    simp only [WS.pick, List.getElem?_toArray, List.getElem?_cons_succ, List.getElem?_cons_zero]
    repeat (first | (refine WS.wpL_skip rfl ?_; try simp only [Act.put, List.setIfInBounds_toArray, List.set_cons_zero, List.set_cons_succ]) | (refine WS.wpL_q ?_ rfl ?_ ?_; rotate_left 1; (focus (intro w' hw'; have hrr' := hw'.rules; obtain ⟨hrc', _⟩ := hrr'; clear hw'; go_simp; (try with_reducible rfl); done)); try simp only [Act.put, List.setIfInBounds_toArray, List.set_cons_zero, List.set_cons_succ]))
    refine WS.wpL_e rfl (fun K hK => ?_)
    go_simp
    refine (f_search W.drew.drew b c p.early seq ao (fun h => ⟨(hao h).1, (hao h).2⟩) hsort (by omega) hnc).mono ?_
    rintro e w1 ⟨rfl, hf1⟩
    rw [Hany.out]
    have hf1' := hf1.ofDrew.ofDrew
    refine hK _ _ (fun _ => hf1') ?_
    clear hK K hf1
    try simp only [Act.put, List.setIfInBounds_toArray, List.set_cons_zero, List.set_cons_succ]
    repeat (first | (refine WS.wpL_skip rfl ?_; try simp only [Act.put, List.setIfInBounds_toArray, List.set_cons_zero, List.set_cons_succ]) | (refine WS.wpL_q ?_ rfl ?_ ?_; rotate_left 1; (focus (intro w' hw'; have hrr' := hw'.rules; obtain ⟨hrc', _⟩ := hrr'; clear hw'; go_simp; (try with_reducible rfl); done)); try simp only [Act.put, List.setIfInBounds_toArray, List.set_cons_zero, List.set_cons_succ]))
    refine WS.wpL_nil ?_
    obtain ⟨hrc1, hrf1⟩ := hf1'.rules
    go_wp2_with fail
    refine WS.wp_region_seq (Fr No W) [] [(0, true), (1, true), (2, true), (3, true), (4, true), (5, true), (6, true), (7, true), (8, true), (9, true)] (by kernel_rfl) (by kernel_rfl) (fun c d v a w h => by cases d <;> exact h) (hf1'.drew) ?_
    simp only [WS.pick, List.getElem?_toArray, List.getElem?_cons_succ, List.getElem?_cons_zero]
    repeat (first | (refine WS.wpL_skip rfl ?_; try simp only [Act.put, List.setIfInBounds_toArray, List.set_cons_zero, List.set_cons_succ]) | (refine WS.wpL_q ?_ rfl ?_ ?_; rotate_left 1; (focus (intro w' hw'; have hrr' := hw'.rules; obtain ⟨hrc', _⟩ := hrr'; clear hw'; go_simp; (try with_reducible rfl); done)); try simp only [Act.put, List.setIfInBounds_toArray, List.set_cons_zero, List.set_cons_succ]))
    refine WS.wpL_nil ?_
    have hf1d := hf1'.drew
    go_wp2_with (first | (go_at_call 62; refine (f_ack B _ q p F (hpW.fr hf1d FreeT.no (fun _ _ h => h)) hok).mono ?_; rintro e w2 ⟨rfl, hf2⟩; have hth2 := World.there_alloc (there_fr (there_fr hth hf1d (fun h => h)) hf2 (fun h => h)) (.cells (outCells p.ack nilS).toArray 119); simp only [outCells, msgCells]) | (refine wpList_store_mid rfl _ _ _ rfl _ _ _ rfl rfl hth2 (by kernel_rfl) (by simp [Value.oneCell']) ?_))
    refine bodyPost_ret (results_cell2 (p := 4) (u := 5) (ty := 68) rfl rfl (World.rangeAt_setCells_same _ (w.heap.size + 1) 0 [nilS, .slice (some ⟨w2.heap.size, 0, none⟩) 1 1, .bool false] hth2) Try.underlying68 rfl (by kernel_rfl)) rfl ?_
    have hfa := hfr.then0 ((hf1d.then0 hf2).alloc (.cells (outCells p.ack nilS).toArray 119))
    exact takeRet hth2 hB (((hf1d.then0 hf2).alloc _).ty _ _ hT) (Ups.nil _ _) (Outs.one (Bytes.nil _ _)) ((hp0.out.fr hfa FreeT.no (fun _ _ h => h)).mono (fun _ h => .inl h)) (hfa.mono (fun _ _ h => h.elim)) hR
end Go.Proofs.Ytplgmcpglbpghaa

/- Cells of a list of things, cut and joined. -/
namespace Go.Proofs.Ytplgmcpglbpghaa

theorem cellsOf_take {α : Type} {enc : α → Go.Value → List Go.Value} {sz : Nat} (hsz : ∀ a v, (enc a v).length = sz) (l : List α) (vs : List Go.Value) (i : Nat) (h : l.length = vs.length) (hi : i ≤ l.length) :
    (cellsOf enc l vs).take (i * sz) = cellsOf enc (l.take i) (vs.take i) ∧ (cellsOf enc l vs).drop (i * sz) = cellsOf enc (l.drop i) (vs.drop i) := by
  have e := cellsOf_append enc (l.take i) (vs.take i) (l.drop i) (vs.drop i) (by simp [h])
  rw [List.take_append_drop, List.take_append_drop] at e
  have hl : (cellsOf enc (l.take i) (vs.take i)).length = i * sz := by rw [cellsOf_length hsz _ _ (by simp [h]), List.length_take, Nat.min_eq_left hi]
  rw [e]
  exact ⟨by rw [← hl, List.take_left], by rw [← hl, List.drop_left]⟩

theorem cellsOf_insert {α : Type} {enc : α → Go.Value → List Go.Value} {sz : Nat} (hsz : ∀ a v, (enc a v).length = sz) (l : List α) (vs : List Go.Value) (i : Nat) (a : α) (v : Go.Value) (h : l.length = vs.length) (hi : i ≤ l.length) :
    (cellsOf enc l vs).take (i * sz) ++ enc a v ++ (cellsOf enc l vs).drop (i * sz) = cellsOf enc (l.take i ++ a :: l.drop i) (vs.take i ++ v :: vs.drop i) := by
  obtain ⟨h1, h2⟩ := cellsOf_take hsz l vs i h hi
  rw [h1, h2, cellsOf_append _ _ _ _ _ (by simp [h])]
  simp [cellsOf]
end Go.Proofs.Ytplgmcpglbpghaa
