/- Part 3 of the proof: Xs1, Xs2, Small, Shelf, Xs3. -/
import Derived.Test.YtplgmcpglbpghaaM02
import Derived.Shelf.Strconv.Itoa0
import Derived.Test.YtplgmcpglbpghaaProg
set_option linter.all false
set_option linter.unusedVariables false
set_option linter.unusedSimpArgs false

namespace Go.Proofs.Ytplgmcpglbpghaa
open Go.RowKit

theorem peerCells_get {w : World} {q : Nat} {p : PeerD} {vq ve : Value} {f : Nat × Nat} (hh : w.heap[q]? = some (.cells (peerCells p vq ve).toArray 108 f)) :
    (w.cell? ⟨q, 0, none⟩ = some (.int .u8 p.to) ∧ w.cell? ⟨q, 1, none⟩ = some (.int .i64 p.room) ∧ w.cell? ⟨q, 2, none⟩ = some (.int .i64 p.window) ∧ w.cell? ⟨q, 3, none⟩ = some (.int .u64 p.sent)) ∧
    (w.cell? ⟨q, 4, none⟩ = some (.int .u64 p.acked) ∧ w.cell? ⟨q, 5, none⟩ = some vq ∧ w.cell? ⟨q, 6, none⟩ = some (.int .u64 p.mask) ∧ w.cell? ⟨q, 7, none⟩ = some (.int .u8 p.to)) ∧
    (w.cell? ⟨q, 8, none⟩ = some (.int .u64 p.reach) ∧ w.cell? ⟨q, 9, none⟩ = some (.int .u64 p.deliv) ∧ w.cell? ⟨q, 10, none⟩ = some ve) := by
  simp only [World.cell?, hh]
  exact ⟨⟨rfl, rfl, rfl, rfl⟩, ⟨rfl, rfl, rfl, rfl⟩, rfl, rfl, rfl⟩

set_option maxRecDepth 100000 in
set_option maxHeartbeats 400000 in
theorem sdata (B : Nat) (w : World) (q : Nat) (p : PeerD) (F : Nat → Prop) (i : Nat) (hp : PeerAt B w q p F) (hB : B ≤ w.heap.size) (hi : i < p.queue.length) (hq : p.queue.length ≤ 16) (ha : p.acked + 1 + i ≤ u64max) :
    Calls Try.prog 67 #[.pointer (some ⟨q, 0, none⟩), .int .i64 (i : Nat)] w fun e w' => ∃ pv, e = .returned (.agg (outCells (p.data i) pv).toArray) ∧ Bytes B w' pv (p.queue.getD i []) ∧ Fr No w w' := by
  have hlt := hp.lt
  obtain ⟨_, _, vq, ve, hh, ⟨vs, hvs, hown, _⟩, _⟩ := hp
  obtain ⟨⟨g0, g1, g2, g3⟩, ⟨g4, g5, g6, g7⟩, g8, g9, g10⟩ := peerCells_get hh
  clear hh
  obtain ⟨l, hl⟩ : ∃ l, p.queue[i]? = some l := ⟨_, List.getElem?_eq_getElem hi⟩
  have hll : p.queue.getD i [] = l := by simp [List.getD_eq_getElem?_getD, hl]
  obtain ⟨v, hv, hb⟩ := hvs.get hl
  obtain ⟨_, a, c, rfl, _, _, hne⟩ := range_of_owns hown
  obtain ⟨b, rfl, _, _, _, hr⟩ := hne (fun h => by rw [h] at hv; cases hv)
  have hc : w.cell? ⟨b, i, none⟩ = some v := by have := hr i v hv; rw [Nat.zero_add] at this; exact this
  have hlb := lt_of_range hr (fun h => by rw [h] at hv; cases hv)
  have hii : (i : Int) < (p.queue.length : Int) := by omega
  have Hl := Lib.hid hl; clear hl
  have Hll := Lib.hid hll; clear hll
  have Hv := Lib.hid hv; clear hv
  have e1 : IntKind.u64.wrap ((p.acked : Int) + 1) = (p.acked : Int) + 1 := u64_in (by omega) (by unfold u64max at ha; omega)
  have e2 : IntKind.u64.wrap (i : Int) = (i : Int) := u64_in (by omega) (by unfold u64max at ha; omega)
  have e3 : IntKind.u64.wrap ((p.acked : Int) + 1 + i) = (p.acked : Int) + 1 + i := u64_in (by omega) (by unfold u64max at ha; omega)
  clear hr hne hvs hown hi
  go_enter Try.func67, Try.ntmps67
  go_wp2
  refine WS.wp_region_seq (Fr No w) [22] [(0, true), (1, true), (2, true), (3, true), (4, true), (5, true), (6, true), (7, true), (8, true), (9, true), (10, true), (11, true), (12, true), (13, true), (14, true), (15, true), (16, true), (17, true), (18, true), (19, false), (20, true), (21, true), (22, false)] (by kernel_rfl) (by kernel_rfl) (fun c d v a w h => by cases d <;> exact h) (((Fr.refl _ _).alloc _).drew) ?_
  simp only [WS.pick, List.getElem?_toArray, List.getElem?_cons_succ, List.getElem?_cons_zero]
  repeat (first | (refine WS.wpL_skip rfl ?_; try simp only [Act.put, List.setIfInBounds_toArray, List.set_cons_zero, List.set_cons_succ]) | (refine WS.wpL_q ?_ rfl ?_ ?_; rotate_left 1; (focus (intro w' hw'; have hrr' := hw'.rules; obtain ⟨hrc', _⟩ := hrr'; clear hw'; go_simp; (try with_reducible rfl); done)); try simp only [Act.put, List.setIfInBounds_toArray, List.set_cons_zero, List.set_cons_succ]))
  refine WS.wpL_e rfl (fun K hK => ?_)
  go_simp
  refine (cloneB B _ v l (hb.fr (((Fr.refl No _).alloc _).drew) FreeT.no)).mono ?_
  rintro e w1 ⟨pv, rfl, hpv, hf1⟩
  obtain ⟨pa, pc, rfl⟩ := hpv.form
  have hf2 : Fr No w w1 := (((Fr.refl No w).alloc _).drew).then0 hf1
  have hth : w1.there w.heap.size 0 18 := there_new hf1.ofDrew
  refine hK _ _ (fun _ => hf2) ?_
  clear hK K
  try simp only [Act.put, List.setIfInBounds_toArray, List.set_cons_zero, List.set_cons_succ]
  repeat (first | (refine WS.wpL_skip rfl ?_; try simp only [Act.put, List.setIfInBounds_toArray, List.set_cons_zero, List.set_cons_succ]) | (refine WS.wpL_q ?_ rfl ?_ ?_; rotate_left 1; (focus (intro w' hw'; have hrr' := hw'.rules; obtain ⟨hrc', _⟩ := hrr'; clear hw'; go_simp; (try with_reducible rfl); done)); try simp only [Act.put, List.setIfInBounds_toArray, List.set_cons_zero, List.set_cons_succ]))
  refine WS.wpL_e rfl (fun K hK => ?_)
  refine wp_store_mid _ _ _ rfl w.heap.size 0 _ rfl rfl hth (by kernel_rfl) (by simp [Value.oneCell']) ?_
  refine hK _ _ (fun h => absurd (by decide) h) ?_
  clear hK K
  try simp only [Act.put, List.setIfInBounds_toArray, List.set_cons_zero, List.set_cons_succ]
  refine WS.wpL_nil ?_
  go_wp2
  rw [show ((p.acked : Int) + 1 + (i : Int)) = ((p.acked + 1 + i : Nat) : Int) from rfl]
  have hrg := World.rangeAt_setCells_same w1 w.heap.size 0 (outCells (p.data i) (.slice pa l.length pc)) hth
  refine bodyPost_ret (v := .agg (outCells (p.data i) (.slice pa l.length pc)).toArray) (results_cell1 (p := 4) (ty := 119) rfl rfl hrg Try.underlying119 rfl (by kernel_rfl)) rfl ?_
  refine ⟨.slice pa l.length pc, rfl, ?_, Fr.setCells (.inl (Nat.le_refl _)) _ _ hf2⟩
  rw [Hll.out]
  exact hpv.fr (Fr.setCells (S := One w.heap.size) (.inr rfl) _ _ (Fr.refl _ w1)) (FreeT.one hB (typ_new hf1.ofDrew) (by decide))
end Go.Proofs.Ytplgmcpglbpghaa

namespace Go.Proofs.Ytplgmcpglbpghaa
open Go.RowKit

set_option maxRecDepth 100000 in
set_option maxHeartbeats 400000 in
theorem spush_no (B : Nat) (w : World) (q : Nat) (p : PeerD) (F : Nat → Prop) (v : Value) (hp : PeerAt B w q p F) (hok : p.Ok) (h : p.room ≤ p.queue.length ∨ p.sent = u64max) :
    Calls Try.prog 46 #[.pointer (some ⟨q, 0, none⟩), v] w fun e w' => e = .returned (.tuple #[nilS, .int .i64 (if p.room ≤ p.queue.length then 82 else 83)]) ∧ Fr No w w' := by
  have hlt := hp.lt
  obtain ⟨_, _, vq, ve, hh, ⟨vs, hvs, hown, _⟩, _⟩ := hp
  obtain ⟨⟨g0, g1, g2, g3⟩, ⟨g4, g5, g6, g7⟩, g8, g9, g10⟩ := peerCells_get hh
  clear hh
  obtain ⟨_, a, c, rfl, _, _, _⟩ := range_of_owns hown
  by_cases hr : p.room ≤ p.queue.length
  · have hr' : (p.room : Int) ≤ p.queue.length := by omega
    rw [if_pos hr]
    go_enter Try.func46, Try.ntmps46
    go_wp2
    refine WS.wp_region_seq (Fr No w) [] [(0, true), (1, true), (2, true), (3, true), (4, true), (5, true), (6, true), (7, true), (8, true), (9, true)] (by kernel_rfl) (by kernel_rfl) (fun c d v a w h => by cases d <;> exact h) ((Fr.refl _ _).drew) ?_
    simp only [WS.pick, List.getElem?_toArray, List.getElem?_cons_succ, List.getElem?_cons_zero]
    repeat (first | (refine WS.wpL_skip rfl ?_; try simp only [Act.put, List.setIfInBounds_toArray, List.set_cons_zero, List.set_cons_succ]) | (refine WS.wpL_q ?_ rfl ?_ ?_; rotate_left 1; (focus (intro w' hw'; have hrr' := hw'.rules; obtain ⟨hrc', _⟩ := hrr'; clear hw'; go_simp; (try with_reducible rfl); done)); try simp only [Act.put, List.setIfInBounds_toArray, List.set_cons_zero, List.set_cons_succ]))
    refine WS.wpL_nil ?_
    go_wp2
    go_ret2
    exact ⟨rfl, (Fr.refl _ _).drew⟩
  · have hs : (p.sent : Int) = 18446744073709551615 := by have := h.resolve_left hr; unfold u64max at this; omega
    have hs' : ((p.sent : Int) == 18446744073709551615) = true := by rw [beq_iff_eq]; exact hs
    have hr' : ¬ (p.room : Int) ≤ p.queue.length := by omega
    clear hs
    rw [if_neg hr]
    go_enter Try.func46, Try.ntmps46
    go_wp2
    refine WS.wp_region_seq (Fr No w) [] [(0, true), (1, true), (2, true), (3, true), (4, true), (5, true), (6, true), (7, true), (8, true), (9, true)] (by kernel_rfl) (by kernel_rfl) (fun c d v a w h => by cases d <;> exact h) ((Fr.refl _ _).drew) ?_
    simp only [WS.pick, List.getElem?_toArray, List.getElem?_cons_succ, List.getElem?_cons_zero]
    repeat (first | (refine WS.wpL_skip rfl ?_; try simp only [Act.put, List.setIfInBounds_toArray, List.set_cons_zero, List.set_cons_succ]) | (refine WS.wpL_q ?_ rfl ?_ ?_; rotate_left 1; (focus (intro w' hw'; have hrr' := hw'.rules; obtain ⟨hrc', _⟩ := hrr'; clear hw'; go_simp; (try with_reducible rfl); done)); try simp only [Act.put, List.setIfInBounds_toArray, List.set_cons_zero, List.set_cons_succ]))
    refine WS.wpL_nil ?_
    go_wp2
    go_ret2
    exact ⟨rfl, (Fr.refl _ _).drew⟩

def PushYes (B : Nat) (w : World) (q : Nat) (p : PeerD) (F : Nat → Prop) (l : List Int) (e : Ending) (w' : World) : Prop := ∃ vo, e = .returned (.tuple #[vo, .int .i64 0]) ∧
      Outs B w' vo (if p.queue.length < p.window then [{ p with queue := p.queue ++ [l] }.data p.queue.length] else []) ∧ PeerAt B w' q { p with sent := p.sent + 1, queue := p.queue ++ [l] } (grow F w w') ∧ Fr F w w'

set_option maxRecDepth 100000 in
set_option maxHeartbeats 400000 in
theorem spush_yes (B : Nat) (w : World) (q : Nat) (p : PeerD) (F : Nat → Prop) (v : Value) (l : List Int) (hp : PeerAt B w q p F) (hok : p.Ok) (hB : B ≤ w.heap.size) (hF : Free B w F) (hv : Bytes B w v l)
    (hr : p.queue.length < p.room) (hs : p.sent < u64max) :
    Calls Try.prog 46 #[.pointer (some ⟨q, 0, none⟩), v] w (PushYes B w q p F l) := by
  have hlt := hp.lt
  obtain ⟨hq, hqB, vq, ve, hh, hQ, hE⟩ := hp
  obtain ⟨vs, hvs, hown, hqf⟩ := hQ
  obtain ⟨⟨g0, g1, g2, g3⟩, ⟨g4, g5, g6, g7⟩, g8, g9, g10⟩ := peerCells_get hh
  obtain ⟨_, a, c, rfl, _, _, _⟩ := range_of_owns hown
  have hr' : ¬ (p.room : Int) ≤ p.queue.length := by omega
  have hs' : ((p.sent : Int) == 18446744073709551615) = false := by rw [beq_eq_false_iff_ne]; unfold u64max at hs; omega
  have e1 : IntKind.u64.wrap ((p.sent : Int) + 1) = (p.sent : Int) + 1 := u64_in (by omega) (by unfold u64max at hs; omega)
  have hz : w.frozen? ⟨q, 3, none⟩ = false := by simp [World.frozen?, hh]
  go_enter Try.func46, Try.ntmps46
  go_wp2
  refine WS.wp_region_seq (Fr No w) [] [(0, true), (1, true), (2, true), (3, true), (4, true), (5, true), (6, true), (7, true), (8, true), (9, true)] (by kernel_rfl) (by kernel_rfl) (fun c d v a w h => by cases d <;> exact h) ((Fr.refl _ _).drew) ?_
  simp only [WS.pick, List.getElem?_toArray, List.getElem?_cons_succ, List.getElem?_cons_zero]
  repeat (first | (refine WS.wpL_skip rfl ?_; try simp only [Act.put, List.setIfInBounds_toArray, List.set_cons_zero, List.set_cons_succ]) | (refine WS.wpL_q ?_ rfl ?_ ?_; rotate_left 1; (focus (intro w' hw'; have hrr' := hw'.rules; obtain ⟨hrc', _⟩ := hrr'; clear hw'; go_simp; (try with_reducible rfl); done)); try simp only [Act.put, List.setIfInBounds_toArray, List.set_cons_zero, List.set_cons_succ]))
  refine WS.wpL_nil ?_
  go_wp2
  have hp2 : PeerAt B (w.setCell ⟨q, 3, none⟩ (.int .u64 ((p.sent : Int) + 1))).drew q { p with sent := p.sent + 1 } F :=
    PeerAt.drew (PeerAt.set ⟨hq, hqB, _, ve, hh, ⟨vs, hvs, hown, hqf⟩, hE⟩ 3 _ (fun _ _ => rfl) rfl rfl hF)
  have hf2 : Fr F w (w.setCell ⟨q, 3, none⟩ (.int .u64 ((p.sent : Int) + 1))).drew := ((Fr.refl F w).setCell ⟨q, 3, none⟩ _ (.inr hq)).drew
  generalize (w.setCell ⟨q, 3, none⟩ (.int .u64 ((p.sent : Int) + 1))).drew = W at *
  have hv2 := hv.fr hf2 (hF.sub (by decide))
  clear g0 g1 g2 g3 g4 g5 g6 g7 g8 g9 g10 hz hh hown hvs hE hv hs' hr'
  obtain ⟨_, _, vq2, ve2, hh2, ⟨vs2, hvs2, hown2, hqf2⟩, hE2⟩ := hp2
  obtain ⟨⟨g0, g1, g2, g3⟩, ⟨g4, g5, g6, g7⟩, g8, g9, g10⟩ := peerCells_get hh2
  dsimp only at hvs2 hown2 hE2 g0 g1 g2 g3 g4 g5 g6 g7 g8 g9 g10
  obtain ⟨_, a2, c2, rfl, _, _, _⟩ := range_of_owns hown2
  have hqlt : q < W.heap.size := (Array.getElem?_eq_some_iff.1 hh2).1
  have hqS : ¬ ((fun k => (Value.slice a2 p.queue.length c2).ownBlock = some k) q) := own_ne hown2 hh2 (by decide)
  refine WS.wp_region_seq (Fr (fun k => (Value.slice a2 p.queue.length c2).ownBlock = some k) W) [11] [(0, true), (1, true), (2, true), (3, true), (4, true), (5, true), (6, false), (7, false), (8, false), (9, true), (10, true), (11, false)] (by kernel_rfl) (by kernel_rfl) (fun c d v a w h => by cases d <;> exact h) ((Fr.refl _ _).drew) ?_
  simp only [WS.pick, List.getElem?_toArray, List.getElem?_cons_succ, List.getElem?_cons_zero]
  repeat (first | (refine WS.wpL_skip rfl ?_; try simp only [Act.put, List.setIfInBounds_toArray, List.set_cons_zero, List.set_cons_succ]) | (refine WS.wpL_q ?_ rfl ?_ ?_; rotate_left 1; (focus (intro w' hw'; have hrc' := Fr.rules1 hw' hqlt hqS; clear hw'; go_simp; (try with_reducible rfl); done)); try simp only [Act.put, List.setIfInBounds_toArray, List.set_cons_zero, List.set_cons_succ]))
  refine WS.wpL_e rfl (fun K hK => ?_)
  go_simp
  refine (cloneB B _ v l (hv2.fr ((Fr.refl No _).drew) FreeT.no)).mono ?_
  rintro e w3 ⟨pv, rfl, hpv, hf3⟩
  obtain ⟨pa, pc, rfl⟩ := hpv.form
  have hf3' : Fr No W w3 := hf3.ofDrew
  refine hK _ _ (fun _ => hf3'.mono (fun _ _ h => h.elim)) ?_
  clear hK K
  try simp only [Act.put, List.setIfInBounds_toArray, List.set_cons_zero, List.set_cons_succ]
  repeat (first | (refine WS.wpL_skip rfl ?_; try simp only [Act.put, List.setIfInBounds_toArray, List.set_cons_zero, List.set_cons_succ]) | (refine WS.wpL_q ?_ rfl ?_ ?_; rotate_left 1; (focus (intro w' hw'; have hrc' := Fr.rules1 hw' hqlt hqS; clear hw'; go_simp; (try with_reducible rfl); done)); try simp only [Act.put, List.setIfInBounds_toArray, List.set_cons_zero, List.set_cons_succ]))
  refine WS.wpL_e rfl (fun K hK => ?_)
  go_simp
  have hf4 : Fr No W (w3.alloc (.cells #[.slice pa l.length pc] 33)) := hf3'.alloc _
  refine hK _ _ (fun _ => hf4.mono (fun _ _ h => h.elim)) ?_
  clear hK K
  try simp only [Act.put, List.setIfInBounds_toArray, List.set_cons_zero, List.set_cons_succ]
  repeat (first | (refine WS.wpL_skip rfl ?_; try simp only [Act.put, List.setIfInBounds_toArray, List.set_cons_zero, List.set_cons_succ]) | (refine WS.wpL_q ?_ rfl ?_ ?_; rotate_left 1; (focus (intro w' hw'; have hrc' := Fr.rules1 hw' hqlt hqS; clear hw'; go_simp; (try with_reducible rfl); done)); try simp only [Act.put, List.setIfInBounds_toArray, List.set_cons_zero, List.set_cons_succ]))
  refine WS.wpL_e rfl (fun K hK => ?_)
  have hown4 := owns_fr hown2 hf4 (fun _ _ h => h)
  refine wp_app elBytess (.tmp 33) (.tmp 36) rfl rfl hown4 (m := 1) (news := [.slice pa l.length pc]) rfl rfl (fun _ => ⟨w3.heap.size, 0, rfl, range_new (cs := [.slice pa l.length pc])⟩) (by simp [Value.oneCell']) ?h1 ?h2 ?h3 ?_
  case h1 => have := hok.qroom; have := hok.room16; simp only [maxLen]; omega
  case h2 => have := hok.qroom; have := hok.room16; omega
  case h3 => have := hf3'.size; have := hf2.size; simp; omega
  intro a5 c5 w5 hown5 hf5 hat5
  have hf5' : Fr (fun k => (Value.slice a2 p.queue.length c2).ownBlock = some k) W w5 := (hf4.mono (fun _ _ h => h.elim)).trans hf5
  have hrc5 := hf5'.rules1 hqlt hqS
  refine hK _ _ (fun _ => hf5') ?_
  clear hK K
  try simp only [Act.put, List.setIfInBounds_toArray, List.set_cons_zero, List.set_cons_succ]
  repeat (first | (refine WS.wpL_skip rfl ?_; try simp only [Act.put, List.setIfInBounds_toArray, List.set_cons_zero, List.set_cons_succ]) | (refine WS.wpL_q ?_ rfl ?_ ?_; rotate_left 1; (focus (intro w' hw'; have hrc' := Fr.rules1 hw' hqlt hqS; clear hw'; go_simp; (try with_reducible rfl); done)); try simp only [Act.put, List.setIfInBounds_toArray, List.set_cons_zero, List.set_cons_succ]))
  have hz5 : W.frozen? ⟨q, 5, none⟩ = false := by simp [World.frozen?, hh2]
  refine WS.wpL_e rfl (fun K hK => ?_)
  go_simp
  refine hK _ _ (fun h => absurd (by decide) h) ?_
  clear hK K
  try simp only [Act.put, List.setIfInBounds_toArray, List.set_cons_zero, List.set_cons_succ]
  refine WS.wpL_nil ?_
  have h6 : (w5.setCell ⟨q, 5, none⟩ (.slice a5 (p.queue.length + 1) c5)).heap[q]? = some (.cells (peerCells { p with sent := p.sent + 1, queue := p.queue ++ [l] } (.slice a5 (p.queue.length + 1) c5) ve2).toArray 108 (0, 0)) := by
    rw [heap_set (by rw [hf5'.block q hqlt hqS]; exact hh2)]; rfl
  have hlt5 : q < w5.heap.size := by have := hf5'.size; omega
  have hf56 : Fr (One q) w5 (w5.setCell ⟨q, 5, none⟩ (.slice a5 (p.queue.length + 1) c5)) := Fr.setCell0 w5 ⟨q, 5, none⟩ _
  have hf6 : Fr (fun k => (Value.slice a2 p.queue.length c2).ownBlock = some k ∨ k = q) W (w5.setCell ⟨q, 5, none⟩ (.slice a5 (p.queue.length + 1) c5)) := (hf5'.mono (fun _ _ h => .inl h)).setCell _ _ (.inr (.inr rfl))
  have hfree6 : FreeT [5] B W (fun k => (Value.slice a2 p.queue.length c2).ownBlock = some k ∨ k = q) := FreeT.of (by
    rintro b (hb | rfl)
    · exact ⟨(owns_typ hown2 hb).2, _, (owns_typ hown2 hb).1, by decide⟩
    · exact ⟨hqB, _, typ_of_heap hh2, by decide⟩)
  have hone6 : FreeT [5] B w5 (One q) := FreeT.one hqB (by rw [hf5'.typ hqlt hqS]; exact typ_of_heap hh2) (by decide)
  have hfwW : Fr F w (w5.setCell ⟨q, 5, none⟩ (.slice a5 (p.queue.length + 1) c5)) := hf2.trans (hf6.mono (fun b _ h => h.elim (fun h => hqf2 _ h) (fun h => by rw [h]; exact hq)))
  have hpv6 : Bytes B (w5.setCell ⟨q, 5, none⟩ (.slice a5 (p.queue.length + 1) c5)) (.slice pa l.length pc) l :=
    ((hpv.fr (Fr.alloc0 _ _) FreeT.no).fr hf5 (FreeT.of fun b hb => ⟨(owns_typ hown4 hb).2, _, (owns_typ hown4 hb).1, by decide⟩)).fr hf56 hone6
  have hown6 := owns_fr hown5 hf56 (fun k hk e => own_ne hown5 (q := q) (c := (peerCells { p with sent := p.sent + 1 } (.slice a2 p.queue.length c2) ve2).toArray) (t := 108) (f := (0, 0)) (by rw [hf5'.block q hqlt hqS]; exact hh2) (by decide) (by rw [hk, e]))
  obtain ⟨us, hus, howne, hef⟩ := hE2
  have howne6 := owns_fr howne hf6 (fun k hk h => h.elim (fun h => by have h1 := (owns_typ howne hk).1; rw [(owns_typ hown2 h).1] at h1; cases h1) (fun e => own_ne howne hh2 (by decide) (by rw [hk, e])))
  have hp6 : PeerAt B (w5.setCell ⟨q, 5, none⟩ (.slice a5 (p.queue.length + 1) c5)) q { p with sent := p.sent + 1, queue := p.queue ++ [l] } (grow F w (w5.setCell ⟨q, 5, none⟩ (.slice a5 (p.queue.length + 1) c5))) := by
    refine ⟨.inl hq, hqB, _, _, h6, ⟨vs2 ++ [.slice pa l.length pc], All2.append (hvs2.mono fun _ _ h => h.fr hf6 hfree6) (All2.one hpv6), ?_, fun k hk => ?_⟩, ⟨us, hus.mono fun _ _ h => h.fr hf6 hfree6, howne6, fun k hk => .inl (hef k hk)⟩⟩
    · simpa using hown6
    · rcases hat5 with h | h
      · rw [h] at hk; exact .inl (hqf2 k hk)
      · refine .inr ?_
        have ht := (owns_typ hown6 hk).1
        rw [h] at hk
        simp at hk
        refine ⟨?_, lt_of_typ ht, .inl ht⟩
        have := hf3'.size; have := hf2.size; omega
  clear hf56 hfree6 hone6 hpv6 hown6 howne6 howne hus hef h6 hown5 hf5 hf5' hrc5 hown4 hf4 hown2 hvs2 hqf2 hh2 g0 g1 g2 g3 g4 g5 g6 g7 g8 g9 g10 hqS hz5 hv2 hpv hat5 hf3 hf3' hf6
  have hsz5 : w5.heap.size ≤ (w5.setCell ⟨q, 5, none⟩ (.slice a5 (p.queue.length + 1) c5)).heap.size := by simp [World.setCell]
  generalize (w5.setCell ⟨q, 5, none⟩ (.slice a5 (p.queue.length + 1) c5)) = W6 at *
  have hp6' := hp6
  obtain ⟨_, _, vq6, ve6, hh6, ⟨_, _, hown6, _⟩, _⟩ := hp6
  obtain ⟨⟨g0, g1, g2, g3⟩, ⟨g4, g5, g6, g7⟩, g8, g9, g10⟩ := peerCells_get hh6
  obtain ⟨_, a6, c6, rfl, _, _, _⟩ := range_of_owns hown6
  clear hown6 hh6
  simp only [List.length_append, List.length_singleton] at g5
  dsimp only at g0 g1 g2 g3 g4 g6 g7 g8 g9 g10
  have hq16 : p.queue.length ≤ 16 := by have := hok.qroom; have := hok.room16; omega
  by_cases hw : p.queue.length < p.window
  · have hw' : (p.queue.length : Int) < p.window := by omega
    go_wp2_with (go_at_call 67; refine (sdata B _ q _ _ p.queue.length hp6' (by have := hfwW.size; omega) (by simp) (by have := hok.qroom; have := hok.room16; simp; omega) (by have := hok.qlen; have := hok.acked; dsimp only; omega)).mono ?_; rintro e w7 ⟨pv, rfl, hpv, hf7⟩; obtain ⟨oa, oc, rfl⟩ := hpv.form; simp only [outCells, msgCells])
    go_ret2
    refine ⟨_, rfl, ?_, (hp6'.fr (hf7.alloc _) FreeT.no (fun _ _ h => h)).mono (grow_mono (hf7.alloc _) (fun _ _ h => h)), hfwW.then0 (hf7.alloc _)⟩
    rw [if_pos hw]
    have hgl : (p.queue ++ [l]).getD p.queue.length [] = l := by simp
    rw [hgl] at hpv
    exact Outs.one (o := PeerD.data { p with queue := p.queue ++ [l] } p.queue.length) (by show Bytes B w7 _ ((p.queue ++ [l]).getD p.queue.length []); rw [hgl]; exact hpv)
  · have hw' : ¬ (p.queue.length : Int) < p.window := by omega
    go_wp2
    go_ret2
    exact ⟨_, rfl, by rw [if_neg hw]; exact Outs.nil _ _, hp6', hfwW⟩
end Go.Proofs.Ytplgmcpglbpghaa

/- Small functions: they compute, and leave the world alone. -/
namespace Go.Proofs.Ytplgmcpglbpghaa
open Go.RowKit

theorem ret_b {a b : Bool} (h : a = b) : Ending.returned (.bool a) = .returned (.bool b) := by rw [h]
theorem ret_i {k : IntKind} {a b : Int} (h : a = b) : Ending.returned (.int k a) = .returned (.int k b) := by rw [h]

def szB (n : Nat) : Bool := decide (1 ≤ n) && decide (n ≤ 3072)
theorem szB_true {n : Nat} : szB n = true ↔ 1 ≤ n ∧ n ≤ 3072 := by simp [szB]
theorem szB_false {n : Nat} : szB n = false ↔ n < 1 ∨ 3072 < n := by
  cases h : szB n with
  | true => have := szB_true.1 h; simp; omega
  | false =>
    simp
    have h' : ¬ (1 ≤ n ∧ n ≤ 3072) := fun h2 => by rw [szB_true.2 h2] at h; cases h
    omega

set_option maxRecDepth 100000 in
set_option maxHeartbeats 400000 in
theorem f_sized (w : World) (a : Option Addr) (n c : Nat) (hn : n ≤ maxLen) : Calls Try.prog 45 #[.slice a n c] w fun e w' => e = .returned (.bool (szB n)) ∧ w' = w := by
  unfold maxLen at hn
  by_cases h1 : 1 ≤ n
  · by_cases h2 : n ≤ 3072
    · rw [show szB n = true from szB_true.2 ⟨h1, h2⟩]
      go_enter Try.func45, Try.ntmps45
      go_wp2
      go_ret
      exact ⟨ret_b (by simp; omega), rfl⟩
    · rw [show szB n = false from szB_false.2 (by omega)]
      go_enter Try.func45, Try.ntmps45
      go_wp2
      go_ret
      exact ⟨ret_b (by simp; omega), rfl⟩
  · rw [show szB n = false from szB_false.2 (by omega)]
    go_enter Try.func45, Try.ntmps45
    go_wp2
    go_ret
    exact ⟨rfl, rfl⟩

set_option maxRecDepth 100000 in
set_option maxHeartbeats 400000 in
theorem f_num (w : World) (n : Int) : Calls Try.prog 19 #[.int .i64 n] w fun e w' => e = .returned (.int .i64 n) ∧ w' = w := by
  go_enter Try.func19, Try.ntmps19
  go_wp2
  go_ret
  exact ⟨rfl, rfl⟩

/-- n counted round k things. -/
def roundI (n : Int) (k : Nat) : Int := if n.tmod k < 0 then n.tmod k + k else n.tmod k
theorem roundI_bounds (n : Int) (k : Nat) (hk : 0 < k) : 0 ≤ roundI n k ∧ roundI n k < k := by
  unfold roundI
  have h1 := Int.tmod_lt_of_pos n (b := (k : Int)) (by omega)
  have h2 : -(k : Int) < n.tmod k := by
    rcases Int.le_total 0 n with h | h
    · have := Int.tmod_nonneg (b := (k : Int)) h; omega
    · have := Int.tmod_lt_of_pos (-n) (b := (k : Int)) (by omega)
      rw [Int.neg_tmod] at this; omega
  split <;> omega

set_option maxRecDepth 100000 in
set_option maxHeartbeats 400000 in
theorem f_around (w : World) (n : Int) (k : Nat) (hk : 0 < k) (hk2 : k ≤ 4096) : Calls Try.prog 15 #[.int .i64 n, .int .i64 k] w fun e w' => e = .returned (.int .i64 (roundI n k)) ∧ w' = w := by
  have hb := roundI_bounds n k hk
  unfold roundI at *
  have h1 := Int.tmod_lt_of_pos n (b := (k : Int)) (by omega)
  have hk0 : ¬ (k : Int) = 0 := by omega
  have hw : IntKind.i64.wrap (n.tmod k) = n.tmod k := IntWalk.i64_in _ (by split at hb <;> omega)
  by_cases h : n.tmod k < 0
  · rw [if_pos h] at *
    go_enter Try.func15, Try.ntmps15
    go_wp2
    go_ret
    exact ⟨rfl, rfl⟩
  · rw [if_neg h] at *
    go_enter Try.func15, Try.ntmps15
    go_wp2
    go_ret
    exact ⟨rfl, rfl⟩
end Go.Proofs.Ytplgmcpglbpghaa

/-
  DERIVED: THE SHELF's CONTRACTS AT THIS DUMP, IN PLAIN WORDS (tools/lay-plain.mjs out of 'Shelf0.lean', which tools/lay-shelf.mjs wrote): THE SAME DECLARATIONS UNDER THE SAME NAMES: 'import', 'namespace', 'open', 'def', 'theorem' AND NOTHING ELSE: no command of the shelf's: FOR A HAND-IN. Each laying: the table of numbers ('.._ren') and one theorem, a field a fact of the dump's own or the kernel's comparison; each contract: ONE APPLICATION.
-/
namespace Go.Proofs
open Go.Shelf
def Try.lays129_ren : Go.Shelf.Ren := ⟨fun | 129 => 83 | n => n, fun | 53 => 38 | 3 => 3 | 4 => 4 | 46 => 153 | 5 => 5 | 9 => 9 | n => n, fun | n => n⟩
theorem Try.lays129 : Go.Proofs.Lays.n129 Try.prog Try.lays129_ren := {
  mixed := by kernel_rfl
  f129 := Try.func83.trans (congrArg some (by kernel_rfl))
  t3 := Try.underlying3
  a3 := Try.isAgg3
  z3 := Try.sizeOf3
  v3 := Try.zeroValue3
  t4 := Try.underlying4
  a4 := Try.isAgg4
  z4 := Try.sizeOf4
  v4 := Try.zeroValue4
  t5 := Try.underlying5
  a5 := Try.isAgg5
  z5 := Try.sizeOf5
  v5 := Try.zeroValue5
  t9 := Try.underlying9
  a9 := Try.isAgg9
  z9 := Try.sizeOf9
  v9 := Try.zeroValue9
  t46 := Try.underlying153
  a46 := Try.isAgg153
  z46 := Try.sizeOf153
  v46 := Try.zeroValue153
  t53 := Try.underlying38
  a53 := Try.isAgg38
  z53 := Try.sizeOf38
  v53 := Try.zeroValue38 }
/-- bits.Len64: "Len64 returns the minimum number of bits required to represent x; the result is 0 for x == 0.": IT RETURNS 'Lib.bitLen x'; the world is as it was. ('h0', 'h1': x is a uint64.) (LAID: no walk: one application.) -/
theorem Try.bits_Len64 (x : Int) (w : World) (h0 : 0 ≤ x) (h1 : x ≤ 18446744073709551615) :
    Calls Try.prog 83 #[.int .u64 x] w fun e w' => e = .returned (.int .i64 (Lib.bitLen x.toNat)) ∧ w' = w := Any.bits_Len64 Try.lays129 x w h0 h1
end Go.Proofs

namespace Go.Proofs.Ytplgmcpglbpghaa
open Go.RowKit

theorem bitLenAux_eq : ∀ (f x : Nat), x < 2 ^ f → Lib.bitLenAux f x = if x = 0 then 0 else Nat.log2 x + 1
  | 0, x, h => by
    have : x = 0 := by simpa using h
    subst this; rfl
  | f + 1, x, h => by
    unfold Lib.bitLenAux
    by_cases hx : x = 0
    · simp [hx]
    · rw [if_neg hx, if_neg hx, bitLenAux_eq f (x / 2) (by rw [Nat.pow_succ] at h; omega)]
      conv => rhs; rw [Nat.log2_def]
      by_cases h2 : 2 ≤ x
      · rw [if_neg (by omega), if_pos h2]; omega
      · rw [if_pos (by omega), if_neg h2]
theorem bitLen_eq (x : Nat) (h : x ≤ 18446744073709551615) : Lib.bitLen x = if x = 0 then 0 else Nat.log2 x + 1 := bitLenAux_eq 64 x (by omega)

set_option maxRecDepth 100000 in
set_option maxHeartbeats 400000 in
theorem f_beyond (w : World) (q sent seq mask : Nat) (h3 : w.cell? ⟨q, 3, none⟩ = some (.int .u64 sent)) (hs : seq ≤ sent) (hs1 : sent ≤ u64max) (hm : mask ≤ u64max) :
    Calls Try.prog 65 #[.pointer (some ⟨q, 0, none⟩), .int .u64 seq, .int .u64 mask] w fun e w' => e = .returned (.bool (beyondB sent seq mask)) ∧ Fr No w w' := by
  have hlt := World.block_lt_of_cell? w _ h3
  unfold u64max at *
  by_cases h0 : mask = 0
  · subst h0
    have hb : (((0 : Nat) : Int) != 0) = false := by simp
    go_enter Try.func65, Try.ntmps65
    go_wp2
    refine WS.wp_region_seq (Fr No w) [] [(0, true), (1, true), (2, true), (3, true), (7, true), (8, true), (9, true), (10, true), (11, true), (12, true), (4, false), (5, true), (6, true), (13, true), (14, true), (15, true)] (by kernel_rfl) (by kernel_rfl) (fun c d v a w h => by cases d <;> exact h) ((Fr.refl _ _).drew) ?_
    simp only [WS.pick, List.getElem?_toArray, List.getElem?_cons_succ, List.getElem?_cons_zero]
    repeat (first | (refine WS.wpL_skip rfl ?_; try simp only [Act.put, List.setIfInBounds_toArray, List.set_cons_zero, List.set_cons_succ]) | (refine WS.wpL_q ?_ rfl ?_ ?_; rotate_left 1; (focus (intro w' hw'; have hrr' := hw'.rules; obtain ⟨hrc', _⟩ := hrr'; clear hw'; go_simp; (try with_reducible rfl); done)); try simp only [Act.put, List.setIfInBounds_toArray, List.set_cons_zero, List.set_cons_succ]))
    refine WS.wpL_eskip rfl (fun _ => (Fr.refl _ _).drew) ?_
    try simp only [Act.put, List.setIfInBounds_toArray, List.set_cons_zero, List.set_cons_succ]
    repeat (first | (refine WS.wpL_skip rfl ?_; try simp only [Act.put, List.setIfInBounds_toArray, List.set_cons_zero, List.set_cons_succ]) | (refine WS.wpL_q ?_ rfl ?_ ?_; rotate_left 1; (focus (intro w' hw'; have hrr' := hw'.rules; obtain ⟨hrc', _⟩ := hrr'; clear hw'; go_simp; (try with_reducible rfl); done)); try simp only [Act.put, List.setIfInBounds_toArray, List.set_cons_zero, List.set_cons_succ]))
    refine WS.wpL_nil ?_
    go_wp2
    go_ret
    exact ⟨ret_b (by simp [beyondB]), (Fr.refl _ _).drew⟩
  · have hb : ((mask : Int) != 0) = true := by rw [bne_iff_ne]; omega
    have hl := bitLen_eq mask hm
    rw [if_neg h0] at hl
    have hlog : Nat.log2 mask < 64 := (Nat.log2_lt h0).2 (by omega)
    have e1 : IntKind.i64.wrap ((Lib.bitLen mask : Int) + 1) = (Lib.bitLen mask : Int) + 1 := IntWalk.i64_in _ (by omega)
    have e2 : IntKind.u64.wrap ((Lib.bitLen mask : Int) + 1) = (Lib.bitLen mask : Int) + 1 := u64_in (by omega) (by omega)
    have e3 : IntKind.u64.wrap ((sent : Int) - seq) = (sent : Int) - seq := u64_in (by omega) (by omega)
    have Hl := Lib.hid hl; clear hl
    go_enter Try.func65, Try.ntmps65
    go_wp2
    refine WS.wp_region_seq (Fr No w) [] [(0, true), (1, true), (2, true), (3, true), (7, true), (8, true), (9, true), (10, true), (11, true), (12, true), (4, false), (5, true), (6, true), (13, true), (14, true), (15, true)] (by kernel_rfl) (by kernel_rfl) (fun c d v a w h => by cases d <;> exact h) ((Fr.refl _ _).drew) ?_
    simp only [WS.pick, List.getElem?_toArray, List.getElem?_cons_succ, List.getElem?_cons_zero]
    repeat (first | (refine WS.wpL_skip rfl ?_; try simp only [Act.put, List.setIfInBounds_toArray, List.set_cons_zero, List.set_cons_succ]) | (refine WS.wpL_q ?_ rfl ?_ ?_; rotate_left 1; (focus (intro w' hw'; have hrr' := hw'.rules; obtain ⟨hrc', _⟩ := hrr'; clear hw'; go_simp; (try with_reducible rfl); done)); try simp only [Act.put, List.setIfInBounds_toArray, List.set_cons_zero, List.set_cons_succ]))
    refine WS.wpL_e rfl (fun K hK => ?_)
    go_simp
    refine (Try.bits_Len64 (mask : Int) _ (by omega) (by omega)).mono ?_
    rintro e w1 ⟨rfl, rfl⟩
    rw [Int.toNat_natCast]
    refine hK _ _ (fun _ => (Fr.refl _ _).drew) ?_
    clear hK K
    try simp only [Act.put, List.setIfInBounds_toArray, List.set_cons_zero, List.set_cons_succ]
    repeat (first | (refine WS.wpL_skip rfl ?_; try simp only [Act.put, List.setIfInBounds_toArray, List.set_cons_zero, List.set_cons_succ]) | (refine WS.wpL_q ?_ rfl ?_ ?_; rotate_left 1; (focus (intro w' hw'; have hrr' := hw'.rules; obtain ⟨hrc', _⟩ := hrr'; clear hw'; go_simp; (try with_reducible rfl); done)); try simp only [Act.put, List.setIfInBounds_toArray, List.set_cons_zero, List.set_cons_succ]))
    refine WS.wpL_nil ?_
    go_wp2
    go_ret
    refine ⟨ret_b ?_, (Fr.refl _ _).drew⟩
    have hl := Hl.out
    rw [hl]
    simp only [beyondB]
    rw [Bool.eq_iff_iff]
    simp [h0]
    omega

set_option maxRecDepth 100000 in
set_option maxHeartbeats 400000 in
theorem f_left (B : Nat) (w : World) (q : Nat) (p : PeerD) (F : Nat → Prop) (hp : PeerAt B w q p F) (hok : p.Ok) :
    Calls Try.prog 52 #[.pointer (some ⟨q, 0, none⟩)] w fun e w' => e = .returned (.int .i64 p.left) ∧ Fr No w w' := by
  have hlt := hp.lt
  obtain ⟨_, _, vq, ve, hh, ⟨vs, hvs, hown, _⟩, _⟩ := hp
  obtain ⟨⟨g0, g1, g2, g3⟩, ⟨g4, g5, g6, g7⟩, g8, g9, g10⟩ := peerCells_get hh
  clear hh
  obtain ⟨_, a, c, rfl, _, _, _⟩ := range_of_owns hown
  have hqr := hok.qroom
  have hr16 := hok.room16
  have hs1 := hok.sent
  unfold u64max at hs1
  have e1 : IntKind.i64.wrap ((p.room : Int) - p.queue.length) = (p.room : Int) - p.queue.length := IntWalk.i64_in _ (by omega)
  have e2 : IntKind.u64.wrap ((p.room : Int) - p.queue.length) = (p.room : Int) - p.queue.length := u64_in (by omega) (by omega)
  have e3 : IntKind.u64.wrap (18446744073709551615 - (p.sent : Int)) = 18446744073709551615 - (p.sent : Int) := u64_in (by omega) (by omega)
  by_cases hc : 18446744073709551615 - (p.sent : Int) < (p.room : Int) - p.queue.length
  · have e4 : IntKind.i64.wrap (18446744073709551615 - (p.sent : Int)) = 18446744073709551615 - (p.sent : Int) := IntWalk.i64_in _ (by omega)
    go_enter Try.func52, Try.ntmps52
    go_wp2
    refine WS.wp_region_seq (Fr No w) [] [(0, true), (1, true), (2, true), (3, true), (4, true), (5, true), (6, true), (7, true), (8, true), (9, true), (10, true)] (by kernel_rfl) (by kernel_rfl) (fun c d v a w h => by cases d <;> exact h) ((Fr.refl _ _).drew) ?_
    simp only [WS.pick, List.getElem?_toArray, List.getElem?_cons_succ, List.getElem?_cons_zero]
    repeat (first | (refine WS.wpL_skip rfl ?_; try simp only [Act.put, List.setIfInBounds_toArray, List.set_cons_zero, List.set_cons_succ]) | (refine WS.wpL_q ?_ rfl ?_ ?_; rotate_left 1; (focus (intro w' hw'; have hrr' := hw'.rules; obtain ⟨hrc', _⟩ := hrr'; clear hw'; go_simp; (try with_reducible rfl); done)); try simp only [Act.put, List.setIfInBounds_toArray, List.set_cons_zero, List.set_cons_succ]))
    refine WS.wpL_nil ?_
    go_wp2
    go_ret
    exact ⟨ret_i (by unfold PeerD.left u64max; omega), (Fr.refl _ _).drew⟩
  · go_enter Try.func52, Try.ntmps52
    go_wp2
    refine WS.wp_region_seq (Fr No w) [] [(0, true), (1, true), (2, true), (3, true), (4, true), (5, true), (6, true), (7, true), (8, true), (9, true), (10, true)] (by kernel_rfl) (by kernel_rfl) (fun c d v a w h => by cases d <;> exact h) ((Fr.refl _ _).drew) ?_
    simp only [WS.pick, List.getElem?_toArray, List.getElem?_cons_succ, List.getElem?_cons_zero]
    repeat (first | (refine WS.wpL_skip rfl ?_; try simp only [Act.put, List.setIfInBounds_toArray, List.set_cons_zero, List.set_cons_succ]) | (refine WS.wpL_q ?_ rfl ?_ ?_; rotate_left 1; (focus (intro w' hw'; have hrr' := hw'.rules; obtain ⟨hrc', _⟩ := hrr'; clear hw'; go_simp; (try with_reducible rfl); done)); try simp only [Act.put, List.setIfInBounds_toArray, List.set_cons_zero, List.set_cons_succ]))
    refine WS.wpL_nil ?_
    go_wp2
    go_ret
    exact ⟨ret_i (by unfold PeerD.left u64max; omega), (Fr.refl _ _).drew⟩
end Go.Proofs.Ytplgmcpglbpghaa
