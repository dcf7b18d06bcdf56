/- Part 5 of the proof: Xs7, Xs8. -/
import Derived.Test.YtplgmcpglbpghaaM04
set_option linter.all false
set_option linter.unusedVariables false
set_option linter.unusedSimpArgs false

namespace Go.Proofs.Ytplgmcpglbpghaa
open Go.RowKit

set_option maxRecDepth 100000 in
set_option maxHeartbeats 6000000 in
theorem heard_new (B : Nat) (w : World) (q : Nat) (p : PeerD) (F : Nat → Prop) (m : MsgD) (x : MsgA) (pa : Option Addr) (pc seq mask : Nat) (hp : PeerAt B w q p F) (hR : Reg B w F) (hB : B ≤ w.heap.size) (hok : p.Ok) (hs : m.seq = seq) (hk : m.mask = mask) (hseq : seq ≤ u64max) (hmask : mask ≤ u64max)
    (h : seq ≤ p.sent) (hb : beyondB p.sent seq mask = false) (hlow : p.acked < seq) (p' : PeerD) (hpe : p' = { p with queue := p.queue.drop (seq - p.acked), acked := seq, mask := mask }) :
    Calls Try.prog 44 #[.pointer (some ⟨q, 0, none⟩), .agg (msgVals m x (.slice pa m.payload.length pc)).toArray] w
      (TakePost B w q F p' [] (p'.datas (min p.queue.length p.window - (seq - p.acked)) (min (p.queue.length - (seq - p.acked)) p.window)) true 0) := by
  have hgone : seq - p.acked ≤ p.queue.length := by have := hok.qlen; omega
  have hq16 : p.queue.length ≤ 16 := by have := hok.qroom; have := hok.room16; omega
  have hw16 : p.window ≤ 16 := by have := hok.win; have := hok.room16; omega
  have hlt := hp.lt
  have hp0 := Lib.hid hp
  obtain ⟨_, _, vq, ve, hh, hQ, _⟩ := hp
  obtain ⟨⟨g0, g1, g2, g3⟩, ⟨g4, g5, g6, g7⟩, g8, g9, g10⟩ := peerCells_get hh
  obtain ⟨_, mg1, mg12, _⟩ := msg_get m x (.slice pa m.payload.length pc)
  rw [hs] at mg1
  rw [hk] at mg12
  generalize (msgVals m x (.slice pa m.payload.length pc)).toArray = A at *
  have hW := InW.mk' w A
  have c1 := hW.msg 1
  have c12 := hW.msg 12
  rw [mg1] at c1
  rw [mg12] at c12
  have hth := hW.there
  have hT := typ_of_heap hW.res
  have hfr := hW.fr
  have hsz := hW.size
  obtain ⟨hrc, hrf⟩ := hfr.rules
  have hlW : w.heap.size < (inW w A).heap.size := by omega
  have hlW1 : w.heap.size + 1 < (inW w A).heap.size := by omega
  have hqW : q < (inW w A).heap.size := by omega
  have g2W : (inW w A).cell? ⟨q, 2, none⟩ = some (.int .i64 p.window) := by rw [hrc _ _ hlt]; exact g2
  have g3W : (inW w A).cell? ⟨q, 3, none⟩ = some (.int .u64 p.sent) := by rw [hrc _ _ hlt]; exact g3
  have g4W : (inW w A).cell? ⟨q, 4, none⟩ = some (.int .u64 p.acked) := by rw [hrc _ _ hlt]; exact g4
  have g5W : (inW w A).cell? ⟨q, 5, none⟩ = some vq := by rw [hrc _ _ hlt]; exact g5
  have g6W : (inW w A).cell? ⟨q, 6, none⟩ = some (.int .u64 p.mask) := by rw [hrc _ _ hlt]; exact g6
  have hz6 : (inW w A).frozen? ⟨q, 6, none⟩ = false := by rw [hrf _ _ hlt]; simp [World.frozen?, hh]
  have hz56 : (inW w A).frozen? ⟨q, 5, none⟩ = (inW w A).frozen? ⟨q, 6, none⟩ := by rw [hrf _ _ hlt, hrf _ _ hlt]; simp [World.frozen?, hh]
  have hpW : PeerAt B (inW w A) q p F := hp0.out.fr hfr FreeT.no (fun _ _ h => h)
  have hRW : Reg B (inW w A) F := hR.fr hfr
  clear hs hk mg1 mg12 g0 g1 g2 g3 g4 g5 g6 g7 g8 g9 g10 hW hrc hrf hh hsz
  have hd1 : decide (p.sent < seq) = false := by simp; omega
  have Hb := Lib.hid hb
  clear hb
  have hd2 : decide (seq < p.acked) = false := by simp; omega
  have hd3 : ((seq : Int) == (p.acked : Int)) = false := by rw [beq_eq_false_iff_ne]; omega
  obtain ⟨g, hg⟩ : ∃ g, seq = p.acked + g := ⟨seq - p.acked, by omega⟩
  have hgs : seq - p.acked = g := by omega
  rw [hgs] at hgone hpe ⊢
  have e1 : IntKind.u64.wrap ((seq : Int) - (p.acked : Int)) = (g : Int) := by rw [show (seq : Int) - (p.acked : Int) = (g : Int) by omega]; exact u64_in (by omega) (by omega)
  have e2 : IntKind.i64.wrap (g : Int) = (g : Int) := IntWalk.i64_in _ (by omega)
  have e3 : IntKind.i64.wrap (min (p.queue.length : Int) (p.window : Int) - g) = min (p.queue.length : Int) (p.window : Int) - g := IntWalk.i64_in _ (by omega)
  have hgl : g ≤ p.queue.length := by omega
  have hg1 : 1 ≤ g := by omega
  have hq' : p'.queue = p.queue.drop g := by rw [hpe]
  have ha' : p'.acked = seq := by rw [hpe]
  have hw' : p'.window = p.window := by rw [hpe]
  have Hg := Lib.hid hg
  clear hg hgs hgone
  go_enter Try.func44, Try.ntmps44
  go_wp2_with fail
  rw [show (w.alloc (.cells A 45)).alloc (.cells #[nilS, nilS, .bool false] 68) = inW w A from rfl]
  generalize inW w A = W at *
  refine WS.wp_region_seq (Fr No W) [] [(0, true), (1, true), (2, true), (3, true), (4, true), (5, true), (6, true), (7, true), (8, true), (9, true), (10, true), (11, true), (12, true), (13, false), (14, true)] (by kernel_rfl) (by kernel_rfl) (fun c d v a w h => by cases d <;> exact h) ((Fr.refl _ _).drew) ?_
  simp only [WS.pick, List.getElem?_toArray, List.getElem?_cons_succ, List.getElem?_cons_zero]
  repeat (first | (refine WS.wpL_skip rfl ?_; try simp only [Act.put, List.setIfInBounds_toArray, List.set_cons_zero, List.set_cons_succ]) | (refine WS.wpL_q ?_ rfl ?_ ?_; rotate_left 1; (focus (intro w' hw'; have hrr' := hw'.rules; obtain ⟨hrc', _⟩ := hrr'; clear hw'; go_simp; (try with_reducible rfl); done)); try simp only [Act.put, List.setIfInBounds_toArray, List.set_cons_zero, List.set_cons_succ]))
  refine WS.wpL_e rfl (fun K hK => ?_)
  go_simp
  refine (f_beyond W.drew q p.sent seq mask g3W h hok.sent hmask).mono ?_
  rintro e w1 ⟨rfl, hf1⟩
  rw [Hb.out]
  have hf1' := hf1.ofDrew
  refine hK _ _ (fun _ => hf1') ?_
  clear hK K hf1
  try simp only [Act.put, List.setIfInBounds_toArray, List.set_cons_zero, List.set_cons_succ]
  repeat (first | (refine WS.wpL_skip rfl ?_; try simp only [Act.put, List.setIfInBounds_toArray, List.set_cons_zero, List.set_cons_succ]) | (refine WS.wpL_q ?_ rfl ?_ ?_; rotate_left 1; (focus (intro w' hw'; have hrr' := hw'.rules; obtain ⟨hrc', _⟩ := hrr'; clear hw'; go_simp; (try with_reducible rfl); done)); try simp only [Act.put, List.setIfInBounds_toArray, List.set_cons_zero, List.set_cons_succ]))
  refine WS.wpL_nil ?_
  go_wp2_with fail
  refine WS.wp_region_seq (Fr No W) [] [(0, true), (1, true), (2, true), (3, true), (4, true), (5, true), (6, true), (7, true)] (by kernel_rfl) (by kernel_rfl) (fun c d v a w h => by cases d <;> exact h) (hf1'.drew) ?_
  simp only [WS.pick, List.getElem?_toArray, List.getElem?_cons_succ, List.getElem?_cons_zero]
  repeat (first | (refine WS.wpL_skip rfl ?_; try simp only [Act.put, List.setIfInBounds_toArray, List.set_cons_zero, List.set_cons_succ]) | (refine WS.wpL_q ?_ rfl ?_ ?_; rotate_left 1; (focus (intro w' hw'; have hrr' := hw'.rules; obtain ⟨hrc', _⟩ := hrr'; clear hw'; go_simp; (try with_reducible rfl); done)); try simp only [Act.put, List.setIfInBounds_toArray, List.set_cons_zero, List.set_cons_succ]))
  refine WS.wpL_nil ?_
  go_wp2_with fail
  refine WS.wp_region_seq (Fr No W) [] [(0, true), (1, true), (2, true), (3, true), (4, true), (5, true), (6, true), (7, true)] (by kernel_rfl) (by kernel_rfl) (fun c d v a w h => by cases d <;> exact h) (hf1'.drew.drew) ?_
  simp only [WS.pick, List.getElem?_toArray, List.getElem?_cons_succ, List.getElem?_cons_zero]
  repeat (first | (refine WS.wpL_skip rfl ?_; try simp only [Act.put, List.setIfInBounds_toArray, List.set_cons_zero, List.set_cons_succ]) | (refine WS.wpL_q ?_ rfl ?_ ?_; rotate_left 1; (focus (intro w' hw'; have hrr' := hw'.rules; obtain ⟨hrc', _⟩ := hrr'; clear hw'; go_simp; (try with_reducible rfl); done)); try simp only [Act.put, List.setIfInBounds_toArray, List.set_cons_zero, List.set_cons_succ]))
  refine WS.wpL_nil ?_
  go_wp2_with fail
  refine WS.wp_region_seq (Fr No W) [] [(0, true), (1, true), (2, true), (3, true), (4, true), (5, true), (6, true), (7, true), (8, true)] (by kernel_rfl) (by kernel_rfl) (fun c d v a w h => by cases d <;> exact h) (hf1'.drew.drew.drew) ?_
  simp only [WS.pick, List.getElem?_toArray, List.getElem?_cons_succ, List.getElem?_cons_zero]
  repeat (first | (refine WS.wpL_skip rfl ?_; try simp only [Act.put, List.setIfInBounds_toArray, List.set_cons_zero, List.set_cons_succ]) | (refine WS.wpL_q ?_ rfl ?_ ?_; rotate_left 1; (focus (intro w' hw'; have hrr' := hw'.rules; obtain ⟨hrc', _⟩ := hrr'; clear hw'; go_simp; (try with_reducible rfl); done)); try simp only [Act.put, List.setIfInBounds_toArray, List.set_cons_zero, List.set_cons_succ]))
  refine WS.wpL_nil ?_
  go_wp2_with fail
  obtain ⟨vs, hvs, hown, hqf⟩ := hQ
  obtain ⟨_, a, c, rfl, hnc, hcm, hne⟩ := range_of_owns hown
  refine WS.wp_region_seq (Fr No W) [] [(0, true), (1, true), (2, true), (3, true), (4, true), (5, true), (6, true), (7, true), (8, true), (9, true), (10, true), (11, true), (12, true)] (by kernel_rfl) (by kernel_rfl) (fun c d v a w h => by cases d <;> exact h) (hf1'.drew.drew.drew.drew) ?_
  simp only [WS.pick, List.getElem?_toArray, List.getElem?_cons_succ, List.getElem?_cons_zero]
  repeat (first | (refine WS.wpL_skip rfl ?_; try simp only [Act.put, List.setIfInBounds_toArray, List.set_cons_zero, List.set_cons_succ]) | (refine WS.wpL_q ?_ rfl ?_ ?_; rotate_left 1; (focus (intro w' hw'; have hrr' := hw'.rules; obtain ⟨hrc', _⟩ := hrr'; clear hw'; go_simp; (try with_reducible rfl); done)); try simp only [Act.put, List.setIfInBounds_toArray, List.set_cons_zero, List.set_cons_succ]))
  refine WS.wpL_nil ?_
  obtain ⟨hrc1, hrf1⟩ := hf1'.rules
  have hsl : ∃ a2, (∀ W, (Instr.slice 85 (.slice a p.queue.length c) (some (.int .i64 (g : Int))) none none).run Try.prog W = .ok (.slice a2 (p.queue.length - g) (c - g)) W) ∧ (vs.drop g ≠ [] → ∃ b o, a2 = some ⟨b, o, none⟩ ∧ w.rangeAt b o (vs.drop g)) := by
    have hgi : (g : Int) ≤ (p.queue.length : Int) := by omega
    have hgc : g ≤ c := by omega
    have hlen : vs.length = p.queue.length := hvs.length
    by_cases hcg : c = g
    · refine ⟨a, fun W => by go_simp, fun h => ?_⟩
      exact absurd (List.drop_eq_nil_of_le (by omega)) h
    · refine ⟨a.map (·.add g), fun W => by go_simp, fun h => ?_⟩
      obtain ⟨b, rfl, _, _, _, hr⟩ := hne (fun h0 => h (by rw [h0]; simp))
      refine ⟨b, g, by simp [Addr.add_mid], fun j v hv => ?_⟩
      rw [List.getElem?_drop] at hv
      have := hr (g + j) v hv
      rw [Nat.zero_add] at this
      exact this
  obtain ⟨a2, hsl, ha2⟩ := hsl
  have hcell1 : ∀ u ∈ vs, u.oneCell' = true := All2.all (fun v l h => by obtain ⟨a, c, rfl⟩ := Bytes.form h; rfl) hvs
  have hz5 : w1.frozen? ⟨q, 5, none⟩ = false := by rw [hrf1 _ _ hqW, ← hz6]; exact hz56
  go_wp2_with (go_at_call 66; refine (cloneBB _ a2 (p.queue.length - g) (c - g) (vs.drop g) (by simp [hvs.length]) (by omega) (fun h => by obtain ⟨b, o, h1, h2⟩ := ha2 h; exact ⟨b, o, h1, (hfr.then0 hf1'.drew.drew.drew.drew).range (fun h => h) h2⟩) (fun u hu => hcell1 u (List.mem_of_mem_drop hu))).mono ?_; rintro e w3 ⟨a3, c3, rfl, hown3, hf3⟩; have hf3' := hf3.ofDrew.ofDrew.ofDrew.ofDrew; have hrc3 := (hf1'.then0 hf3').rules)
  have hfw3 : Fr No w w3 := hfr.then0 (hf1'.then0 hf3')
  have hp4 : PeerAt B (w3.setCell ⟨q, 5, none⟩ (.slice a3 (p.queue.length - g) c3)) q { p with queue := p.queue.drop g } (fun b => F b ∨ (Value.slice a3 (p.queue.length - g) c3).ownBlock = some b) :=
    PeerAt.setQueue (hp0.out.fr hfw3 FreeT.no (fun _ _ h => h)) (hR.fr hfw3).free hown3 (All2.drop g (hvs.mono fun _ _ h => h.fr hfw3 FreeT.no)) (by simp) (by have := (hfr.then0 hf1').size; simp; omega)
  have hf4 : Fr (One q) W (w3.setCell ⟨q, 5, none⟩ (.slice a3 (p.queue.length - g) c3)) := ((hf1'.then0 hf3').mono (S' := One q) (fun _ _ h => h.elim)).setCell _ _ (.inr rfl)
  have hF4 : ∀ b, (F b ∨ (Value.slice a3 (p.queue.length - g) c3).ownBlock = some b) → grow F w (w3.setCell ⟨q, 5, none⟩ (.slice a3 (p.queue.length - g) c3)) b := by
    rintro b (hb | hb)
    · exact .inl hb
    · have ht := owns_typ hown3 hb
      refine .inr ⟨by have := ht.2; have := (hfr.then0 hf1').size; simp at *; omega, ?_, .inl ?_⟩
      · have := typ_lt ht.1; simp [World.setCell]; exact this
      · rw [typ_setCell]; exact ht.1
  obtain ⟨F5, hF5e⟩ : ∃ F5 : Nat → Prop, ∀ b, F5 b ↔ (F b ∨ (Value.slice a3 (p.queue.length - g) c3).ownBlock = some b) := ⟨_, fun _ => Iff.rfl⟩
  replace hp4 := hp4.mono (fun b hb => (hF5e b).2 hb)
  replace hF4 := fun b (hb : F5 b) => hF4 b ((hF5e b).1 hb)
  clear hF5e
  generalize (w3.setCell ⟨q, 5, none⟩ (.slice a3 (p.queue.length - g) c3)) = W4 at *
  have hp4' := hp4
  obtain ⟨hq4, _, vq4, ve4, hh4, _, _⟩ := hp4
  obtain ⟨⟨k0, k1, k2, k3⟩, ⟨k4, k5, k6, k7⟩, k8, k9, k10⟩ := peerCells_get hh4
  have hz4 : ∀ o, W4.frozen? ⟨q, o, none⟩ = false := fun o => by simp [World.frozen?, hh4]
  clear hh4 hrc1 hrf1 hrc3 hsl ha2 g2W g3W g4W g5W g6W hz6 hz5 hz56
  have hqlt : w.heap.size < W4.heap.size := by have := hf4.size; omega
  have hqS : ¬ One q w.heap.size := fun e => by unfold One at e; omega
  have c14 : W4.cell? ⟨w.heap.size, 1, none⟩ = some (.int .u64 seq) := by rw [hf4.cell hlW hqS]; exact c1
  have c124 : W4.cell? ⟨w.heap.size, 12, none⟩ = some (.int .u64 mask) := by rw [hf4.cell hlW hqS]; exact c12
  refine WS.wp_region_seq (Fr (One q) W4) [11] [(0, true), (1, true), (2, true), (3, true), (4, true), (5, true), (6, true), (7, true), (8, false), (9, true), (10, true), (11, false)] (by kernel_rfl) (by kernel_rfl) (fun c d v a w h => by cases d <;> exact h) ((Fr.refl _ _).drew) ?_
  simp only [WS.pick, List.getElem?_toArray, List.getElem?_cons_succ, List.getElem?_cons_zero]
  repeat (first | (refine WS.wpL_skip rfl ?_; try simp only [Act.put, List.setIfInBounds_toArray, List.set_cons_zero, List.set_cons_succ]) | (refine WS.wpL_q ?_ rfl ?_ ?_; rotate_left 1; (focus (intro w' hw'; have hrc' := Fr.rules1 hw' hqlt hqS; clear hw'; go_simp; (try with_reducible rfl); done)); try simp only [Act.put, List.setIfInBounds_toArray, List.set_cons_zero, List.set_cons_succ]))
  refine WS.wpL_e rfl (fun K hK => ?_)
  go_simp
  refine hK _ _ (fun _ => ((Fr.refl (One q) W4).setCell ⟨q, 4, none⟩ _ (.inr rfl)).drew) ?_
  clear hK K
  try simp only [Act.put, List.setIfInBounds_toArray, List.set_cons_zero, List.set_cons_succ]
  repeat (first | (refine WS.wpL_skip rfl ?_; try simp only [Act.put, List.setIfInBounds_toArray, List.set_cons_zero, List.set_cons_succ]) | (refine WS.wpL_q ?_ rfl ?_ ?_; rotate_left 1; (focus (intro w' hw'; have hrc' := Fr.rules1 hw' hqlt hqS; clear hw'; go_simp; (try with_reducible rfl); done)); try simp only [Act.put, List.setIfInBounds_toArray, List.set_cons_zero, List.set_cons_succ]))
  refine WS.wpL_e rfl (fun K hK => ?_)
  go_simp
  refine hK _ _ (fun h => absurd (by decide) h) ?_
  clear hK K
  try simp only [Act.put, List.setIfInBounds_toArray, List.set_cons_zero, List.set_cons_succ]
  refine WS.wpL_nil ?_
  have hR4 : Reg B W4 F5 := fun b hb => (hR.grow (hfr.then0 (Fr.refl No W) |>.mono (S' := F) (fun _ _ h => h.elim) |>.trans' hf4 (fun x _ e => by rw [e]; exact hpW.here)) hB) b (hF4 b hb)
  have hp5 : PeerAt B ((W4.setCell ⟨q, 4, none⟩ (.int .u64 seq)).setCell ⟨q, 6, none⟩ (.int .u64 mask)).drew q p' F5 := by
    rw [hpe]
    exact PeerAt.drew (PeerAt.set (PeerAt.set (p' := { p with queue := p.queue.drop g, acked := seq }) hp4' 4 _ (fun _ _ => rfl) rfl rfl hR4.free) 6 _ (fun _ _ => rfl) rfl rfl (hR4.fr (Fr.setCell0 W4 ⟨q, 4, none⟩ (.int .u64 seq))).free)
  have hf5 : Fr (One q) W ((W4.setCell ⟨q, 4, none⟩ (.int .u64 seq)).setCell ⟨q, 6, none⟩ (.int .u64 mask)).drew := (((hf4.setCell ⟨q, 4, none⟩ _ (.inr rfl)).setCell ⟨q, 6, none⟩ _ (.inr rfl))).drew
  have hF5 : ∀ b, F5 b → grow F w ((W4.setCell ⟨q, 4, none⟩ (.int .u64 seq)).setCell ⟨q, 6, none⟩ (.int .u64 mask)).drew b := fun b hb =>
    grow_mono' (S := One q) (((Fr.refl (One q) W4).setCell ⟨q, 4, none⟩ _ (.inr rfl)).setCell ⟨q, 6, none⟩ _ (.inr rfl)).drew b (hF4 b hb)
  have Hq' := Lib.hid hq'
  have Ha' := Lib.hid ha'
  have Hw' := Lib.hid hw'
  clear hq' ha' hw' hpe
  generalize ((W4.setCell ⟨q, 4, none⟩ (.int .u64 seq)).setCell ⟨q, 6, none⟩ (.int .u64 mask)).drew = W5 at *
  clear hF4 hp4' k0 k1 k2 k3 k4 k5 k6 k7 k8 k9 k10 hz4 c14 c124 hqS hqlt hf4 hR4 hq4
  have hR5 : Reg B W5 F5 := fun b hb => (hR.grow (hfr.then0 (Fr.refl No W) |>.mono (S' := F) (fun _ _ h => h.elim) |>.trans' hf5 (fun x _ e => by rw [e]; exact hpW.here)) hB) b (hF5 b hb)
  have hF5w : Fr F w W5 := (hfr.mono (fun _ _ h => h.elim)).trans' hf5 (fun b _ e => by rw [e]; exact hpW.here)
  have hth5 := there_fr hth hf5 (fun h => by unfold One at h; omega)
  have hT5 := hf5.ty _ _ hT
  clear hp0 hRW hf1' hf3' hown3 hcell1 hvs hown hqf hne hf3 hf5 hth hT hlW hlW1 hqW hfr hfw3 c1 c12
  go_wp2_with fail
  have hall : Fr No W5 (W5.alloc (.cells #[nilS, nilS, .bool true] 68)) := Fr.alloc0 _ _
  have hsz6 : (W5.alloc (.cells #[nilS, nilS, .bool true] 68)).heap.size = W5.heap.size + 1 := by simp
  have htb : (W5.alloc (.cells #[nilS, nilS, .bool true] 68)).heap[W5.heap.size]? = some (.cells #[nilS, nilS, .bool true] 68 (0, 0)) := heap_alloc_new W5 _
  generalize W5.alloc (.cells #[nilS, nilS, .bool true] 68) = W6 at *
  have hp6 := hp5.fr hall FreeT.no (fun _ _ h => h)
  have hF5lt := hR5.lt
  have hp6' := Lib.hid hp6
  obtain ⟨_, _, vq6, ve6, hh6, ⟨_, _, hown6, _⟩, _⟩ := hp6
  obtain ⟨⟨k0, k1, k2, k3⟩, ⟨k4, k5, k6, k7⟩, k8, k9, k10⟩ := peerCells_get hh6
  obtain ⟨_, a6, c6, rfl, _, _, _⟩ := range_of_owns hown6
  clear hh6 hown6
  rw [Hq'.out, List.length_drop] at k5
  rw [Hw'.out] at k2
  have Hok := Lib.hid hok
  have Hb2 := hsz6
  go_loopw [10] (fun i wr => ∃ (k : Nat) (v : Value), min p.queue.length p.window - g ≤ k ∧ k ≤ min (p.queue.length - g) p.window ∧ i = .int .i64 k ∧ wr.heap[W5.heap.size]? = some (.cells #[nilS, v, .bool true] 68 (0, 0)) ∧
      OutsOwn B (W5.heap.size + 1) wr v (p'.datas (min p.queue.length p.window - g) k) ∧ Fr (One W5.heap.size) W6 wr) (fun i _ => 16 - (intOf i).toNat)
  case atStart =>
    refine ⟨min p.queue.length p.window - g, nilS, Nat.le_refl _, by omega, ?_, htb, by rw [PeerD.datas_self]; exact OwnL.nil _ _ _ _ _ _ _, Fr.refl _ _⟩
    congr 1
    omega
  case round =>
    obtain ⟨k, v, hlo, hhi, rfl, htr, hv, hfw⟩ := hrel
    obtain ⟨va, vc, rfl⟩ := hv.form
    have hvb := fun b => hv.block (k := b)
    have Hv := Lib.hid hv
    clear hv
    have Hvb := Lib.hid hvb
    clear hvb
    have hqtb : q < W5.heap.size := hF5lt q hp6'.out.here
    have hqlt : q < W6.heap.size := by omega
    have hqS : ¬ One W5.heap.size q := fun e => by unfold One at e; omega
    by_cases hlt : k < min (p.queue.length - g) p.window
    · have hk1 : (k : Int) < ((p.queue.length - g : Nat) : Int) := by omega
      have hk2 : (k : Int) < (p.window : Int) := by omega
      have hk3 : (k : Int) < min ((p.queue.length - g : Nat) : Int) (p.window : Int) := by omega
      clear Hb2
      have Hz := Lib.hid hsz6
      clear hsz6
      go_wp2_with fail
      refine WS.wp_region_seq (Fr (One W5.heap.size) W6) [] [(0, true), (1, true), (2, true), (3, true), (4, true), (5, true), (6, true), (7, true), (8, true), (9, true), (10, true), (11, true)] (by kernel_rfl) (by kernel_rfl) (fun c d v a w h => by cases d <;> exact h) (hfw.drew) ?_
      simp only [WS.pick, List.getElem?_toArray, List.getElem?_cons_succ, List.getElem?_cons_zero]
      repeat (first | (refine WS.wpL_skip rfl ?_; try simp only [Act.put, List.setIfInBounds_toArray, List.set_cons_zero, List.set_cons_succ]) | (refine WS.wpL_q ?_ rfl ?_ ?_; rotate_left 1; (focus (intro w' hw'; have hrc' := Fr.rules1 hw' hqlt hqS; clear hw'; go_simp; (try with_reducible rfl); done)); try simp only [Act.put, List.setIfInBounds_toArray, List.set_cons_zero, List.set_cons_succ]))
      refine WS.wpL_nil ?_
      have hpr : PeerAt B wr q p' F5 := hp6'.out.fr hfw ((FreeT.one (by have := hF5lt q hp6'.out.here; have := hp6'.out.base; omega) (typ_of_heap htb) (by decide))) (fun b hb e => by unfold One at e; have := hF5lt b hb; omega)
      have hbw : W5.heap.size < wr.heap.size := by have := hfw.size; have := Hz.out; omega
      have htbS : ¬ ((fun b => (Value.slice va (p'.datas (min p.queue.length p.window - g) k).length vc).ownBlock = some b) W5.heap.size) := fun e => by have := (Hvb.out _ e).2; omega
      have hct : wr.cell? ⟨W5.heap.size, 1, none⟩ = some (.slice va (p'.datas (min p.queue.length p.window - g) k).length vc) := by simp [World.cell?, htr]
      have hzt : wr.frozen? ⟨W5.heap.size, 1, none⟩ = false := by simp [World.frozen?, htr]
      have Hpr := Lib.hid hpr
      have Htr := Lib.hid htr
      clear htr hpr k0 k1 k2 k3 k4 k5 k6 k7 k8 k9 k10 hqS hqlt
      have hqlt := hbw
      have hqS := htbS
      go_wp2_with fail
      refine WS.wp_region_seq (Fr (fun b => (Value.slice va (p'.datas (min p.queue.length p.window - g) k).length vc).ownBlock = some b) wr) [8] [(0, true), (1, true), (2, true), (3, true), (4, false), (5, false), (6, false), (7, true), (8, false)] (by kernel_rfl) (by kernel_rfl) (fun c d v a w h => by cases d <;> exact h) ((Fr.refl _ _).drew.drew) ?_
      simp only [WS.pick, List.getElem?_toArray, List.getElem?_cons_succ, List.getElem?_cons_zero]
      repeat (first | (refine WS.wpL_skip rfl ?_; try simp only [Act.put, List.setIfInBounds_toArray, List.set_cons_zero, List.set_cons_succ]) | (refine WS.wpL_q ?_ rfl ?_ ?_; rotate_left 1; (focus (intro w' hw'; have hrc' := Fr.rules1 hw' hqlt hqS; clear hw'; go_simp; (try with_reducible rfl); done)); try simp only [Act.put, List.setIfInBounds_toArray, List.set_cons_zero, List.set_cons_succ]))
      refine WS.wpL_e rfl (fun K hK => ?_)
      go_simp
      refine (sdata B _ q _ F5 k Hpr.out.drew.drew (by have := hfw.size; have := Hz.out; have := hF5w.size; simp; omega) (by rw [Hq'.out]; simp; omega) (by rw [Hq'.out]; simp; omega) (by have := Hok.out.qlen; have := Hok.out.sent; have := Hg.out; rw [Ha'.out]; omega)).mono ?_
      rintro e w7 ⟨pv, rfl, hpv, hf7⟩
      obtain ⟨oa, oc, rfl⟩ := hpv.form
      have hf7' : Fr No wr w7 := hf7.ofDrew.ofDrew
      refine hK _ _ (fun _ => hf7'.mono (fun _ _ h => h.elim)) ?_
      clear hK K
      simp only [outCells, msgCells]
      try simp only [Act.put, List.setIfInBounds_toArray, List.set_cons_zero, List.set_cons_succ]
      repeat (first | (refine WS.wpL_skip rfl ?_; try simp only [Act.put, List.setIfInBounds_toArray, List.set_cons_zero, List.set_cons_succ]) | (refine WS.wpL_q ?_ rfl ?_ ?_; rotate_left 1; (focus (intro w' hw'; have hrc' := Fr.rules1 hw' hqlt hqS; clear hw'; go_simp; (try with_reducible rfl); done)); try simp only [Act.put, List.setIfInBounds_toArray, List.set_cons_zero, List.set_cons_succ]))
      refine WS.wpL_e rfl (fun K hK => ?_)
      go_simp
      refine hK _ _ (fun _ => (hf7'.alloc _).mono (fun _ _ h => h.elim)) ?_
      clear hK K
      try simp only [Act.put, List.setIfInBounds_toArray, List.set_cons_zero, List.set_cons_succ]
      repeat (first | (refine WS.wpL_skip rfl ?_; try simp only [Act.put, List.setIfInBounds_toArray, List.set_cons_zero, List.set_cons_succ]) | (refine WS.wpL_q ?_ rfl ?_ ?_; rotate_left 1; (focus (intro w' hw'; have hrc' := Fr.rules1 hw' hqlt hqS; clear hw'; go_simp; (try with_reducible rfl); done)); try simp only [Act.put, List.setIfInBounds_toArray, List.set_cons_zero, List.set_cons_succ]))
      refine WS.wpL_e rfl (fun K hK => ?_)
      refine wp_snoc (x := p'.data k) (pv := .slice oa (p'.queue.getD k []).length oc) elOuts outCells_length (by decide) (.tmp 122) (.tmp 126) rfl rfl (Hv.out.fr0 (hf7'.alloc _)) rfl ⟨w7.heap.size, 0, rfl, range_new (cs := outCells (p'.data k) (.slice oa (p'.queue.getD k []).length oc))⟩ (by simp [outCells, msgCells, Value.oneCell']) (hpv.fr (Fr.alloc0 _ _) FreeT.no) (by have := hF5w.size; omega) (by rw [PeerD.datas_length]; simp only [maxLen]; omega) (by rw [PeerD.datas_length]; omega) (by have := hf7'.size; simp; omega) ?_
      intro ao' c' w8 hown8 hf8 _
      have hf8' : Fr (fun b => (Value.slice va (p'.datas (min p.queue.length p.window - g) k).length vc).ownBlock = some b) wr w8 := ((hf7'.alloc _).mono (fun _ _ h => h.elim)).trans hf8
      refine hK _ _ (fun _ => hf8') ?_
      clear hK K
      try simp only [Act.put, List.setIfInBounds_toArray, List.set_cons_zero, List.set_cons_succ]
      repeat (first | (refine WS.wpL_skip rfl ?_; try simp only [Act.put, List.setIfInBounds_toArray, List.set_cons_zero, List.set_cons_succ]) | (refine WS.wpL_q ?_ rfl ?_ ?_; rotate_left 1; (focus (intro w' hw'; have hrc' := Fr.rules1 hw' hqlt hqS; clear hw'; go_simp; (try with_reducible rfl); done)); try simp only [Act.put, List.setIfInBounds_toArray, List.set_cons_zero, List.set_cons_succ]))
      have hrc8 := hf8'.rules1 hqlt hqS
      refine WS.wpL_e rfl (fun K hK => ?_)
      go_simp
      refine hK _ _ (fun h => absurd (by decide) h) ?_
      clear hK K
      try simp only [Act.put, List.setIfInBounds_toArray, List.set_cons_zero, List.set_cons_succ]
      refine WS.wpL_nil ?_
      have hsu := p'.datas_succ _ k hlo
      go_wp2_with fail
      refine ⟨⟨k + 1, .slice ao' ((p'.datas (min p.queue.length p.window - g) k).length + 1) c', by omega, by omega, by go_num, ?_, ?_, ?_⟩, by simp [intOf]; omega⟩
      · rw [heap_set (by rw [hf8'.block _ hbw htbS]; exact Htr.out)]; rfl
      · rw [hsu]
        exact hown8.fr (S := One W5.heap.size) (Fr.setCell0 w8 ⟨W5.heap.size, 1, none⟩ _) (FreeT.one (by have := hF5w.size; omega) (hf8'.ty _ _ (typ_of_heap Htr.out)) (by decide)) (fun b hb e => by unfold One at e; have := (hown8.block hb).2; omega)
      · exact (hfw.trans' hf8' (fun x hx h => by have := (Hvb.out x h).2; have := Hz.out; omega)).setCell ⟨W5.heap.size, 1, none⟩ _ (.inr rfl)
    · have hkn := Lib.hid (show k = min (p.queue.length - g) p.window by omega)
      have hk3 : ¬ (k : Int) < min ((p.queue.length - g : Nat) : Int) (p.window : Int) := by omega
      have Hz := Lib.hid hsz6
      clear hsz6 Hb2
      go_wp2_with fail
      refine WS.wp_region_seq (Fr (One W5.heap.size) W6) [] [(0, true), (1, true), (2, true), (3, true), (4, true), (5, true), (6, true), (7, true), (8, true), (9, true), (10, true), (11, true)] (by kernel_rfl) (by kernel_rfl) (fun c d v a w h => by cases d <;> exact h) (hfw.drew) ?_
      simp only [WS.pick, List.getElem?_toArray, List.getElem?_cons_succ, List.getElem?_cons_zero]
      repeat (first | (refine WS.wpL_skip rfl ?_; try simp only [Act.put, List.setIfInBounds_toArray, List.set_cons_zero, List.set_cons_succ]) | (refine WS.wpL_q ?_ rfl ?_ ?_; rotate_left 1; (focus (intro w' hw'; have hrc' := Fr.rules1 hw' hqlt hqS; clear hw'; go_simp; (try with_reducible rfl); done)); try simp only [Act.put, List.setIfInBounds_toArray, List.set_cons_zero, List.set_cons_succ]))
      refine WS.wpL_nil ?_
      have hct0 : wr.cell? ⟨W5.heap.size, 0, none⟩ = some nilS := by simp [World.cell?, htr]
      have hct : wr.cell? ⟨W5.heap.size, 1, none⟩ = some (.slice va (p'.datas (min p.queue.length p.window - g) k).length vc) := by simp [World.cell?, htr]
      have hct2 : wr.cell? ⟨W5.heap.size, 2, none⟩ = some (.bool true) := by simp [World.cell?, htr]
      have hth6 : wr.drew.there (w.heap.size + 1) 0 3 := there_drew (there_fr (there_fr hth5 hall (fun h => h)) hfw (fun e => by unfold One at e; have := typ_lt hT5; omega))
      have hT6 := hfw.ty _ _ (hall.ty _ _ hT5)
      have htb5 := hfw.size
      have Htr := Lib.hid htr
      clear htr
      go_wp2_with (refine wpList_store_mid rfl _ _ _ rfl _ _ _ rfl rfl hth6 (by kernel_rfl) (by simp [Value.oneCell']) ?_)
      refine bodyPost_ret (results_cell2 (p := 4) (u := 5) (ty := 68) rfl rfl (World.rangeAt_setCells_same _ (w.heap.size + 1) 0 [nilS, .slice va (p'.datas (min p.queue.length p.window - g) k).length vc, .bool true] hth6) Try.underlying68 rfl (by kernel_rfl)) rfl ?_
      have hfin : Fr (One W5.heap.size) W6 wr.drew := hfw.drew
      have hpF : PeerAt B wr.drew q p' (grow F w wr.drew) := (hp6'.out.fr hfin ((FreeT.one (by have := hF5lt q hp6'.out.here; have := hp6'.out.base; omega) (typ_of_heap htb) (by decide))) (fun b hb e => by unfold One at e; have := hF5lt b hb; omega)).mono (fun b hb => grow_mono' hfin b (grow_mono' hall b (hF5 b hb)))
      have hO := (OutsOwn.outs Hv.out).fr ((Fr.refl No wr).drew) FreeT.no
      rw [hkn.out] at hO
      rw [hkn.out]
      exact takeRet (vm := .slice va _ vc) hth6 hB hT6 (Ups.nil _ _) hO hpF ((hF5w.then0 hall).trans' hfin (fun x hx e => by unfold One at e; have := hF5w.size; omega)) hR
end Go.Proofs.Ytplgmcpglbpghaa

namespace Go.Proofs.Ytplgmcpglbpghaa
open Go.RowKit

theorem f_heard (B : Nat) (w : World) (q : Nat) (p : PeerD) (F : Nat → Prop) (m : MsgD) (x : MsgA) (pa : Option Addr) (pc seq mask : Nat) (hp : PeerAt B w q p F) (hR : Reg B w F) (hB : B ≤ w.heap.size) (hok : p.Ok) (hs : m.seq = seq) (hk : m.mask = mask) (hseq : seq ≤ u64max) (hmask : mask ≤ u64max) :
    Calls Try.prog 44 #[.pointer (some ⟨q, 0, none⟩), .agg (msgVals m x (.slice pa m.payload.length pc)).toArray] w (TakePost B w q F (p.heard seq mask).1 [] (p.heard seq mask).2.1 (p.heard seq mask).2.2.1 (p.heard seq mask).2.2.2) := by
  unfold PeerD.heard
  by_cases h1 : p.sent < seq ∨ p.beyond seq mask = true
  · rw [if_pos h1]
    refine heard_bad B w q p F m x pa pc seq mask hp hR hB hok hs hk hseq hmask ?_
    rcases h1 with h1 | h1
    · exact .inl h1
    · by_cases h2 : p.sent < seq
      · exact .inl h2
      · exact .inr ⟨by omega, h1⟩
  · rw [if_neg h1]
    have h2 : seq ≤ p.sent := Nat.le_of_not_lt fun h => h1 (.inl h)
    have hb : beyondB p.sent seq mask = false := by
      cases h : beyondB p.sent seq mask with
      | false => rfl
      | true => exact absurd (.inr h) h1
    by_cases h3 : seq < p.acked
    · rw [if_pos h3]
      exact heard_old B w q p F m x pa pc seq mask hp hR hB hok hs hk hseq hmask h2 hb h3
    · rw [if_neg h3]
      by_cases h4 : seq = p.acked
      · rw [if_pos h4]
        exact heard_same B w q p F m x pa pc seq mask hp hR hB hok hs hk hseq hmask h2 hb h4
      · rw [if_neg h4]
        have := heard_new B w q p F m x pa pc seq mask hp hR hB hok hs hk hseq hmask h2 hb (by omega) _ rfl
        simpa using this
end Go.Proofs.Ytplgmcpglbpghaa
