/- Part 20 of the proof: Yb3, Yr1, Ya1. -/
import Derived.Test.YtplgmcpglbpghaaM19
import Derived.Test.YtplgmcpglbpghaaM16
set_option linter.all false
set_option linter.unusedVariables false
set_option linter.unusedSimpArgs false

/- begun: the walk. -/
namespace Go.Proofs.Ytplgmcpglbpghaa
open Go.RowKit

theorem elEnds : El 26 53 1 8 := El.mk Try.underlying26 (z := .pointer none) (by kernel_rfl) rfl (by omega)
theorem elBytessss : El 28 92 1 24 := El.mk Try.underlying28 (z := .slice none 0 0) (by kernel_rfl) rfl (by omega)
theorem elIntss : El 29 75 1 24 := El.mk Try.underlying29 (z := .slice none 0 0) (by kernel_rfl) rfl (by omega)

def BegunPost (B : Nat) (w : World) (hosts queue window : Nat) (e : Ending) (w' : World) : Prop := ∃ q F, e = .returned (.pointer (some ⟨q, 0, none⟩)) ∧ WorldAt B w' q (WD.begin hosts queue window) F ∧ Reg B w' F ∧ (∀ b, F b → w.heap.size ≤ b) ∧ Fr No w w'

set_option maxRecDepth 100000 in
set_option maxHeartbeats 4000000 in
theorem f_begun (B : Nat) (w : World) (hosts queue window : Nat) (hB : B ≤ w.heap.size) (h1 : 1 ≤ hosts) (h2 : hosts ≤ 16) (h3 : 1 ≤ queue) (h4 : queue ≤ 16) (h5 : 1 ≤ window) (h6 : window ≤ queue) :
    Calls Try.prog 13 #[.int .i64 hosts, .int .i64 queue, .int .i64 window] w (BegunPost B w hosts queue window) := by
  have hfit : ∀ k, k < hosts → fitsI k hosts queue window = true := fun k hk => decide_eq_true ⟨by omega, by omega, by omega, by omega, by omega, by omega, by omega⟩
  have Hfit := Lib.hid hfit
  clear hfit
  go_enter Try.func13, Try.ntmps13
  go_wp2
  have hb0 := heap_alloc_new w (.cells #[.int .i64 queue, .int .i64 window, nilS, nilS, nilS, nilS, .bool false] 31)
  have hf0 : Fr No w (w.alloc (.cells #[.int .i64 queue, .int .i64 window, nilS, nilS, nilS, nilS, .bool false] 31)) := Fr.alloc0 _ _
  have hs0 : (w.alloc (.cells #[.int .i64 queue, .int .i64 window, nilS, nilS, nilS, nilS, .bool false] 31)).heap.size = w.heap.size + 1 := by simp
  generalize w.alloc (.cells #[.int .i64 queue, .int .i64 window, nilS, nilS, nilS, nilS, .bool false] 31) = W0 at *
  have hX0 : BX B W0 w.heap.size (WD.begin hosts queue window) 0 0 0 (One w.heap.size) (fun _ => .q) ⟨nilS, nilS, nilS, nilS, fun _ => 0, fun _ => 0, fun _ => 0, fun _ _ => nilS⟩ :=
    ⟨fun _ => ⟨rfl, hB, rfl, hb0⟩, rfl, fun _ => ⟨World.ownsRow_nil _ _ _ _, fun k hk => by cases hk⟩, fun _ => ⟨World.ownsRow_nil _ _ _ _, fun k hk => by cases hk⟩, fun a ha => by omega, fun _ => ⟨World.ownsRow_nil _ _ _ _, fun k hk => by cases hk⟩, fun a ha => by omega, fun a ha => by omega⟩
  have hR0 : Reg B W0 (One w.heap.size) := fun b hb => by rw [show b = w.heap.size from hb]; exact ⟨hB, _, typ_of_heap hb0, by decide⟩
  have Hs0 := Lib.hid hs0
  clear hs0 hb0
  have hlt0 : w.heap.size < W0.heap.size := by have := Hs0.out; omega
  go_loopw [8] (fun i wr => ∃ k F own v, k ≤ hosts ∧ i = .int .i64 (k : Nat) ∧ BX B wr w.heap.size (WD.begin hosts queue window) k k k F own v ∧ Reg B wr F ∧ (∀ b, F b → w.heap.size ≤ b) ∧ Fr No w wr) (fun i _ => 16 - (intOf i).toNat)
  case atStart => exact ⟨0, _, _, _, Nat.zero_le _, rfl, hX0, hR0, fun b hb => by rw [show b = w.heap.size from hb]; exact Nat.le_refl _, hf0⟩
  case round =>
    obtain ⟨k, F, own, v, hk, rfl, hX, hR, hFb, hfw⟩ := hrel
    have HX := Lib.hid hX
    have hBr : B ≤ wr.heap.size := Nat.le_trans hB hfw.size
    clear hX0 hR0
    by_cases hlt : k < hosts
    · have hk1 : (k : Int) < (hosts : Int) := by omega
      have e8 : IntKind.u8.wrap (k : Int) = k := by rw [IntKind.wrap_u8]; omega
      obtain ⟨hqlt, ⟨hc2, _, _⟩, hz⟩ := hX.cells
      obtain ⟨he1, he2⟩ := hX.ends (fun h => h)
      obtain ⟨xa, xc, hve⟩ := owns_form he1
      rw [hve] at hc2 he1
      have hqS : ¬ (fun k' => (Value.slice xa k xc).ownBlock = some k') w.heap.size := fun e => by have h7 := (he2 _ (by rw [hve]; exact e)).2; rw [(hX.hq (fun h => h)).2.2.1] at h7; cases h7
      have hnew := f_new B wr k hosts queue window hBr (Hfit.out k hlt)
      have Hnew := Lib.hid hnew
      have Hve := Lib.hid hve
      have He1 := Lib.hid he1
      clear hX hnew hve he1 he2
      go_wp2_with (first | (go_at_call 33; refine Hnew.out.mono ?_; rintro en w1 ⟨na, rfl, hE, hRn, hf1⟩; have hrc1 := hf1.rules; have hf1a := hf1.alloc (.cells #[.pointer (some ⟨na, 0, none⟩)] 53)) | (go_at_call 19; refine (f_num2 _ 0).mono ?_; rintro en w' ⟨rfl, rfl⟩) | (at_builtin; refine wpList_app elEnds rfl (.tmp 40) (.tmp 42) rfl rfl (owns_fr He1.out hf1a (fun _ _ h => h)) (m := 1) (news := [.pointer (some ⟨na, 0, none⟩)]) rfl rfl (fun _ => ⟨w1.heap.size, 0, rfl, range_new (cs := [.pointer (some ⟨na, 0, none⟩)])⟩) (by simp [Value.oneCell']) (by simp only [maxLen]; omega) (by omega) (Nat.le_trans hBr hf1a.size) ?_; intro ao' c' w3 hown3 hf3 hat3; have hf3' := (hf1a.mono (S' := fun k' => (Value.slice xa k xc).ownBlock = some k') (fun _ _ h => h.elim)).trans hf3; have hrc3 := hf3'.rules1 hqlt hqS))
      obtain ⟨F2, own2, v2, hX2, hR2, hf2, hg2⟩ := HX.out.stepEnd hR hBr (u := .slice ao' (k + 1) c') (na := na) (G := Btw wr w1) (by rw [Hve.out]; exact hf3') hown3 (fun k' hk' => by
        have h8 : (Value.slice ao' (k + 1) c').ownBlock = (Value.slice xa k xc).ownBlock ∨ (Value.slice ao' (k + 1) c').ownBlock = some (w1.alloc (.cells #[.pointer (some ⟨na, 0, none⟩)] 53)).heap.size := hat3
        rcases h8 with h8 | h8
        · rw [h8] at hk'; rw [Hve.out]; exact .inl hk'
        · rw [h8] at hk'
          simp only [Option.some.injEq, World.size_alloc] at hk'
          have := hf1.size
          exact .inr ⟨by omega, fun h => by have := h.2; omega⟩)
        (hE.fr ((Fr.alloc0 w1 _ |>.mono (S' := fun k' => (Value.slice xa k xc).ownBlock = some k') (fun _ _ h => h.elim)).trans hf3) (fun k' hk' => (hR.fr hf1).free k' (by have h9 := (HX.out.ends (fun h => h)).2 k' (by rw [Hve.out]; exact hk'); exact h9.1)) (fun k' hk' e => by
          have h9 := (HX.out.ends (fun h => h)).2 k' (by rw [Hve.out]; exact e)
          have := hR.lt _ h9.1
          have := hk'.1
          omega))
        (hRn.fr ((Fr.alloc0 w1 _ |>.mono (S' := fun k' => (Value.slice xa k xc).ownBlock = some k') (fun _ _ h => h.elim)).trans hf3)) (fun k' hk' => hk'.1) rfl
      generalize w3.setCell ⟨w.heap.size, 2, none⟩ (.slice ao' (k + 1) c') = W2 at *
      have hB2 : B ≤ W2.heap.size := Nat.le_trans hBr hf2.size
      clear hown3 hf3 hat3 hf3' hrc3 hE hRn hf1 hrc1 hf1a hc2 hz hqS hqlt
      obtain ⟨hq9, ⟨a29, a49, a59⟩, hz9⟩ := hX2.cells
      obtain ⟨o19, o29⟩ := hX2.took (fun h => h)
      obtain ⟨xa9, xc9, hv9⟩ := owns_form o19
      rw [hv9] at a49 o19
      have hqS9 : ¬ (fun k' => (Value.slice xa9 k xc9).ownBlock = some k') w.heap.size := fun e => by have h7 := (o29 _ (by rw [hv9]; exact e)).2; rw [(hX2.hq (fun h => h)).2.2.1] at h7; cases h7
      have HX2 := Lib.hid hX2
      have Hv9 := Lib.hid hv9
      have O19 := Lib.hid o19
      clear hX2 hv9 o19 o29 a29
      clear a59
      have hqlt := hq9
      have hqS := hqS9
      refine WS.wp_region_seq (Fr (fun k' => (Value.slice xa9 k xc9).ownBlock = some k') W2) [11] [(0, true), (1, true), (2, true), (3, true), (4, true), (5, true), (6, false), (7, false), (8, false), (9, true), (10, true), (11, false)] (by kernel_rfl) (by kernel_rfl) (fun c d v a w h => by cases d <;> exact h) ((Fr.refl _ _).drew) ?_
      simp only [WS.pick, List.getElem?_toArray, List.getElem?_cons_succ, List.getElem?_cons_zero]
      repeat (first | (refine WS.wpL_skip rfl ?_; try simp only [Act.put, List.setIfInBounds_toArray, List.set_cons_zero, List.set_cons_succ]) | (refine WS.wpL_q ?_ rfl ?_ ?_; rotate_left 1; (focus (intro w' hw'; have hrc' := Fr.rules1 hw' hqlt hqS; clear hw'; go_simp; (try with_reducible rfl); done)); try simp only [Act.put, List.setIfInBounds_toArray, List.set_cons_zero, List.set_cons_succ]))
      refine WS.wpL_e rfl (fun K hK => ?_)
      refine wp_mk (z := (.slice none 0 0)) (sz := 1) (by' := 24) Try.underlying92 (by kernel_rfl) rfl (by omega) (.tmp 51) (.tmp 51) rfl hosts rfl rfl (by omega) (by unfold maxLen; omega) ?_
      have hm9 : Fr No W2 (W2.drew.alloc (.cells (zeros (.slice none 0 0) hosts).toArray 85)) := ((Fr.refl No _).drew).alloc _
      refine hK _ _ (fun _ => hm9.mono (fun _ _ h => h.elim)) ?_
      clear hK K
      try simp only [Act.put, List.setIfInBounds_toArray, List.set_cons_zero, List.set_cons_succ]
      repeat (first | (refine WS.wpL_skip rfl ?_; try simp only [Act.put, List.setIfInBounds_toArray, List.set_cons_zero, List.set_cons_succ]) | (refine WS.wpL_q ?_ rfl ?_ ?_; rotate_left 1; (focus (intro w' hw'; have hrc' := Fr.rules1 hw' hqlt hqS; clear hw'; go_simp; (try with_reducible rfl); done)); try simp only [Act.put, List.setIfInBounds_toArray, List.set_cons_zero, List.set_cons_succ]))
      refine WS.wpL_e rfl (fun K hK => ?_)
      go_simp
      have hmm9 : (W2.drew.alloc (.cells (zeros (.slice none 0 0) hosts).toArray 85)).heap[W2.heap.size]? = some (.cells (zeros (.slice none 0 0) hosts).toArray 85 (0, 0)) := heap_alloc_new W2.drew _
      have hms9 : (W2.drew.alloc (.cells (zeros (.slice none 0 0) hosts).toArray 85)).heap.size = W2.heap.size + 1 := by
        have : W2.drew.heap.size = W2.heap.size := rfl
        simp [this]
      have hn9 : Fr No W2 ((W2.drew.alloc (.cells (zeros (.slice none 0 0) hosts).toArray 85)).alloc (.cells #[.slice (some ⟨W2.heap.size, 0, none⟩) hosts hosts] 92)) := hm9.alloc _
      have hns9 : ((W2.drew.alloc (.cells (zeros (.slice none 0 0) hosts).toArray 85)).alloc (.cells #[.slice (some ⟨W2.heap.size, 0, none⟩) hosts hosts] 92)).heap.size = W2.heap.size + 2 := by
        have := hms9
        simp only [World.size_alloc, this]
      have Hms9 := Lib.hid hms9
      have Hns9 := Lib.hid hns9
      clear hms9 hns9
      refine hK _ _ (fun _ => hn9.mono (fun _ _ h => h.elim)) ?_
      clear hK K
      try simp only [Act.put, List.setIfInBounds_toArray, List.set_cons_zero, List.set_cons_succ]
      repeat (first | (refine WS.wpL_skip rfl ?_; try simp only [Act.put, List.setIfInBounds_toArray, List.set_cons_zero, List.set_cons_succ]) | (refine WS.wpL_q ?_ rfl ?_ ?_; rotate_left 1; (focus (intro w' hw'; have hrc' := Fr.rules1 hw' hqlt hqS; clear hw'; go_simp; (try with_reducible rfl); done)); try simp only [Act.put, List.setIfInBounds_toArray, List.set_cons_zero, List.set_cons_succ]))
      refine WS.wpL_e rfl (fun K hK => ?_)
      refine wp_app elBytessss (.tmp 50) (.tmp 53) rfl rfl (owns_fr O19.out hn9 (fun _ _ h => h)) (m := 1) (news := [.slice (some ⟨W2.heap.size, 0, none⟩) hosts hosts]) rfl rfl (fun _ => ⟨W2.heap.size + 1, 0, rfl, by
        have h9 := range_new (w := W2.drew.alloc (.cells (zeros (.slice none 0 0) hosts).toArray 85)) (cs := [.slice (some ⟨W2.heap.size, 0, none⟩) hosts hosts]) (t := 92)
        rw [Hms9.out] at h9; exact h9⟩) (by simp [Value.oneCell']) (by simp only [maxLen]; omega) (by omega) (Nat.le_trans hB2 hn9.size) ?_
      intro ao9 c9 v9 hown9 hfa9 hat9
      have hfb9 : Fr (fun k' => (Value.slice xa9 k xc9).ownBlock = some k') W2 v9 := (hn9.mono (fun _ _ h => h.elim)).trans hfa9
      have hrc9 := hfb9.rules1 hqlt hqS
      refine hK _ _ (fun _ => hfb9) ?_
      clear hK K
      try simp only [Act.put, List.setIfInBounds_toArray, List.set_cons_zero, List.set_cons_succ]
      repeat (first | (refine WS.wpL_skip rfl ?_; try simp only [Act.put, List.setIfInBounds_toArray, List.set_cons_zero, List.set_cons_succ]) | (refine WS.wpL_q ?_ rfl ?_ ?_; rotate_left 1; (focus (intro w' hw'; have hrc' := Fr.rules1 hw' hqlt hqS; clear hw'; go_simp; (try with_reducible rfl); done)); try simp only [Act.put, List.setIfInBounds_toArray, List.set_cons_zero, List.set_cons_succ]))
      refine WS.wpL_e rfl (fun K hK => ?_)
      go_simp
      refine hK _ _ (fun h => absurd (by decide) h) ?_
      clear hK K
      try simp only [Act.put, List.setIfInBounds_toArray, List.set_cons_zero, List.set_cons_succ]
      refine WS.wpL_nil ?_
      have hnS9 : ¬ (fun k' => (Value.slice xa9 k xc9).ownBlock = some k') W2.heap.size := fun e => by have := typ_lt (owns_typ O19.out e).1; omega
      have hh19 : ((W2.drew.alloc (.cells (zeros (.slice none 0 0) hosts).toArray 85)).alloc (.cells #[.slice (some ⟨W2.heap.size, 0, none⟩) hosts hosts] 92)).heap[W2.heap.size]? = some (.cells (zeros (.slice none 0 0) hosts).toArray 85 (0, 0)) := by
        rw [heap_alloc_old _ _ (by rw [Hms9.out]; omega)]; exact hmm9
      have hheap9 : v9.heap[W2.heap.size]? = some (.cells (zeros (.slice none 0 0) hosts).toArray 85 (0, 0)) := (hfa9.block _ (show W2.heap.size < ((W2.drew.alloc (.cells (zeros (.slice none 0 0) hosts).toArray 85)).alloc (.cells #[.slice (some ⟨W2.heap.size, 0, none⟩) hosts hosts] 92)).heap.size by rw [Hns9.out]; omega) hnS9).trans hh19
      obtain ⟨F5, own5, v5, hX5, hR5, hf5, hg5⟩ := HX2.out.stepTook hR2 (u := .slice ao9 (k + 1) c9) (nb := W2.heap.size) hB2 (by rw [Hv9.out]; exact hfb9) hown9 (fun k' hk' => by
        have h8 : (Value.slice ao9 (k + 1) c9).ownBlock = (Value.slice xa9 k xc9).ownBlock ∨ (Value.slice ao9 (k + 1) c9).ownBlock = some ((W2.drew.alloc (.cells (zeros (.slice none 0 0) hosts).toArray 85)).alloc (.cells #[.slice (some ⟨W2.heap.size, 0, none⟩) hosts hosts] 92)).heap.size := hat9
        rcases h8 with h8 | h8
        · rw [h8] at hk'; rw [Hv9.out]; exact .inl hk'
        · rw [h8, Hns9.out] at hk'
          simp only [Option.some.injEq] at hk'
          exact .inr ⟨by omega, by omega⟩) (by rw [hheap9, zeros_nil]; rfl) (Nat.le_refl _) rfl
      generalize v9.setCell ⟨w.heap.size, 4, none⟩ (.slice ao9 (k + 1) c9) = W5 at *
      have hB5 : B ≤ W5.heap.size := Nat.le_trans hB2 hf5.size
      clear hown9 hfa9 hat9 hfb9 hrc9 hheap9 hh19 hnS9 hn9 hm9 hmm9 hqlt hqS hq9 hz9 hqS9 a49
      go_wp2_with fail
      obtain ⟨hq10, ⟨a210, a410, a510⟩, hz10⟩ := hX5.cells
      obtain ⟨o110, o210⟩ := hX5.up (fun h => h)
      obtain ⟨xa10, xc10, hv10⟩ := owns_form o110
      rw [hv10] at a510 o110
      have hqS10 : ¬ (fun k' => (Value.slice xa10 k xc10).ownBlock = some k') w.heap.size := fun e => by have h7 := (o210 _ (by rw [hv10]; exact e)).2; rw [(hX5.hq (fun h => h)).2.2.1] at h7; cases h7
      have HX5 := Lib.hid hX5
      have Hv10 := Lib.hid hv10
      have O110 := Lib.hid o110
      clear hX5 hv10 o110 o210 a210
      clear a410
      have hqlt := hq10
      have hqS := hqS10
      refine WS.wp_region_seq (Fr (fun k' => (Value.slice xa10 k xc10).ownBlock = some k') W5) [11] [(0, true), (1, true), (2, true), (3, true), (4, true), (5, true), (6, false), (7, false), (8, false), (9, true), (10, true), (11, false)] (by kernel_rfl) (by kernel_rfl) (fun c d v a w h => by cases d <;> exact h) ((Fr.refl _ _).drew) ?_
      simp only [WS.pick, List.getElem?_toArray, List.getElem?_cons_succ, List.getElem?_cons_zero]
      repeat (first | (refine WS.wpL_skip rfl ?_; try simp only [Act.put, List.setIfInBounds_toArray, List.set_cons_zero, List.set_cons_succ]) | (refine WS.wpL_q ?_ rfl ?_ ?_; rotate_left 1; (focus (intro w' hw'; have hrc' := Fr.rules1 hw' hqlt hqS; clear hw'; go_simp; (try with_reducible rfl); done)); try simp only [Act.put, List.setIfInBounds_toArray, List.set_cons_zero, List.set_cons_succ]))
      refine WS.wpL_e rfl (fun K hK => ?_)
      refine wp_mk (z := (.int .i64 0)) (sz := 1) (by' := 8) Try.underlying75 (by kernel_rfl) rfl (by omega) (.tmp 62) (.tmp 62) rfl hosts rfl rfl (by omega) (by unfold maxLen; omega) ?_
      have hm10 : Fr No W5 (W5.drew.alloc (.cells (zeros (.int .i64 0) hosts).toArray 3)) := ((Fr.refl No _).drew).alloc _
      refine hK _ _ (fun _ => hm10.mono (fun _ _ h => h.elim)) ?_
      clear hK K
      try simp only [Act.put, List.setIfInBounds_toArray, List.set_cons_zero, List.set_cons_succ]
      repeat (first | (refine WS.wpL_skip rfl ?_; try simp only [Act.put, List.setIfInBounds_toArray, List.set_cons_zero, List.set_cons_succ]) | (refine WS.wpL_q ?_ rfl ?_ ?_; rotate_left 1; (focus (intro w' hw'; have hrc' := Fr.rules1 hw' hqlt hqS; clear hw'; go_simp; (try with_reducible rfl); done)); try simp only [Act.put, List.setIfInBounds_toArray, List.set_cons_zero, List.set_cons_succ]))
      refine WS.wpL_e rfl (fun K hK => ?_)
      go_simp
      have hmm10 : (W5.drew.alloc (.cells (zeros (.int .i64 0) hosts).toArray 3)).heap[W5.heap.size]? = some (.cells (zeros (.int .i64 0) hosts).toArray 3 (0, 0)) := heap_alloc_new W5.drew _
      have hms10 : (W5.drew.alloc (.cells (zeros (.int .i64 0) hosts).toArray 3)).heap.size = W5.heap.size + 1 := by
        have : W5.drew.heap.size = W5.heap.size := rfl
        simp [this]
      have hn10 : Fr No W5 ((W5.drew.alloc (.cells (zeros (.int .i64 0) hosts).toArray 3)).alloc (.cells #[.slice (some ⟨W5.heap.size, 0, none⟩) hosts hosts] 75)) := hm10.alloc _
      have hns10 : ((W5.drew.alloc (.cells (zeros (.int .i64 0) hosts).toArray 3)).alloc (.cells #[.slice (some ⟨W5.heap.size, 0, none⟩) hosts hosts] 75)).heap.size = W5.heap.size + 2 := by
        have := hms10
        simp only [World.size_alloc, this]
      have Hms10 := Lib.hid hms10
      have Hns10 := Lib.hid hns10
      clear hms10 hns10
      refine hK _ _ (fun _ => hn10.mono (fun _ _ h => h.elim)) ?_
      clear hK K
      try simp only [Act.put, List.setIfInBounds_toArray, List.set_cons_zero, List.set_cons_succ]
      repeat (first | (refine WS.wpL_skip rfl ?_; try simp only [Act.put, List.setIfInBounds_toArray, List.set_cons_zero, List.set_cons_succ]) | (refine WS.wpL_q ?_ rfl ?_ ?_; rotate_left 1; (focus (intro w' hw'; have hrc' := Fr.rules1 hw' hqlt hqS; clear hw'; go_simp; (try with_reducible rfl); done)); try simp only [Act.put, List.setIfInBounds_toArray, List.set_cons_zero, List.set_cons_succ]))
      refine WS.wpL_e rfl (fun K hK => ?_)
      refine wp_app elIntss (.tmp 61) (.tmp 64) rfl rfl (owns_fr O110.out hn10 (fun _ _ h => h)) (m := 1) (news := [.slice (some ⟨W5.heap.size, 0, none⟩) hosts hosts]) rfl rfl (fun _ => ⟨W5.heap.size + 1, 0, rfl, by
        have h9 := range_new (w := W5.drew.alloc (.cells (zeros (.int .i64 0) hosts).toArray 3)) (cs := [.slice (some ⟨W5.heap.size, 0, none⟩) hosts hosts]) (t := 75)
        rw [Hms10.out] at h9; exact h9⟩) (by simp [Value.oneCell']) (by simp only [maxLen]; omega) (by omega) (Nat.le_trans hB5 hn10.size) ?_
      intro ao10 c10 v10 hown10 hfa10 hat10
      have hfb10 : Fr (fun k' => (Value.slice xa10 k xc10).ownBlock = some k') W5 v10 := (hn10.mono (fun _ _ h => h.elim)).trans hfa10
      have hrc10 := hfb10.rules1 hqlt hqS
      refine hK _ _ (fun _ => hfb10) ?_
      clear hK K
      try simp only [Act.put, List.setIfInBounds_toArray, List.set_cons_zero, List.set_cons_succ]
      repeat (first | (refine WS.wpL_skip rfl ?_; try simp only [Act.put, List.setIfInBounds_toArray, List.set_cons_zero, List.set_cons_succ]) | (refine WS.wpL_q ?_ rfl ?_ ?_; rotate_left 1; (focus (intro w' hw'; have hrc' := Fr.rules1 hw' hqlt hqS; clear hw'; go_simp; (try with_reducible rfl); done)); try simp only [Act.put, List.setIfInBounds_toArray, List.set_cons_zero, List.set_cons_succ]))
      refine WS.wpL_e rfl (fun K hK => ?_)
      go_simp
      refine hK _ _ (fun h => absurd (by decide) h) ?_
      clear hK K
      try simp only [Act.put, List.setIfInBounds_toArray, List.set_cons_zero, List.set_cons_succ]
      refine WS.wpL_nil ?_
      have hnS10 : ¬ (fun k' => (Value.slice xa10 k xc10).ownBlock = some k') W5.heap.size := fun e => by have := typ_lt (owns_typ O110.out e).1; omega
      have hh110 : ((W5.drew.alloc (.cells (zeros (.int .i64 0) hosts).toArray 3)).alloc (.cells #[.slice (some ⟨W5.heap.size, 0, none⟩) hosts hosts] 75)).heap[W5.heap.size]? = some (.cells (zeros (.int .i64 0) hosts).toArray 3 (0, 0)) := by
        rw [heap_alloc_old _ _ (by rw [Hms10.out]; omega)]; exact hmm10
      have hheap10 : v10.heap[W5.heap.size]? = some (.cells (zeros (.int .i64 0) hosts).toArray 3 (0, 0)) := (hfa10.block _ (show W5.heap.size < ((W5.drew.alloc (.cells (zeros (.int .i64 0) hosts).toArray 3)).alloc (.cells #[.slice (some ⟨W5.heap.size, 0, none⟩) hosts hosts] 75)).heap.size by rw [Hns10.out]; omega) hnS10).trans hh110
      obtain ⟨F6, own6, v6, hX6, hR6, hf6, hg6⟩ := HX5.out.stepUp hR5 (u := .slice ao10 (k + 1) c10) (nb := W5.heap.size) hB5 (by rw [Hv10.out]; exact hfb10) hown10 (fun k' hk' => by
        have h8 : (Value.slice ao10 (k + 1) c10).ownBlock = (Value.slice xa10 k xc10).ownBlock ∨ (Value.slice ao10 (k + 1) c10).ownBlock = some ((W5.drew.alloc (.cells (zeros (.int .i64 0) hosts).toArray 3)).alloc (.cells #[.slice (some ⟨W5.heap.size, 0, none⟩) hosts hosts] 75)).heap.size := hat10
        rcases h8 with h8 | h8
        · rw [h8] at hk'; rw [Hv10.out]; exact .inl hk'
        · rw [h8, Hns10.out] at hk'
          simp only [Option.some.injEq] at hk'
          exact .inr ⟨by omega, by omega⟩) (by rw [hheap10, zeros_int]; rfl) (Nat.le_refl _) rfl
      generalize v10.setCell ⟨w.heap.size, 5, none⟩ (.slice ao10 (k + 1) c10) = W6 at *
      have hB6 : B ≤ W6.heap.size := Nat.le_trans hB5 hf6.size
      clear hown10 hfa10 hat10 hfb10 hrc10 hheap10 hh110 hnS10 hn10 hm10 hmm10 hqlt hqS hq10 hz10 hqS10 a510
      go_wp2_with fail
      have hg5' := hg2.trans hg5 hf2.size
      have hf5' := hf2.grew hf5 hg2
      have hg6' := hg5'.trans hg6 hf5'.size
      have hf6' := hf5'.grew hf6 hg5'
      refine ⟨⟨k + 1, F6, own6, v6, by omega, by go_num, hX6, hR6, fun b hb => ?_, hfw.trans' hf6' (fun x hx h => by have := hFb x h; omega)⟩, by simp [intOf]; omega⟩
      rcases hg6' b hb with h | h
      · exact hFb b h
      · have := hfw.size; omega
    · have hkn : k = hosts := by omega
      have hk1 : ¬ (k : Int) < (hosts : Int) := by omega
      have Hkn := Lib.hid hkn
      clear hkn hX
      go_wp2_with fail
      go_ret
      have hX := HX.out
      rw [Hkn.out] at hX
      exact ⟨w.heap.size, F, rfl, ⟨own, _, hX.done⟩, hR, hFb, hfw⟩
end Go.Proofs.Ytplgmcpglbpghaa

/- A state that an end has told may be loaded, and the end is as it was. Plain data. -/
namespace Go.Proofs.Ytplgmcpglbpghaa

theorem keepFrom_ok {d r : Nat} : ∀ {l : List (Nat × List Int)} {last : Nat}, (l.Pairwise fun f g => f.1 < g.1) → (∀ f ∈ l, d + last < f.1 ∧ f.1 ≤ d + r ∧ 1 ≤ f.2.length ∧ f.2.length ≤ 3072) → keepFrom d r last l = true
  | [], _, _, _ => rfl
  | f :: l, last, hs, h => by
    have hp := List.pairwise_cons.1 hs
    obtain ⟨h1, h2, h3, h4⟩ := h f List.mem_cons_self
    simp only [keepFrom]
    rw [decide_eq_true (by omega : d < f.1), decide_eq_true (by omega : last < f.1 - d), decide_eq_true (by omega : f.1 - d ≤ r), szB_true.2 ⟨h3, h4⟩, keepFrom_ok hp.2 fun g hg => ?_]
    · rfl
    · have := hp.1 g hg
      obtain ⟨_, k2, k3, k4⟩ := h g (List.mem_cons_of_mem _ hg)
      exact ⟨by omega, k2, k3, k4⟩

theorem PeerD.Ok.lay {p : PeerD} (h : p.Ok) : p.st.layB p.room = true := by
  unfold PStD.layB PeerD.st
  dsimp only
  rw [decide_eq_true h.acked, decide_eq_true h.qroom, decide_eq_true h.qlen]
  have hb : beyondB p.sent p.acked p.mask = false := by
    unfold beyondB
    rcases h.mask with hm | hm
    · simp [hm]
    · simp only [Bool.and_eq_false_imp, decide_eq_true_eq, decide_eq_false_iff_not]
      omega
  have ha : (p.queue.any fun l => !szB l.length) = false := by
    rw [List.any_eq_false]
    intro l hl
    simp [szB_true.2 (h.qs l hl)]
  rw [hb, ha]; rfl
theorem PeerD.Ok.keep {p : PeerD} (h : p.Ok) : p.st.keepB p.window = true := by
  unfold PStD.keepB PeerD.st
  dsimp only
  refine keepFrom_ok h.sorted fun f hf => ?_
  obtain ⟨h1, h2, _, h4, h5⟩ := h.early f hf
  have := h.reach
  exact ⟨by omega, by omega, h4, h5⟩
theorem PeerD.Ok.wf {p : PeerD} (h : p.Ok) : p.st.Wf := by
  have h1 := h.early_len
  have h2 := h.qroom
  have h3 := h.room16
  exact ⟨h.sent, by have := h.acked; have := h.sent; show p.acked ≤ u64max; omega, h.mask64, h.deliv, by show p.queue.length ≤ _; omega, by show p.early.length ≤ _; omega, fun f hf => (h.early f hf).2.2.1⟩
theorem PStD.zero_wf : PStD.zero.Wf := ⟨by simp [PStD.zero], by simp [PStD.zero], by simp [PStD.zero], by simp [PStD.zero], by simp [PStD.zero], by simp [PStD.zero], by simp [PStD.zero]⟩

/-- An end whose peers all have the same room and window. -/
structure EndD.Reg (e : EndD) (queue window : Nat) : Prop where
  ok : e.Ok
  room : ∀ h, h < e.hosts → h ≠ e.self → (e.ps h).room = queue ∧ (e.ps h).window = window

theorem EndD.state_wf {e : EndD} (h : e.Ok) : ∀ s ∈ e.state, s.Wf := by
  intro s hs
  unfold EndD.state EndD.stTo at hs
  obtain ⟨x, hx, rfl⟩ := List.mem_map.1 hs
  split
  · rename_i hc
    exact (h.peer x hc.1 (EndD.has_iff.1 hc.2).2).1.wf
  · exact PStD.zero_wf
theorem EndD.state_at {e : EndD} {x : Nat} (hx : x < e.hosts) : stAt e.state x = if e.has x = true then (e.ps x).st else PStD.zero := by
  unfold stAt EndD.state EndD.stTo
  simp [List.getD_eq_getElem?_getD, hx]
theorem EndD.Reg.loadB {e : EndD} {queue window : Nat} (h : e.Reg queue window) : Go.Proofs.Ytplgmcpglbpghaa.loadB e.self e.hosts queue window e.state = true := by
  unfold Go.Proofs.Ytplgmcpglbpghaa.loadB
  rw [List.all_eq_true]
  intro x hx
  have hx : x < e.hosts := by simpa using hx
  unfold okAt
  rw [EndD.state_at hx]
  by_cases hs : x = e.self
  · rw [if_pos hs]
    have : ¬ e.has x = true := by simp [EndD.has, hs]
    rw [if_neg this]
    rfl
  · rw [if_neg hs]
    have hh : e.has x = true := by simp [EndD.has, hs, hx]
    rw [if_pos hh]
    obtain ⟨h1, h2⟩ := h.room x hx hs
    have ho := (h.ok.peer x hx hs).1
    rw [← h1, ← h2, ho.lay, ho.keep]; rfl
theorem EndD.Reg.loadPeer {e : EndD} {queue window : Nat} (h : e.Reg queue window) {x : Nat} (hx : x < e.hosts) (hs : x ≠ e.self) : Go.Proofs.Ytplgmcpglbpghaa.loadPeer queue window e.state x = e.ps x := by
  have hh : e.has x = true := by simp [EndD.has, hs, hx]
  unfold Go.Proofs.Ytplgmcpglbpghaa.loadPeer
  rw [EndD.state_at hx, if_pos hh]
  obtain ⟨h1, h2⟩ := h.room x hx hs
  obtain ⟨ho, ht⟩ := h.ok.peer x hx hs
  have hr := ho.reach
  cases hp : e.ps x
  rw [hp] at h1 h2 ht hr
  simp only [newPeer, PeerD.laid, PeerD.kept, PeerD.st] at *
  subst h1; subst h2; subst ht; subst hr
  rfl
theorem EndD.state_len (e : EndD) : e.state.length = e.hosts := by unfold EndD.state; rw [EndD.stTo_len]
end Go.Proofs.Ytplgmcpglbpghaa

/- act: what is common; a Send. -/
namespace Go.Proofs.Ytplgmcpglbpghaa
open Go.RowKit

theorem roundI_mod (n : Int) {k : Nat} (hk : 0 < k) : roundI n k = n % (k : Int) := by
  unfold roundI
  have hk' : (k : Int) ≠ 0 := by omega
  rcases Int.le_total 0 n with h | h
  · have e : n.tmod k = n % k := Int.tmod_eq_emod_of_nonneg h
    have := Int.emod_nonneg n hk'
    rw [e, if_neg (by omega)]
  · obtain ⟨m, rfl⟩ : ∃ m : Int, n = -m := ⟨-n, by omega⟩
    have e1 : (-m).tmod k = -(m.tmod k) := Int.neg_tmod ..
    have e2 : m.tmod k = m % k := Int.tmod_eq_emod_of_nonneg (by omega)
    have h1 := Int.emod_nonneg m hk'
    have h2 := Int.emod_lt_of_pos m (show (0 : Int) < k by omega)
    rw [e1, e2]
    by_cases hz : m % (k : Int) = 0
    · rw [hz, if_neg (by omega)]
      have : (k : Int) ∣ m := Int.dvd_of_emod_eq_zero hz
      have : (k : Int) ∣ -m := Int.dvd_neg.2 this
      rw [Int.emod_eq_zero_of_dvd this]; rfl
    · rw [if_pos (by omega)]
      symm
      have hm : -m = (k - m % k) + k * (-(m / k) - 1) := by
        have := Int.emod_add_mul_ediv m k
        have hx : (k : Int) * (-(m / k) - 1) = - (k * (m/k)) - k := by rw [Int.mul_sub, Int.mul_neg, Int.mul_one]
        rw [hx]; omega
      rw [hm, Int.add_mul_emod_self_left, Int.emod_eq_of_lt (by omega) (by omega)]
      omega

theorem roundI_D (n : Int) {k : Nat} (hk : 0 < k) : roundI n k = (aroundD n k : Int) := by
  rw [roundI_mod n hk]
  unfold aroundD
  have := Int.emod_nonneg n (show (k : Int) ≠ 0 by omega)
  omega
theorem f_around2 (w : World) (n : Int) (k : Nat) (hk : 0 < k) (hk2 : k ≤ 4096) : Calls Try.prog 15 #[.int .i64 n, .int .i64 k] w fun e w' => e = .returned (.int .i64 (aroundD n k)) ∧ w = w' :=
  (f_around w n k hk hk2).mono fun _ _ h => ⟨by rw [h.1, roundI_D n hk], h.2.symm⟩

def actCells (x : ActD) (v : Value) : List Value := [.int .i64 x.kind, .int .i64 x.a, .int .i64 x.b, .int .i64 x.n, .bool x.keep, v]

/-- The world behind the box of the act. -/
structure ActW (B : Nat) (w : World) (q : Nat) (d : WD) (F : Nat → Prop) (x : ActD) (v : Value) (W : World) : Prop where
  at_ : WorldAt B W q d F
  reg : Reg B W F
  fr : Fr No w W
  size : W.heap.size = w.heap.size + 1
  c0 : W.cell? ⟨w.heap.size, 0, none⟩ = some (.int .i64 x.kind)
  c1 : W.cell? ⟨w.heap.size, 1, none⟩ = some (.int .i64 x.a)
  c2 : W.cell? ⟨w.heap.size, 2, none⟩ = some (.int .i64 x.b)
  c3 : W.cell? ⟨w.heap.size, 3, none⟩ = some (.int .i64 x.n)
  c4 : W.cell? ⟨w.heap.size, 4, none⟩ = some (.bool x.keep)
  c5 : W.cell? ⟨w.heap.size, 5, none⟩ = some v
  nF : ¬ F w.heap.size

theorem ActW.mk' {B : Nat} {w : World} {q : Nat} {d : WD} {F : Nat → Prop} (h : WorldAt B w q d F) (hR : Reg B w F) (x : ActD) (v : Value) : ActW B w q d F x v (w.alloc (.cells (actCells x v).toArray 35)) := by
  have hb := heap_alloc_new w (.cells (actCells x v).toArray 35)
  have hc := fun j u (hj : (actCells x v)[j]? = some u) => (show (w.alloc (.cells (actCells x v).toArray 35)).cell? ⟨w.heap.size, j, none⟩ = some u by rw [cell_of_row _ _ j _ _ _ hb]; simpa using hj)
  exact ⟨h.fr0 (Fr.alloc0 _ _), hR.fr (Fr.alloc0 w _), Fr.alloc0 _ _, by simp, hc 0 _ rfl, hc 1 _ rfl, hc 2 _ rfl, hc 3 _ rfl, hc 4 _ rfl, hc 5 _ rfl, fun e => by have := hR.lt _ e; omega⟩

/-- A box is made, then the call's work is done. -/
theorem WPost.boxed {B : Nat} {w W w' : World} {q : Nat} {F : Nat → Prop} {d : WD} (h : WPost B W q F d w') (hf : Fr No w W) : WPost B w q F d w' := by
  obtain ⟨F', h1, h2, h3, h4⟩ := h
  exact ⟨F', h1, h2, (hf.mono (fun _ _ h => h.elim)).trans h3, fun b hb => (h4 b hb).imp id (fun h => Nat.le_trans hf.size h)⟩
theorem WPost.same {B : Nat} {w w' : World} {q : Nat} {F : Nat → Prop} {d : WD} (h : WorldAt B w q d F) (hR : Reg B w F) (hf : Fr No w w') : WPost B w q F d w' :=
  ⟨F, h.fr0 hf, hR.fr hf, hf.mono (fun _ _ h => h.elim), Grew.refl _ _⟩

theorem WorldAt.head {B : Nat} {w : World} {q : Nat} {d : WD} {F : Nat → Prop} (h : WorldAt B w q d F) (h1 : 1 ≤ d.hosts) : q < w.heap.size ∧ ∃ g gc, g < w.heap.size ∧ w.cell? ⟨q, 2, none⟩ = some (.slice (some ⟨g, 0, none⟩) d.hosts gc) := by
  obtain ⟨own, v, hX⟩ := h
  obtain ⟨hq, ⟨_, _, h2, _, _, _, _⟩, _⟩ := hX.cells
  obtain ⟨he1, _⟩ := hX.ends (fun h => h)
  obtain ⟨g, gc, hve, _, hg, _⟩ := row_cells he1 h1
  rw [hve] at h2
  exact ⟨hq, g, gc, hg, h2⟩

set_option maxRecDepth 100000 in
set_option maxHeartbeats 4000000 in
theorem act_send (B : Nat) (w : World) (q : Nat) (d : WD) (F : Nat → Prop) (x : ActD) (ba : Option Addr) (bc : Nat) (h : WorldAt B w q d F) (hR : Reg B w F) (hB : B ≤ w.heap.size) (hok : d.Ok) (hv : Bytes B w (.slice ba x.body.length bc) x.body) (hlen : d.bag.length ≤ 3000) (htk : ∀ a b, (d.took a b).length ≤ 4398046511104) (hk : x.kind = 1) :
    Calls Try.prog 14 #[.pointer (some ⟨q, 0, none⟩), .agg (actCells x (.slice ba x.body.length bc)).toArray] w fun e w' => e = .returned (.tuple #[]) ∧ WPost B w q F (d.act x) w' := by
  rw [show d.act x = if aroundD x.a d.hosts = aroundD x.b d.hosts then d else d.send (aroundD x.a d.hosts) (aroundD x.b d.hosts) x.body by unfold WD.act; simp only; rw [if_pos hk]]
  have hkb : (x.kind == 1) = true := by rw [beq_iff_eq]; exact hk
  clear hk
  by_cases hab : aroundD x.a d.hosts = aroundD x.b d.hosts
  · rw [if_pos hab]
    have hfa := aroundD_lt x.a (show 0 < d.hosts from hok.h1)
    have hfb := aroundD_lt x.b (show 0 < d.hosts from hok.h1)
    have hra := fun W => f_around2 W x.a d.hosts hok.h1 (by have := hok.h16; omega)
    have hrb := fun W => f_around2 W x.b d.hosts hok.h1 (by have := hok.h16; omega)
    have hW := ActW.mk' h hR x (.slice ba x.body.length bc)
    have h16 := hok.h16
    obtain ⟨hq00, g, gc, hg00, hc20⟩ := h.head hok.h1
    have Hra := Lib.hid hra
    have Hrb := Lib.hid hrb
    have HW := Lib.hid hW
    clear hra hrb hW h
    go_enter Try.func14, Try.ntmps14
    go_wp2_with fail
    generalize w.alloc (.cells (actCells x (.slice ba x.body.length bc)).toArray 35) = W at *
    have hW := HW.out
    have hc2 : W.cell? ⟨q, 2, none⟩ = _ := (hW.fr.cell hq00 (fun h => h) 2).trans hc20
    have c0 := hW.c0
    have c1 := hW.c1
    have c2 := hW.c2
    have c3 := hW.c3
    have c4 := hW.c4
    have c5 := hW.c5
    have hbl : w.heap.size < W.heap.size := by have := hW.size; omega
    have hq0 : q < W.heap.size := by omega
    have hg0 : g < W.heap.size := by omega
    have hBW : B ≤ W.heap.size := by omega
    clear hW hR hc20
    have hne : ((aroundD x.a d.hosts : Int) != (aroundD x.b d.hosts : Int)) = false := by rw [bne_eq_false_iff_eq]; omega
    clear hab
    go_wp2_with fail
    refine WS.wp_region_seq (Fr No W) [] [(0, true), (1, true), (2, true), (4, true), (5, true), (6, true), (3, false), (7, false), (8, true), (9, true)] (by kernel_rfl) (by kernel_rfl) (fun c d v a w h => by cases d <;> exact h) ((Fr.refl _ _).drew) ?_
    simp only [WS.pick, List.getElem?_toArray, List.getElem?_cons_succ, List.getElem?_cons_zero]
    repeat (first | (refine WS.wpL_skip rfl ?_; try simp only [Act.put, List.setIfInBounds_toArray, List.set_cons_zero, List.set_cons_succ]) | (refine WS.wpL_q ?_ rfl ?_ ?_; rotate_left 1; (focus (intro w' hw'; have hrr' := hw'.rules; obtain ⟨hrc', _⟩ := hrr'; clear hw'; go_simp; (try with_reducible rfl); done)); try simp only [Act.put, List.setIfInBounds_toArray, List.set_cons_zero, List.set_cons_succ]))
    refine WS.wpL_e rfl (fun K hK => ?_)
    go_simp
    refine (Hra.out W.drew).mono ?_
    rintro en w' ⟨rfl, rfl⟩
    refine hK _ _ (fun _ => (Fr.refl _ _).drew) ?_
    clear hK K
    try simp only [Act.put, List.setIfInBounds_toArray, List.set_cons_zero, List.set_cons_succ]
    repeat (first | (refine WS.wpL_skip rfl ?_; try simp only [Act.put, List.setIfInBounds_toArray, List.set_cons_zero, List.set_cons_succ]) | (refine WS.wpL_q ?_ rfl ?_ ?_; rotate_left 1; (focus (intro w' hw'; have hrr' := hw'.rules; obtain ⟨hrc', _⟩ := hrr'; clear hw'; go_simp; (try with_reducible rfl); done)); try simp only [Act.put, List.setIfInBounds_toArray, List.set_cons_zero, List.set_cons_succ]))
    refine WS.wpL_e rfl (fun K hK => ?_)
    go_simp
    refine (Hrb.out W.drew).mono ?_
    rintro en w' ⟨rfl, rfl⟩
    refine hK _ _ (fun _ => (Fr.refl _ _).drew) ?_
    clear hK K
    try simp only [Act.put, List.setIfInBounds_toArray, List.set_cons_zero, List.set_cons_succ]
    repeat (first | (refine WS.wpL_skip rfl ?_; try simp only [Act.put, List.setIfInBounds_toArray, List.set_cons_zero, List.set_cons_succ]) | (refine WS.wpL_q ?_ rfl ?_ ?_; rotate_left 1; (focus (intro w' hw'; have hrr' := hw'.rules; obtain ⟨hrc', _⟩ := hrr'; clear hw'; go_simp; (try with_reducible rfl); done)); try simp only [Act.put, List.setIfInBounds_toArray, List.set_cons_zero, List.set_cons_succ]))
    refine WS.wpL_nil ?_
    go_wp2_with fail
    go_end0
    exact ⟨rfl, (WPost.same HW.out.at_ HW.out.reg ((Fr.refl No W).drew)).boxed HW.out.fr⟩
  · rw [if_neg hab]
    have hfa := aroundD_lt x.a (show 0 < d.hosts from hok.h1)
    have hfb := aroundD_lt x.b (show 0 < d.hosts from hok.h1)
    have hra := fun W => f_around2 W x.a d.hosts hok.h1 (by have := hok.h16; omega)
    have hrb := fun W => f_around2 W x.b d.hosts hok.h1 (by have := hok.h16; omega)
    have hW := ActW.mk' h hR x (.slice ba x.body.length bc)
    have h16 := hok.h16
    obtain ⟨hq00, g, gc, hg00, hc20⟩ := h.head hok.h1
    have Hra := Lib.hid hra
    have Hrb := Lib.hid hrb
    have HW := Lib.hid hW
    clear hra hrb hW h
    go_enter Try.func14, Try.ntmps14
    go_wp2_with fail
    generalize w.alloc (.cells (actCells x (.slice ba x.body.length bc)).toArray 35) = W at *
    have hW := HW.out
    have hc2 : W.cell? ⟨q, 2, none⟩ = _ := (hW.fr.cell hq00 (fun h => h) 2).trans hc20
    have c0 := hW.c0
    have c1 := hW.c1
    have c2 := hW.c2
    have c3 := hW.c3
    have c4 := hW.c4
    have c5 := hW.c5
    have hbl : w.heap.size < W.heap.size := by have := hW.size; omega
    have hq0 : q < W.heap.size := by omega
    have hg0 : g < W.heap.size := by omega
    have hBW : B ≤ W.heap.size := by omega
    clear hW hR hc20
    have hne : ((aroundD x.a d.hosts : Int) != (aroundD x.b d.hosts : Int)) = true := by rw [bne_iff_ne]; omega
    have hsend := f_wsend B W.drew q d F (aroundD x.a d.hosts) (aroundD x.b d.hosts) (.slice ba x.body.length bc) x.body (HW.out.at_.fr0 ((Fr.refl No W).drew)) (HW.out.reg.fr ((Fr.refl No W).drew)) hBW hok hfa hfb hab ((hv.fr HW.out.fr FreeT.no).fr ((Fr.refl No W).drew) FreeT.no) (by omega) (htk _ _)
    have Hsend := Lib.hid hsend
    clear hab hsend
    go_wp2_with fail
    refine WS.wp_region_seq (Fr No W) [] [(0, true), (1, true), (2, true), (4, true), (5, true), (6, true), (3, false), (7, false), (8, true), (9, true)] (by kernel_rfl) (by kernel_rfl) (fun c d v a w h => by cases d <;> exact h) ((Fr.refl _ _).drew) ?_
    simp only [WS.pick, List.getElem?_toArray, List.getElem?_cons_succ, List.getElem?_cons_zero]
    repeat (first | (refine WS.wpL_skip rfl ?_; try simp only [Act.put, List.setIfInBounds_toArray, List.set_cons_zero, List.set_cons_succ]) | (refine WS.wpL_q ?_ rfl ?_ ?_; rotate_left 1; (focus (intro w' hw'; have hrr' := hw'.rules; obtain ⟨hrc', _⟩ := hrr'; clear hw'; go_simp; (try with_reducible rfl); done)); try simp only [Act.put, List.setIfInBounds_toArray, List.set_cons_zero, List.set_cons_succ]))
    refine WS.wpL_e rfl (fun K hK => ?_)
    go_simp
    refine (Hra.out W.drew).mono ?_
    rintro en w' ⟨rfl, rfl⟩
    refine hK _ _ (fun _ => (Fr.refl _ _).drew) ?_
    clear hK K
    try simp only [Act.put, List.setIfInBounds_toArray, List.set_cons_zero, List.set_cons_succ]
    repeat (first | (refine WS.wpL_skip rfl ?_; try simp only [Act.put, List.setIfInBounds_toArray, List.set_cons_zero, List.set_cons_succ]) | (refine WS.wpL_q ?_ rfl ?_ ?_; rotate_left 1; (focus (intro w' hw'; have hrr' := hw'.rules; obtain ⟨hrc', _⟩ := hrr'; clear hw'; go_simp; (try with_reducible rfl); done)); try simp only [Act.put, List.setIfInBounds_toArray, List.set_cons_zero, List.set_cons_succ]))
    refine WS.wpL_e rfl (fun K hK => ?_)
    go_simp
    refine (Hrb.out W.drew).mono ?_
    rintro en w' ⟨rfl, rfl⟩
    refine hK _ _ (fun _ => (Fr.refl _ _).drew) ?_
    clear hK K
    try simp only [Act.put, List.setIfInBounds_toArray, List.set_cons_zero, List.set_cons_succ]
    repeat (first | (refine WS.wpL_skip rfl ?_; try simp only [Act.put, List.setIfInBounds_toArray, List.set_cons_zero, List.set_cons_succ]) | (refine WS.wpL_q ?_ rfl ?_ ?_; rotate_left 1; (focus (intro w' hw'; have hrr' := hw'.rules; obtain ⟨hrc', _⟩ := hrr'; clear hw'; go_simp; (try with_reducible rfl); done)); try simp only [Act.put, List.setIfInBounds_toArray, List.set_cons_zero, List.set_cons_succ]))
    refine WS.wpL_nil ?_
    go_wp2_with (go_at_call 34; refine Hsend.out.mono ?_; rintro en w2 ⟨rfl, hP⟩)
    go_end0
    obtain ⟨F', k1, k2, k3, k4⟩ := hP
    exact ⟨rfl, WPost.boxed ⟨F', k1, k2, k3.ofDrew, k4⟩ HW.out.fr⟩
end Go.Proofs.Ytplgmcpglbpghaa
