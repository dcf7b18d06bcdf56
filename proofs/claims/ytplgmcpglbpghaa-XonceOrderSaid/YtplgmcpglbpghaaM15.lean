/- Part 15 of the proof: Xn4. -/
import Derived.Test.YtplgmcpglbpghaaM14
set_option linter.all false
set_option linter.unusedVariables false
set_option linter.unusedSimpArgs false

/- Load: keep. -/
namespace Go.Proofs.Ytplgmcpglbpghaa
open Go.RowKit

def keepFrom (deliv reach : Nat) : Nat → List (Nat × List Int) → Bool
  | _, [] => true
  | last, f :: l => (decide (deliv < f.1) && decide (last < f.1 - deliv) && decide (f.1 - deliv ≤ reach) && szB f.2.length) && keepFrom deliv reach (f.1 - deliv) l
def PStD.keepB (s : PStD) (reach : Nat) : Bool := keepFrom s.deliv reach 1 s.early
def PeerD.kept (p : PeerD) (s : PStD) : PeerD := { p with deliv := s.deliv, early := s.early }
def KeepPost (B : Nat) (w : World) (q : Nat) (p : PeerD) (F : Nat → Prop) (s : PStD) (e : Ending) (w' : World) : Prop :=
  e = .returned (.bool (s.keepB p.reach)) ∧ Fr F w w' ∧ (s.keepB p.reach = true → PeerAt B w' q (p.kept s) (grow F w w'))

theorem keepFrom_len {d r : Nat} : ∀ {l : List (Nat × List Int)} {last : Nat}, keepFrom d r last l = true → l.length ≤ r - last
  | [], _, _ => by simp
  | f :: l, last, h => by
    simp only [keepFrom, Bool.and_eq_true, decide_eq_true_eq] at h
    have := keepFrom_len h.2
    simp only [List.length_cons]
    omega

/-- The receiver's half is laid in. -/
theorem PeerAt.keep {B base : Nat} {w W w4 : World} {q : Nat} {p : PeerD} {F : Nat → Prop} {s : PStD} {v : Value} (h : PeerAt B w q p F) (hR : Reg B w F) (hf : Fr No w W) (hq : EOwn B base W v s.early) (hb : w.heap.size ≤ base) (hB : B ≤ base)
    (hw4 : w4 = (W.setCell ⟨q, 9, none⟩ (.int .u64 s.deliv)).setCell ⟨q, 10, none⟩ v) :
    PeerAt B w4 q (p.kept s) (grow F w w4) ∧ Fr F w w4 := by
  have hlt := h.lt
  have hW := h.fr hf FreeT.no (fun _ _ h => h)
  obtain ⟨h0, hb0, vq, ve, hh, ⟨us, hus, hown2, he⟩, _⟩ := hW
  have h1 := heap_set (v := .int .u64 s.deliv) (k := 9) hh
  have h4 := heap_set (v := v) (k := 10) h1
  rw [← hw4] at h4
  have hfq : Fr (One q) W w4 := by
    rw [hw4]
    exact (Fr.setCell0 W ⟨q, 9, none⟩ _).trans (Fr.setCell0 _ ⟨q, 10, none⟩ _)
  have hfF : Fr F w w4 := (hf.mono (fun _ _ h => h.elim)).trans' hfq (fun x _ e => by rw [e]; exact h0)
  have hfree : FreeT [5] B W (One q) := FreeT.one hb0 (typ_of_heap hh) (by decide)
  have hq4 : EOwn B base w4 v s.early := hq.fr hfq hfree (fun k hk e => by have h1 := (hq.block hk).1; rw [show k = q from e, typ_of_heap hh] at h1; exact absurd h1 (by decide))
  exact ⟨⟨.inl h0, hb0, vq, v, h4, ⟨us, hus.mono fun _ _ h => h.fr hfq hfree, owns_fr hown2 hfq (fun j hj e => own_ne hown2 hh (by decide) (by rw [hj, e])), fun k hk => .inl (he k hk)⟩, OwnL.toEA hq4 hB fun k hk => .inr ⟨by have := (hq4.block hk).2; omega, typ_lt (hq4.block hk).1, .inr (hq4.block hk).1⟩⟩, hfF⟩

set_option maxRecDepth 100000 in
set_option maxHeartbeats 2000000 in
theorem f_keep (B : Nat) (G : Nat → Prop) (w : World) (q : Nat) (p : PeerD) (F : Nat → Prop) (s : PStD) (vq ve : Value) (hp : PeerAt B w q p F) (hR : Reg B w F) (hB : B ≤ w.heap.size) (hg : PstG B G w (vq, ve) s) (hs : s.Wf) (hreach : p.reach ≤ 16) :
    Calls Try.prog 56 #[.pointer (some ⟨q, 7, none⟩), .agg (pstCells s (vq, ve)).toArray] w (KeepPost B w q p F s) := by
  have hlt := hp.lt
  have Hp := Lib.hid hp
  obtain ⟨qa, qc, hvq⟩ := hg.1.form
  obtain ⟨ea, ec, hve⟩ := hg.2.form
  dsimp only at hvq hve
  subst hvq; subst hve
  have hE := hg.2
  obtain ⟨hq0, _, vq0, ve0, hh, _, _⟩ := hp
  obtain ⟨⟨g0, g1, g2, g3⟩, ⟨g4, g5, g6, g7⟩, g8, g9, g10⟩ := peerCells_get hh
  obtain ⟨hfr, hsz, ⟨c0, c1, c2, c3, c4, c5⟩, _⟩ := pst_box (w := w) (s := s) (vq := .slice qa s.queue.length qc) (ve := .slice ea s.early.length ec) _ rfl
  have hg8 := hfr.cell hlt (fun h => h) 8
  rw [g8] at hg8
  have hz : ∀ o, (w.alloc (.cells (pstCells s (.slice qa s.queue.length qc, .slice ea s.early.length ec)).toArray 88)).frozen? ⟨q, o, none⟩ = false := fun o => by rw [hfr.froz hlt (fun h => h)]; simp [World.frozen?, hh]
  have hlW : w.heap.size < (w.alloc (.cells (pstCells s (.slice qa s.queue.length qc, .slice ea s.early.length ec)).toArray 88)).heap.size := by omega
  have hqW : q < (w.alloc (.cells (pstCells s (.slice qa s.queue.length qc, .slice ea s.early.length ec)).toArray 88)).heap.size := by omega
  have hel := hs.el
  have hdl := hs.deliv
  have Hsearly := Lib.hid hs.early
  unfold u64max at hdl
  generalize (pstCells s (.slice qa s.queue.length qc, .slice ea s.early.length ec)).toArray = A at *
  have hqne : ¬ One q w.heap.size := by unfold One; omega
  have HE := Lib.hid (EarlyG.fr0 hE hfr)
  have hBW : B ≤ (w.alloc (.cells A 88)).heap.size := by omega
  clear g0 g1 g2 g3 g4 g5 g6 g7 g8 g9 g10 hh hsz hE hg c0 c1 c2 c3
  go_enter Try.func56, Try.ntmps56
  go_wp2_with fail
  generalize w.alloc (.cells A 88) = W at *
  go_loopw [5, 11] (fun v i wr => ∃ k last : Nat, k ≤ s.early.length ∧ i = .int .i64 k ∧ v = .int .u64 last ∧ last ≤ 18446744073709551615 ∧ Hid (s.keepB p.reach = keepFrom s.deliv p.reach last (s.early.drop k)) ∧ Fr No W wr) (fun _ i _ => 140737488351232 - (intOf i).toNat)
  case atStart => exact ⟨0, 1, Nat.zero_le _, rfl, rfl, by omega, Lib.hid rfl, Fr.refl _ _⟩
  case round =>
    obtain ⟨k, last, hk, rfl, rfl, hlast, HK, hfw⟩ := hrel
    have hszr := hfw.size
    have hqr : q < wr.heap.size := by omega
    have hbr : w.heap.size < wr.heap.size := by omega
    have k4 : wr.cell? ⟨w.heap.size, 4, none⟩ = some (.int .u64 s.deliv) := by rw [hfw.cell hlW (fun h => h)]; exact c4
    have k8 : wr.cell? ⟨q, 8, none⟩ = some (.int .u64 p.reach) := by rw [hfw.cell hqW (fun h => h)]; exact hg8
    by_cases hlt2 : k < s.early.length
    · have hk1 : (k : Int) < (s.early.length : Int) := by omega
      obtain ⟨f, hf⟩ : ∃ f, s.early[k]? = some f := ⟨_, List.getElem?_eq_getElem hlt2⟩
      obtain ⟨b, o, xa, xc, rfl, hb, _, hc0, hc1, hB2⟩ := HE.out.at hf
      have hc0' : wr.cell? ⟨b, o + k * 2, none⟩ = some (.int .u64 f.1) := by rw [hfw.cell hb (fun h => h)]; exact hc0
      have hc1' : wr.cell? ⟨b, o + k * 2 + 1, none⟩ = some (.slice xa f.2.length xc) := by rw [hfw.cell hb (fun h => h)]; exact hc1
      have hf64 := Hsearly.out f (List.mem_of_getElem? hf)
      have hflen : f.2.length ≤ maxLen := by have := hB2.1; unfold maxLen; omega
      have hdrop : s.early.drop k = f :: s.early.drop (k + 1) := by
        rw [List.drop_eq_getElem_cons hlt2]
        rw [List.getElem?_eq_getElem hlt2] at hf
        simp only [Option.some.injEq] at hf
        rw [hf]
      have hstep : s.keepB p.reach = ((decide (s.deliv < f.1) && decide (last < f.1 - s.deliv) && decide (f.1 - s.deliv ≤ p.reach) && szB f.2.length) && keepFrom s.deliv p.reach (f.1 - s.deliv) (s.early.drop (k + 1))) := by
        rw [HK.out, hdrop]; rfl
      have Hstep := Lib.hid hstep
      unfold u64max at hf64
      clear hf hc0 hc1 hB2 hdrop hstep hszr
      go_wp2_with fail
      have hfr1 : Fr No wr (wr.alloc (.cells #[.int .u64 f.1, .slice xa f.2.length xc] 97)) := Fr.alloc0 _ _
      have hs1 : (wr.alloc (.cells #[.int .u64 f.1, .slice xa f.2.length xc] 97)).heap.size = wr.heap.size + 1 := by simp
      have hb1 : (wr.alloc (.cells #[.int .u64 f.1, .slice xa f.2.length xc] 97)).heap[wr.heap.size]? = some (.cells #[.int .u64 f.1, .slice xa f.2.length xc] 97 (0, 0)) := heap_alloc_new _ _
      generalize wr.alloc (.cells #[.int .u64 f.1, .slice xa f.2.length xc] 97) = W1 at *
      have m0 : W1.cell? ⟨wr.heap.size, 0, none⟩ = some (.int .u64 f.1) := by rw [cell_of_row _ _ 0 _ _ _ hb1]; rfl
      have m1 : W1.cell? ⟨wr.heap.size, 1, none⟩ = some (.slice xa f.2.length xc) := by rw [cell_of_row _ _ 1 _ _ _ hb1]; rfl
      have k4' : W1.cell? ⟨w.heap.size, 4, none⟩ = some (.int .u64 s.deliv) := by rw [hfr1.cell hbr (fun h => h)]; exact k4
      have k8' : W1.cell? ⟨q, 8, none⟩ = some (.int .u64 p.reach) := by rw [hfr1.cell hqr (fun h => h)]; exact k8
      have l1 : wr.heap.size < W1.heap.size := by omega
      have l2 : w.heap.size < W1.heap.size := by omega
      have l3 : q < W1.heap.size := by omega
      have hfW1 := hfw.then0 hfr1
      clear hs1 hc0' hc1' k4 k8 hb1
      by_cases q1 : s.deliv < f.1
      · have d1 : decide (f.1 ≤ s.deliv) = false := decide_eq_false (by omega)
        have e1 : IntKind.u64.wrap ((f.1 : Int) - s.deliv) = (f.1 : Int) - s.deliv := u64_in (by omega) (by omega)
        by_cases q2 : last < f.1 - s.deliv
        · have d2 : decide ((f.1 : Int) - s.deliv ≤ (last : Int)) = false := decide_eq_false (by omega)
          by_cases q3 : f.1 - s.deliv ≤ p.reach
          · have d3 : decide ((p.reach : Int) < (f.1 : Int) - s.deliv) = false := decide_eq_false (by omega)
            have d3' : ¬ (p.reach : Int) < (f.1 : Int) - s.deliv := by omega
            have d2' : ¬ (f.1 : Int) - s.deliv ≤ (last : Int) := by omega
            cases q4 : szB f.2.length with
            | true =>
              have Q4 := Lib.hid q4
              clear q4
              refine WS.wp_region_seq (Fr No W1) [] [(0, true), (1, true), (2, true), (3, true), (4, true), (5, true), (6, true), (7, true), (8, true), (9, true), (10, true), (11, true), (12, true), (13, true), (14, true), (15, true), (16, true), (17, true), (18, true), (19, true), (20, true), (21, true), (22, true), (23, true), (24, true), (25, true), (26, true), (27, true), (28, true), (29, false), (30, true), (31, true)] (by kernel_rfl) (by kernel_rfl) (fun c d v a w h => by cases d <;> exact h) ((Fr.refl _ _).drew) ?_
              simp only [WS.pick, List.getElem?_toArray, List.getElem?_cons_succ, List.getElem?_cons_zero]
              repeat (first | (refine WS.wpL_skip rfl ?_; try simp only [Act.put, List.setIfInBounds_toArray, List.set_cons_zero, List.set_cons_succ]) | (refine WS.wpL_q ?_ rfl ?_ ?_; rotate_left 1; (focus (intro w' hw'; have hrr' := hw'.rules; obtain ⟨hrc', _⟩ := hrr'; clear hw'; go_simp; (try with_reducible rfl); done)); try simp only [Act.put, List.setIfInBounds_toArray, List.set_cons_zero, List.set_cons_succ]))
              refine WS.wpL_e rfl (fun K hK => ?_)
              go_simp
              refine (f_sized2 W1.drew xa f.2.length xc hflen).mono ?_
              rintro en w' ⟨rfl, rfl⟩
              rw [Q4.out]
              refine hK _ _ (fun _ => (Fr.refl _ _).drew) ?_
              clear hK K
              try simp only [Act.put, List.setIfInBounds_toArray, List.set_cons_zero, List.set_cons_succ]
              repeat (first | (refine WS.wpL_skip rfl ?_; try simp only [Act.put, List.setIfInBounds_toArray, List.set_cons_zero, List.set_cons_succ]) | (refine WS.wpL_q ?_ rfl ?_ ?_; rotate_left 1; (focus (intro w' hw'; have hrr' := hw'.rules; obtain ⟨hrc', _⟩ := hrr'; clear hw'; go_simp; (try with_reducible rfl); done)); try simp only [Act.put, List.setIfInBounds_toArray, List.set_cons_zero, List.set_cons_succ]))
              refine WS.wpL_nil ?_
              go_wp2_with fail
              refine ⟨⟨k + 1, f.1 - s.deliv, by omega, by go_num, by rw [show ((f.1 - s.deliv : Nat) : Int) = (f.1 : Int) - s.deliv by omega], by omega, Lib.hid (by rw [Hstep.out, decide_eq_true q1, decide_eq_true q2, decide_eq_true q3, Q4.out]; rfl), hfW1.drew⟩, by simp [intOf]; omega⟩
            | false =>
              have Q4 := Lib.hid q4
              clear q4
              refine WS.wp_region_seq (Fr No W1) [] [(0, true), (1, true), (2, true), (3, true), (4, true), (5, true), (6, true), (7, true), (8, true), (9, true), (10, true), (11, true), (12, true), (13, true), (14, true), (15, true), (16, true), (17, true), (18, true), (19, true), (20, true), (21, true), (22, true), (23, true), (24, true), (25, true), (26, true), (27, true), (28, true), (29, false), (30, true), (31, true)] (by kernel_rfl) (by kernel_rfl) (fun c d v a w h => by cases d <;> exact h) ((Fr.refl _ _).drew) ?_
              simp only [WS.pick, List.getElem?_toArray, List.getElem?_cons_succ, List.getElem?_cons_zero]
              repeat (first | (refine WS.wpL_skip rfl ?_; try simp only [Act.put, List.setIfInBounds_toArray, List.set_cons_zero, List.set_cons_succ]) | (refine WS.wpL_q ?_ rfl ?_ ?_; rotate_left 1; (focus (intro w' hw'; have hrr' := hw'.rules; obtain ⟨hrc', _⟩ := hrr'; clear hw'; go_simp; (try with_reducible rfl); done)); try simp only [Act.put, List.setIfInBounds_toArray, List.set_cons_zero, List.set_cons_succ]))
              refine WS.wpL_e rfl (fun K hK => ?_)
              go_simp
              refine (f_sized2 W1.drew xa f.2.length xc hflen).mono ?_
              rintro en w' ⟨rfl, rfl⟩
              rw [Q4.out]
              refine hK _ _ (fun _ => (Fr.refl _ _).drew) ?_
              clear hK K
              try simp only [Act.put, List.setIfInBounds_toArray, List.set_cons_zero, List.set_cons_succ]
              repeat (first | (refine WS.wpL_skip rfl ?_; try simp only [Act.put, List.setIfInBounds_toArray, List.set_cons_zero, List.set_cons_succ]) | (refine WS.wpL_q ?_ rfl ?_ ?_; rotate_left 1; (focus (intro w' hw'; have hrr' := hw'.rules; obtain ⟨hrc', _⟩ := hrr'; clear hw'; go_simp; (try with_reducible rfl); done)); try simp only [Act.put, List.setIfInBounds_toArray, List.set_cons_zero, List.set_cons_succ]))
              refine WS.wpL_nil ?_
              go_wp2_with fail
              go_ret
              have hno : s.keepB p.reach = false := by rw [Hstep.out, Q4.out]; simp
              exact ⟨ret_b hno.symm, (hfr.then0 hfW1.drew).mono (fun _ _ h => h.elim), fun h => by rw [hno] at h; cases h⟩
          · have d3 : decide ((p.reach : Int) < (f.1 : Int) - s.deliv) = true := decide_eq_true (by omega)
            have hno : s.keepB p.reach = false := by rw [Hstep.out, decide_eq_false q3]; simp
            have Hno := Lib.hid hno
            clear hno
            have d3' : (p.reach : Int) < (f.1 : Int) - s.deliv := by omega
            have d2' : ¬ (f.1 : Int) - s.deliv ≤ (last : Int) := by omega
            refine WS.wp_region_seq (Fr No W1) [] [(0, true), (1, true), (2, true), (3, true), (4, true), (5, true), (6, true), (7, true), (8, true), (9, true), (10, true), (11, true), (12, true), (13, true), (14, true), (15, true), (16, true), (17, true), (18, true), (19, true), (20, true), (21, true), (22, true), (23, true), (24, true), (25, true), (26, true), (27, true), (28, true), (29, false), (30, true), (31, true)] (by kernel_rfl) (by kernel_rfl) (fun c d v a w h => by cases d <;> exact h) ((Fr.refl _ _).drew) ?_
            simp only [WS.pick, List.getElem?_toArray, List.getElem?_cons_succ, List.getElem?_cons_zero]
            repeat (first | (refine WS.wpL_skip rfl ?_; try simp only [Act.put, List.setIfInBounds_toArray, List.set_cons_zero, List.set_cons_succ]) | (refine WS.wpL_q ?_ rfl ?_ ?_; rotate_left 1; (focus (intro w' hw'; have hrr' := hw'.rules; obtain ⟨hrc', _⟩ := hrr'; clear hw'; go_simp; (try with_reducible rfl); done)); try simp only [Act.put, List.setIfInBounds_toArray, List.set_cons_zero, List.set_cons_succ]))
            refine WS.wpL_eskip rfl (fun _ => (Fr.refl _ _).drew) ?_
            try simp only [Act.put, List.setIfInBounds_toArray, List.set_cons_zero, List.set_cons_succ]
            repeat (first | (refine WS.wpL_skip rfl ?_; try simp only [Act.put, List.setIfInBounds_toArray, List.set_cons_zero, List.set_cons_succ]) | (refine WS.wpL_q ?_ rfl ?_ ?_; rotate_left 1; (focus (intro w' hw'; have hrr' := hw'.rules; obtain ⟨hrc', _⟩ := hrr'; clear hw'; go_simp; (try with_reducible rfl); done)); try simp only [Act.put, List.setIfInBounds_toArray, List.set_cons_zero, List.set_cons_succ]))
            refine WS.wpL_nil ?_
            go_wp2_with fail
            go_ret
            exact ⟨ret_b Hno.out.symm, (hfr.then0 hfW1.drew).mono (fun _ _ h => h.elim), fun h => by rw [Hno.out] at h; cases h⟩
        · have d2 : decide ((f.1 : Int) - s.deliv ≤ (last : Int)) = true := decide_eq_true (by omega)
          have d2' : (f.1 : Int) - s.deliv ≤ (last : Int) := by omega
          have hno : s.keepB p.reach = false := by rw [Hstep.out, decide_eq_false q2]; simp
          have Hno := Lib.hid hno
          clear hno
          refine WS.wp_region_seq (Fr No W1) [] [(0, true), (1, true), (2, true), (3, true), (4, true), (5, true), (6, true), (7, true), (8, true), (9, true), (10, true), (11, true), (12, true), (13, true), (14, true), (15, true), (16, true), (17, true), (18, true), (19, true), (20, true), (21, true), (22, true), (23, true), (24, true), (25, true), (26, true), (27, true), (28, true), (29, false), (30, true), (31, true)] (by kernel_rfl) (by kernel_rfl) (fun c d v a w h => by cases d <;> exact h) ((Fr.refl _ _).drew) ?_
          simp only [WS.pick, List.getElem?_toArray, List.getElem?_cons_succ, List.getElem?_cons_zero]
          repeat (first | (refine WS.wpL_skip rfl ?_; try simp only [Act.put, List.setIfInBounds_toArray, List.set_cons_zero, List.set_cons_succ]) | (refine WS.wpL_q ?_ rfl ?_ ?_; rotate_left 1; (focus (intro w' hw'; have hrr' := hw'.rules; obtain ⟨hrc', _⟩ := hrr'; clear hw'; go_simp; (try with_reducible rfl); done)); try simp only [Act.put, List.setIfInBounds_toArray, List.set_cons_zero, List.set_cons_succ]))
          refine WS.wpL_eskip rfl (fun _ => (Fr.refl _ _).drew) ?_
          try simp only [Act.put, List.setIfInBounds_toArray, List.set_cons_zero, List.set_cons_succ]
          repeat (first | (refine WS.wpL_skip rfl ?_; try simp only [Act.put, List.setIfInBounds_toArray, List.set_cons_zero, List.set_cons_succ]) | (refine WS.wpL_q ?_ rfl ?_ ?_; rotate_left 1; (focus (intro w' hw'; have hrr' := hw'.rules; obtain ⟨hrc', _⟩ := hrr'; clear hw'; go_simp; (try with_reducible rfl); done)); try simp only [Act.put, List.setIfInBounds_toArray, List.set_cons_zero, List.set_cons_succ]))
          refine WS.wpL_nil ?_
          go_wp2_with fail
          go_ret
          exact ⟨ret_b Hno.out.symm, (hfr.then0 hfW1.drew).mono (fun _ _ h => h.elim), fun h => by rw [Hno.out] at h; cases h⟩
      · have d1 : decide (f.1 ≤ s.deliv) = true := decide_eq_true (by omega)
        have hno : s.keepB p.reach = false := by rw [Hstep.out, decide_eq_false q1]; simp
        have Hno := Lib.hid hno
        clear hno
        refine WS.wp_region_seq (Fr No W1) [] [(0, true), (1, true), (2, true), (3, true), (4, true), (5, true), (6, true), (7, true), (8, true), (9, true), (10, true), (11, true), (12, true), (13, true), (14, true), (15, true), (16, true), (17, true), (18, true), (19, true), (20, true), (21, true), (22, true), (23, true), (24, true), (25, true), (26, true), (27, true), (28, true), (29, false), (30, true), (31, true)] (by kernel_rfl) (by kernel_rfl) (fun c d v a w h => by cases d <;> exact h) ((Fr.refl _ _).drew) ?_
        simp only [WS.pick, List.getElem?_toArray, List.getElem?_cons_succ, List.getElem?_cons_zero]
        repeat (first | (refine WS.wpL_skip rfl ?_; try simp only [Act.put, List.setIfInBounds_toArray, List.set_cons_zero, List.set_cons_succ]) | (refine WS.wpL_q ?_ rfl ?_ ?_; rotate_left 1; (focus (intro w' hw'; have hrr' := hw'.rules; obtain ⟨hrc', _⟩ := hrr'; clear hw'; go_simp; (try with_reducible rfl); done)); try simp only [Act.put, List.setIfInBounds_toArray, List.set_cons_zero, List.set_cons_succ]))
        refine WS.wpL_eskip rfl (fun _ => (Fr.refl _ _).drew) ?_
        try simp only [Act.put, List.setIfInBounds_toArray, List.set_cons_zero, List.set_cons_succ]
        repeat (first | (refine WS.wpL_skip rfl ?_; try simp only [Act.put, List.setIfInBounds_toArray, List.set_cons_zero, List.set_cons_succ]) | (refine WS.wpL_q ?_ rfl ?_ ?_; rotate_left 1; (focus (intro w' hw'; have hrr' := hw'.rules; obtain ⟨hrc', _⟩ := hrr'; clear hw'; go_simp; (try with_reducible rfl); done)); try simp only [Act.put, List.setIfInBounds_toArray, List.set_cons_zero, List.set_cons_succ]))
        refine WS.wpL_nil ?_
        go_wp2_with fail
        go_ret
        exact ⟨ret_b Hno.out.symm, (hfr.then0 hfW1.drew).mono (fun _ _ h => h.elim), fun h => by rw [Hno.out] at h; cases h⟩
    · have hkn : k = s.early.length := by omega
      have hk1 : ¬ (k : Int) < (s.early.length : Int) := by omega
      have hyes : s.keepB p.reach = true := by rw [HK.out, hkn, List.drop_length]; rfl
      have hlen := keepFrom_len (show keepFrom s.deliv p.reach 1 s.early = true from hyes)
      have Hyes := Lib.hid hyes
      clear hkn hyes
      have k5 : wr.cell? ⟨w.heap.size, 5, none⟩ = some (.slice ea s.early.length ec) := by rw [hfw.cell hlW (fun h => h)]; exact c5
      have hqne' : ¬ One q w.heap.size := hqne
      have hzr : ∀ o, wr.frozen? ⟨q, o, none⟩ = false := fun o => by rw [hfw.froz hqW (fun h => h)]; exact hz o
      go_wp2_with fail
      have hqlt := hbr
      have hqS := hqne'
      refine WS.wp_region_seq (Fr (One q) wr) [12] [(0, true), (1, true), (2, true), (3, true), (4, true), (5, true), (6, false), (7, true), (8, true), (9, false), (10, true), (11, true), (12, false)] (by kernel_rfl) (by kernel_rfl) (fun c d v a w h => by cases d <;> exact h) ((Fr.refl _ _).drew) ?_
      simp only [WS.pick, List.getElem?_toArray, List.getElem?_cons_succ, List.getElem?_cons_zero]
      repeat (first | (refine WS.wpL_skip rfl ?_; try simp only [Act.put, List.setIfInBounds_toArray, List.set_cons_zero, List.set_cons_succ]) | (refine WS.wpL_q ?_ rfl ?_ ?_; rotate_left 1; (focus (intro w' hw'; have hrc' := Fr.rules1 hw' hqlt hqS; clear hw'; go_simp; (try with_reducible rfl); done)); try simp only [Act.put, List.setIfInBounds_toArray, List.set_cons_zero, List.set_cons_succ]))
      refine WS.wpL_e rfl (fun K hK => ?_)
      go_simp
      refine (f_frames B G wr.drew _ _ ((HE.out.fr0 hfw).fr0 ((Fr.refl _ _).drew)) (by show B ≤ wr.heap.size; omega) (by omega)).mono ?_
      rintro en w1 ⟨v1, rfl, hq1, hf1⟩
      have hf1' : Fr No wr w1 := hf1.ofDrew
      obtain ⟨a1, c1', rfl⟩ := hq1.form
      refine hK _ _ (fun _ => hf1'.mono (fun _ _ h => h.elim)) ?_
      clear hK K
      try simp only [Act.put, List.setIfInBounds_toArray, List.set_cons_zero, List.set_cons_succ]
      repeat (first | (refine WS.wpL_skip rfl ?_; try simp only [Act.put, List.setIfInBounds_toArray, List.set_cons_zero, List.set_cons_succ]) | (refine WS.wpL_q ?_ rfl ?_ ?_; rotate_left 1; (focus (intro w' hw'; have hrc' := Fr.rules1 hw' hqlt hqS; clear hw'; go_simp; (try with_reducible rfl); done)); try simp only [Act.put, List.setIfInBounds_toArray, List.set_cons_zero, List.set_cons_succ]))
      have hz1 : ∀ o, w1.frozen? ⟨q, o, none⟩ = false := fun o => by rw [hf1'.froz hqr (fun h => h)]; exact hzr o
      obtain ⟨vq1, ve1, _, _, x3, x4, x5, x6, x9, x10⟩ := (Hp.out.fr ((hfr.then0 hfw).then0 hf1') FreeT.no (fun _ _ h => h)).cells
      refine WS.wpL_e rfl (fun K hK => ?_)
      go_simp
      have hs1 : Fr (One q) wr (w1.setCell ⟨q, 9, none⟩ (.int .u64 s.deliv)) := (hf1'.mono (fun _ _ h => h.elim)).setCell _ _ (.inr rfl)
      refine hK _ _ (fun _ => hs1) ?_
      clear hK K
      try simp only [Act.put, List.setIfInBounds_toArray, List.set_cons_zero, List.set_cons_succ]
      repeat (first | (refine WS.wpL_skip rfl ?_; try simp only [Act.put, List.setIfInBounds_toArray, List.set_cons_zero, List.set_cons_succ]) | (refine WS.wpL_q ?_ rfl ?_ ?_; rotate_left 1; (focus (intro w' hw'; have hrc' := Fr.rules1 hw' hqlt hqS; clear hw'; go_simp; (try with_reducible rfl); done)); try simp only [Act.put, List.setIfInBounds_toArray, List.set_cons_zero, List.set_cons_succ]))
      refine WS.wpL_e rfl (fun K hK => ?_)
      go_simp
      refine hK _ _ (fun h => absurd (by decide) h) ?_
      clear hK K
      try simp only [Act.put, List.setIfInBounds_toArray, List.set_cons_zero, List.set_cons_succ]
      refine WS.wpL_nil ?_
      obtain ⟨hp4, hf4⟩ := PeerAt.keep (s := s) Hp.out hR ((hfr.then0 hfw).then0 hf1') hq1 (by show w.heap.size ≤ wr.heap.size; omega) (by show B ≤ wr.heap.size; omega) rfl
      go_wp2_with fail
      go_ret
      exact ⟨ret_b Hyes.out.symm, hf4, fun _ => hp4⟩
end Go.Proofs.Ytplgmcpglbpghaa
