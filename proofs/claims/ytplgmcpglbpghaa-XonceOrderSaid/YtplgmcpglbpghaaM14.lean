/- Part 14 of the proof: Xn2, Xn3. -/
import Derived.Test.YtplgmcpglbpghaaM13
set_option linter.all false
set_option linter.unusedVariables false
set_option linter.unusedSimpArgs false

/- Load: zero, lay. -/
namespace Go.Proofs.Ytplgmcpglbpghaa
open Go.RowKit

/-- Each number is one of its kind, and no list is too long. -/
structure PStD.Wf (s : PStD) : Prop where
  sent : s.sent ≤ u64max
  acked : s.acked ≤ u64max
  mask : s.mask ≤ u64max
  deliv : s.deliv ≤ u64max
  ql : s.queue.length ≤ 140737488351232
  el : s.early.length ≤ 140737488351232
  early : ∀ f ∈ s.early, f.1 ≤ u64max

def PStD.zeroB (s : PStD) : Bool := decide (s.sent = 0 ∧ s.acked = 0 ∧ s.mask = 0 ∧ s.deliv = 0 ∧ s.queue.length = 0 ∧ s.early.length = 0)

theorem or4_zero (a b c d : Nat) (ha : a ≤ u64max) (hb : b ≤ u64max) (hc : c ≤ u64max) (hd : d ≤ u64max) :
    bits BinOp.or IntKind.u64 (bits BinOp.or IntKind.u64 (bits BinOp.or IntKind.u64 (a : Int) (b : Int)) (c : Int)) (d : Int) = ((a ||| b ||| c ||| d : Nat) : Int) := by
  unfold u64max at *
  have lt : ∀ x y : Nat, x ≤ 18446744073709551615 → y ≤ 18446744073709551615 → x ||| y ≤ 18446744073709551615 := fun x y hx hy => by
    have := Nat.or_lt_two_pow (n := 64) (x := x) (y := y) (by omega) (by omega)
    omega
  rw [u64_or_nat a b (by omega) (by omega), u64_or_nat _ c (by have := lt a b ha hb; omega) (by omega), u64_or_nat _ d (by have := lt _ c (lt a b ha hb) hc; omega) (by omega)]

set_option maxRecDepth 100000 in
set_option maxHeartbeats 1000000 in
theorem f_zero (w : World) (s : PStD) (qa ea : Option Addr) (qc ec : Nat) (hs : s.Wf) :
    Calls Try.prog 54 #[.agg (pstCells s (.slice qa s.queue.length qc, .slice ea s.early.length ec)).toArray] w fun e w' => e = .returned (.bool s.zeroB) ∧ Fr No w w' := by
  obtain ⟨h1, h2, h3, h4, h5, h6, _⟩ := hs
  have hor := or4_zero s.sent s.acked s.mask s.deliv h1 h2 h3 h4
  have hz : (((s.sent ||| s.acked ||| s.mask ||| s.deliv : Nat) : Int) == 0) = decide (s.sent = 0 ∧ s.acked = 0 ∧ s.mask = 0 ∧ s.deliv = 0) := by
    rw [Bool.eq_iff_iff, beq_iff_eq, decide_eq_true_iff]
    rw [show ((s.sent ||| s.acked ||| s.mask ||| s.deliv : Nat) : Int) = 0 ↔ (s.sent ||| s.acked ||| s.mask ||| s.deliv) = 0 by omega, Nat.or_eq_zero_iff, Nat.or_eq_zero_iff, Nat.or_eq_zero_iff]
    constructor
    · rintro ⟨⟨⟨a, b⟩, c⟩, d⟩; exact ⟨a, b, c, d⟩
    · rintro ⟨a, b, c, d⟩; exact ⟨⟨⟨a, b⟩, c⟩, d⟩
  have hor' : ∀ x : Int, x = bits BinOp.or IntKind.u64 (bits BinOp.or IntKind.u64 (bits BinOp.or IntKind.u64 (s.sent : Int) (s.acked : Int)) (s.mask : Int)) (s.deliv : Int) → (x == 0) = decide (s.sent = 0 ∧ s.acked = 0 ∧ s.mask = 0 ∧ s.deliv = 0) := fun x hx => by rw [hx, hor]; exact hz
  have hkey := hor' _ rfl
  have Hlens := Lib.hid (And.intro h5 h6)
  clear hor hor' hz h1 h2 h3 h4 h5 h6
  simp only [pstCells, PStD.zeroB]
  by_cases hn : s.sent = 0 ∧ s.acked = 0 ∧ s.mask = 0 ∧ s.deliv = 0
  · rw [decide_eq_true hn] at hkey
    have Hn := Lib.hid hn
    clear hn
    by_cases hq : s.queue.length = 0
    · have hqb : ((s.queue.length : Int) == 0) = true := by rw [beq_iff_eq]; omega
      have Hq := Lib.hid hq
      clear hq
      by_cases he : s.early.length = 0
      · have heb : ((s.early.length : Int) == 0) = true := by rw [beq_iff_eq]; omega
        have He := Lib.hid he
        clear he
        go_enter Try.func54, Try.ntmps54
        go_wp2
        go_ret
        exact ⟨ret_b (decide_eq_true ⟨Hn.out.1, Hn.out.2.1, Hn.out.2.2.1, Hn.out.2.2.2, Hq.out, He.out⟩).symm, Fr.alloc0 _ _⟩
      · have heb : ((s.early.length : Int) == 0) = false := by rw [beq_eq_false_iff_ne]; omega
        have He := Lib.hid he
        clear he
        go_enter Try.func54, Try.ntmps54
        go_wp2
        go_ret
        exact ⟨ret_b (decide_eq_false fun h => He.out h.2.2.2.2.2).symm, Fr.alloc0 _ _⟩
    · have hqb : ((s.queue.length : Int) == 0) = false := by rw [beq_eq_false_iff_ne]; omega
      have Hq := Lib.hid hq
      clear hq
      go_enter Try.func54, Try.ntmps54
      go_wp2
      go_ret
      exact ⟨ret_b (decide_eq_false fun h => Hq.out h.2.2.2.2.1).symm, Fr.alloc0 _ _⟩
  · rw [decide_eq_false hn] at hkey
    have Hn := Lib.hid hn
    clear hn
    go_enter Try.func54, Try.ntmps54
    go_wp2
    go_ret
    exact ⟨ret_b (decide_eq_false fun h => Hn.out ⟨h.1, h.2.1, h.2.2.1, h.2.2.2.1⟩).symm, Fr.alloc0 _ _⟩

set_option maxRecDepth 100000 in
set_option maxHeartbeats 400000 in
theorem f_layC (w : World) (a : Option Addr) (n c : Nat) (hn : n ≤ maxLen) : Calls Try.prog 80 #[.slice a n c] w fun e w' => e = .returned (.bool (!szB n)) ∧ w = w' := by
  go_enter Try.func80, Try.ntmps80
  go_wp2_with (go_at_call 45; refine (f_sized2 _ a n c hn).mono ?_; rintro en w' ⟨rfl, rfl⟩)
  go_ret
  exact ⟨rfl, rfl⟩

/-- The place of the first list that is not sized, or -1. -/
def badAt (q : List (List Int)) : Int := match q.findIdx? (fun l => !szB l.length) with | some i => i | none => -1

set_option maxRecDepth 100000 in
set_option maxHeartbeats 1000000 in
theorem f_index (B : Nat) (G : Nat → Prop) (w : World) (v : Value) (q : List (List Int)) (h : QueueG B G w v q) (hn : q.length ≤ 1000) :
    Calls Try.prog 96 #[v, .func (.func 80) #[] #[]] w fun e w' => e = .returned (.int .i64 (badAt q)) ∧ w = w' := by
  obtain ⟨a, c, rfl⟩ := h.form
  have H := Lib.hid h
  clear h
  go_enter Try.func96, Try.ntmps96
  go_wp2
  go_loop [8] (fun i => ∃ k : Nat, k ≤ q.length ∧ i = .int .i64 k ∧ Hid (∀ j l, j < k → q[j]? = some l → szB l.length = true)) (fun i => 1000 - (intOf i).toNat)
  case atStart => exact ⟨0, Nat.zero_le _, rfl, Lib.hid (fun j l h => by omega)⟩
  case round =>
    obtain ⟨k, hk, rfl, Hc⟩ := hrel
    by_cases hlt : k < q.length
    · have hk1 : (k : Int) < (q.length : Int) := by omega
      obtain ⟨l, hl⟩ : ∃ l, q[k]? = some l := ⟨_, List.getElem?_eq_getElem hlt⟩
      obtain ⟨b, o, xa, xc, rfl, hb, _, hc, hB2⟩ := H.out.at hl
      have hlm : l.length ≤ maxLen := by have := hB2.1; unfold maxLen; omega
      have Hl := Lib.hid hl
      clear hl hB2
      by_cases hs : szB l.length = true
      · have Hs := Lib.hid hs
        clear hs
        go_wp2_with (first | (refine (f_layC w xa l.length xc hlm).mono ?_; rintro en w' ⟨rfl, rfl⟩; rw [Hs.out]; simp only [Bool.not_true]) | fail)
        go_round
        case rel => exact ⟨k + 1, by omega, by go_num, Lib.hid (fun j l' hj hl' => by
          by_cases hjk : j = k
          · subst hjk
            have := Hl.out
            rw [hl'] at this; cases this; exact Hs.out
          · exact Hc.out j l' (by omega) hl')⟩
        case measure => simp [intOf]; omega
      · have hs' : szB l.length = false := by simpa using hs
        have Hs := Lib.hid hs'
        clear hs hs'
        have hbad : badAt q = k := by
          unfold badAt
          have : q.findIdx? (fun l => !szB l.length) = some k := by
            rw [List.findIdx?_eq_some_iff_getElem]
            have hlk := Hl.out
            rw [List.getElem?_eq_getElem hlt] at hlk
            refine ⟨hlt, ?_, fun j hj => ?_⟩
            · simp only [Option.some.injEq] at hlk
              rw [hlk, Hs.out]; rfl
            · have := Hc.out j q[j] hj (List.getElem?_eq_getElem (by omega))
              simp [this]
          rw [this]
        have Hbad := Lib.hid hbad
        clear hbad
        go_wp2_with (first | (refine (f_layC w xa l.length xc hlm).mono ?_; rintro en w' ⟨rfl, rfl⟩; rw [Hs.out]; simp only [Bool.not_false]) | fail)
        go_ret
        exact ⟨ret_i Hbad.out.symm, rfl⟩
    · have hk1 : ¬ (k : Int) < (q.length : Int) := by omega
      have hbad : badAt q = -1 := by
        unfold badAt
        have : q.findIdx? (fun l => !szB l.length) = none := by
          rw [List.findIdx?_eq_none_iff]
          intro l hl
          obtain ⟨j, hj, rfl⟩ := List.mem_iff_getElem.1 hl
          have := Hc.out j q[j] (by omega) (List.getElem?_eq_getElem hj)
          simp [this]
        rw [this]
      have Hbad := Lib.hid hbad
      clear hbad
      go_wp2
      go_ret
      exact ⟨ret_i Hbad.out.symm, rfl⟩

theorem badAt_any (q : List (List Int)) : decide (0 ≤ badAt q) = q.any fun l => !szB l.length := by
  unfold badAt
  cases h : q.findIdx? (fun l => !szB l.length) with
  | none =>
    rw [List.findIdx?_eq_none_iff] at h
    symm
    simp only [show ¬ (0 : Int) ≤ -1 by omega, decide_false]
    rw [List.any_eq_false]
    intro l hl; have := h l hl; simpa using this
  | some i =>
    rw [List.findIdx?_eq_some_iff_getElem] at h
    obtain ⟨h1, h2, _⟩ := h
    symm
    simp only [show (0 : Int) ≤ (i : Int) by omega, decide_true]
    exact List.any_eq_true.2 ⟨q[i], List.getElem_mem h1, h2⟩

set_option maxRecDepth 100000 in
set_option maxHeartbeats 1000000 in
theorem f_contains (B : Nat) (G : Nat → Prop) (w : World) (v : Value) (q : List (List Int)) (h : QueueG B G w v q) (hn : q.length ≤ 1000) :
    Calls Try.prog 79 #[v, .func (.func 80) #[] #[]] w fun e w' => e = .returned (.bool (q.any fun l => !szB l.length)) ∧ w = w' := by
  obtain ⟨a, c, rfl⟩ := h.form
  have hany := badAt_any q
  have Hi := Lib.hid (f_index B G w _ q h hn)
  have Hany := Lib.hid hany
  clear h hany
  go_enter Try.func79, Try.ntmps79
  go_wp2_with (go_at_call 96; refine Hi.out.mono ?_; rintro en w' ⟨rfl, rfl⟩)
  go_ret
  exact ⟨ret_b Hany.out, rfl⟩
end Go.Proofs.Ytplgmcpglbpghaa

/- Load: lay. -/
namespace Go.Proofs.Ytplgmcpglbpghaa
open Go.RowKit

def PStD.layB (s : PStD) (room : Nat) : Bool := decide (s.acked ≤ s.sent) && decide (s.queue.length ≤ room) && decide (s.queue.length = s.sent - s.acked) && (!beyondB s.sent s.acked s.mask && !(s.queue.any fun l => !szB l.length))
def PeerD.laid (p : PeerD) (s : PStD) : PeerD := { p with sent := s.sent, acked := s.acked, mask := s.mask, queue := s.queue }
def LayPost (B : Nat) (w : World) (q : Nat) (p : PeerD) (F : Nat → Prop) (s : PStD) (e : Ending) (w' : World) : Prop :=
  e = .returned (.bool (s.layB p.room)) ∧ Fr F w w' ∧ (s.layB p.room = true → PeerAt B w' q (p.laid s) (grow F w w'))

theorem pst_box {w : World} {s : PStD} {vq ve : Value} : ∀ W, W = w.alloc (.cells (pstCells s (vq, ve)).toArray 88) → Fr No w W ∧ W.heap.size = w.heap.size + 1 ∧ (W.cell? ⟨w.heap.size, 0, none⟩ = some (.int .u64 s.sent) ∧ W.cell? ⟨w.heap.size, 1, none⟩ = some (.int .u64 s.acked) ∧ W.cell? ⟨w.heap.size, 2, none⟩ = some vq ∧ W.cell? ⟨w.heap.size, 3, none⟩ = some (.int .u64 s.mask) ∧ W.cell? ⟨w.heap.size, 4, none⟩ = some (.int .u64 s.deliv) ∧ W.cell? ⟨w.heap.size, 5, none⟩ = some ve) ∧ typ W w.heap.size = some 88 := by
  rintro W rfl
  have h := heap_alloc_new w (.cells (pstCells s (vq, ve)).toArray 88)
  refine ⟨Fr.alloc0 _ _, by simp, ?_, typ_of_heap h⟩
  have hc := fun j v (hj : (pstCells s (vq, ve))[j]? = some v) => (show (w.alloc (.cells (pstCells s (vq, ve)).toArray 88)).cell? ⟨w.heap.size, j, none⟩ = some v by rw [cell_of_row _ _ j _ _ _ h]; simpa using hj)
  exact ⟨hc 0 _ rfl, hc 1 _ rfl, hc 2 _ rfl, hc 3 _ rfl, hc 4 _ rfl, hc 5 _ rfl⟩

/-- The sender's half is laid in. -/
theorem PeerAt.lay {B base : Nat} {w W w4 : World} {q : Nat} {p : PeerD} {F : Nat → Prop} {s : PStD} {v : Value} (h : PeerAt B w q p F) (hR : Reg B w F) (hf : Fr No w W) (hq : QOwn B base W v s.queue) (hb : w.heap.size ≤ base) (hB : B ≤ base)
    (hw4 : w4 = (((W.setCell ⟨q, 3, none⟩ (.int .u64 s.sent)).setCell ⟨q, 4, none⟩ (.int .u64 s.acked)).setCell ⟨q, 6, none⟩ (.int .u64 s.mask)).setCell ⟨q, 5, none⟩ v) :
    PeerAt B w4 q (p.laid s) (grow F w w4) ∧ Fr F w w4 := by
  have hlt := h.lt
  have hW := h.fr hf FreeT.no (fun _ _ h => h)
  obtain ⟨h0, hb0, vq, ve, hh, _, ⟨us, hus, hown2, he⟩⟩ := hW
  have h1 := heap_set (v := .int .u64 s.sent) (k := 3) hh
  have h2 := heap_set (v := .int .u64 s.acked) (k := 4) h1
  have h3 := heap_set (v := .int .u64 s.mask) (k := 6) h2
  have h4 := heap_set (v := v) (k := 5) h3
  rw [← hw4] at h4
  have hfq : Fr (One q) W w4 := by
    rw [hw4]
    exact (((Fr.setCell0 W ⟨q, 3, none⟩ _).trans (Fr.setCell0 _ ⟨q, 4, none⟩ _)).trans (Fr.setCell0 _ ⟨q, 6, none⟩ _)).trans (Fr.setCell0 _ ⟨q, 5, none⟩ _)
  have hfF : Fr F w w4 := (hf.mono (fun _ _ h => h.elim)).trans' hfq (fun x _ e => by rw [e]; exact h0)
  have hfree : FreeT [5] B W (One q) := FreeT.one hb0 (typ_of_heap hh) (by decide)
  have hq4 : QOwn B base w4 v s.queue := hq.fr hfq hfree (fun k hk e => by have h1 := (hq.block hk).1; rw [show k = q from e, typ_of_heap hh] at h1; exact absurd h1 (by decide))
  refine ⟨⟨.inl h0, hb0, v, ve, h4, OwnL.toQA hq4 hB fun k hk => .inr ⟨by have := (hq4.block hk).2; omega, typ_lt (hq4.block hk).1, .inl (hq4.block hk).1⟩, ⟨us, hus.mono fun _ _ h => h.fr hfq hfree, owns_fr hown2 hfq (fun j hj e => own_ne hown2 hh (by decide) (by rw [hj, e])), fun k hk => .inl (he k hk)⟩⟩, hfF⟩

set_option maxRecDepth 100000 in
set_option maxHeartbeats 1000000 in
theorem lay_no (B : Nat) (w : World) (q : Nat) (p : PeerD) (F : Nat → Prop) (s : PStD) (qa ea : Option Addr) (qc ec : Nat) (hp : PeerAt B w q p F) (hs : s.Wf) (hroom : p.room ≤ 16)
    (h : s.sent < s.acked ∨ (s.acked ≤ s.sent ∧ p.room < s.queue.length) ∨ (s.acked ≤ s.sent ∧ s.queue.length ≤ p.room ∧ s.queue.length ≠ s.sent - s.acked)) :
    Calls Try.prog 55 #[.pointer (some ⟨q, 0, none⟩), .agg (pstCells s (.slice qa s.queue.length qc, .slice ea s.early.length ec)).toArray] w fun e w' => e = .returned (.bool false) ∧ Fr No w w' := by
  have hlt := hp.lt
  obtain ⟨_, _, vq, ve, hh, _, _⟩ := hp
  obtain ⟨⟨g0, g1, g2, g3⟩, ⟨g4, g5, g6, g7⟩, g8, g9, g10⟩ := peerCells_get hh
  obtain ⟨hfr, hsz, ⟨c0, c1, c2, c3, c4, c5⟩, _⟩ := pst_box (w := w) (s := s) (vq := .slice qa s.queue.length qc) (ve := .slice ea s.early.length ec) _ rfl
  have hg1 := hfr.cell hlt (fun h => h) 1
  rw [g1] at hg1
  have hlW : w.heap.size < (w.alloc (.cells (pstCells s (.slice qa s.queue.length qc, .slice ea s.early.length ec)).toArray 88)).heap.size := by omega
  have hqW : q < (w.alloc (.cells (pstCells s (.slice qa s.queue.length qc, .slice ea s.early.length ec)).toArray 88)).heap.size := by omega
  have hs1 := hs.sent
  have hs2 := hs.acked
  have hql := hs.ql
  unfold u64max at hs1 hs2
  generalize (pstCells s (.slice qa s.queue.length qc, .slice ea s.early.length ec)).toArray = A at *
  clear g0 g1 g2 g3 g4 g5 g6 g7 g8 g9 g10 hh hsz
  rcases h with h | ⟨h1, h2⟩ | ⟨h1, h2, h3⟩
  · have hd : (s.sent : Int) < (s.acked : Int) := by omega
    have hd' : decide (s.sent < s.acked) = true := decide_eq_true h
    go_enter Try.func55, Try.ntmps55
    go_wp2_with fail
    generalize w.alloc (.cells A 88) = W at *
    refine WS.wp_region_seq (Fr No W) [] [(0, true), (1, true), (2, true), (3, true), (4, true), (5, true), (6, true), (7, true), (8, true), (9, true), (10, true), (11, true), (12, true), (13, true), (14, true), (15, true), (16, true), (17, true), (18, true), (19, true), (20, true), (21, true), (22, true), (23, true), (24, true), (25, true), (26, true)] (by kernel_rfl) (by kernel_rfl) (fun c d v a w h => by cases d <;> exact h) ((Fr.refl _ _).drew) ?_
    simp only [WS.pick, List.getElem?_toArray, List.getElem?_cons_succ, List.getElem?_cons_zero]
    repeat (first | (refine WS.wpL_skip rfl ?_; try simp only [Act.put, List.setIfInBounds_toArray, List.set_cons_zero, List.set_cons_succ]) | (refine WS.wpL_q ?_ rfl ?_ ?_; rotate_left 1; (focus (intro w' hw'; have hrr' := hw'.rules; obtain ⟨hrc', _⟩ := hrr'; clear hw'; go_simp; (try with_reducible rfl); done)); try simp only [Act.put, List.setIfInBounds_toArray, List.set_cons_zero, List.set_cons_succ]))
    refine WS.wpL_nil ?_
    go_wp2_with fail
    go_ret
    exact ⟨rfl, hfr.drew⟩
  · have hd : ¬ (s.sent : Int) < (s.acked : Int) := by omega
    have hd' : decide (s.sent < s.acked) = false := decide_eq_false (by omega)
    have hd2 : (p.room : Int) < (s.queue.length : Int) := by omega
    have hd2' : decide (p.room < s.queue.length) = true := decide_eq_true (by omega)
    go_enter Try.func55, Try.ntmps55
    go_wp2_with fail
    generalize w.alloc (.cells A 88) = W at *
    refine WS.wp_region_seq (Fr No W) [] [(0, true), (1, true), (2, true), (3, true), (4, true), (5, true), (6, true), (7, true), (8, true), (9, true), (10, true), (11, true), (12, true), (13, true), (14, true), (15, true), (16, true), (17, true), (18, true), (19, true), (20, true), (21, true), (22, true), (23, true), (24, true), (25, true), (26, true)] (by kernel_rfl) (by kernel_rfl) (fun c d v a w h => by cases d <;> exact h) ((Fr.refl _ _).drew) ?_
    simp only [WS.pick, List.getElem?_toArray, List.getElem?_cons_succ, List.getElem?_cons_zero]
    repeat (first | (refine WS.wpL_skip rfl ?_; try simp only [Act.put, List.setIfInBounds_toArray, List.set_cons_zero, List.set_cons_succ]) | (refine WS.wpL_q ?_ rfl ?_ ?_; rotate_left 1; (focus (intro w' hw'; have hrr' := hw'.rules; obtain ⟨hrc', _⟩ := hrr'; clear hw'; go_simp; (try with_reducible rfl); done)); try simp only [Act.put, List.setIfInBounds_toArray, List.set_cons_zero, List.set_cons_succ]))
    refine WS.wpL_nil ?_
    go_wp2_with fail
    go_ret
    exact ⟨rfl, hfr.drew⟩
  · have hd : ¬ (s.sent : Int) < (s.acked : Int) := by omega
    have hd' : decide (s.sent < s.acked) = false := decide_eq_false (by omega)
    have hd2 : ¬ (p.room : Int) < (s.queue.length : Int) := by omega
    have hd2' : decide (p.room < s.queue.length) = false := decide_eq_false (by omega)
    have e1 : IntKind.u64.wrap (s.queue.length : Int) = s.queue.length := u64_in (by omega) (by omega)
    have e2 : IntKind.u64.wrap ((s.sent : Int) - s.acked) = (s.sent : Int) - s.acked := u64_in (by omega) (by omega)
    have hd3 : ((s.queue.length : Int) != (s.sent : Int) - s.acked) = true := by rw [bne_iff_ne]; omega
    clear h3
    go_enter Try.func55, Try.ntmps55
    go_wp2_with fail
    generalize w.alloc (.cells A 88) = W at *
    refine WS.wp_region_seq (Fr No W) [] [(0, true), (1, true), (2, true), (3, true), (4, true), (5, true), (6, true), (7, true), (8, true), (9, true), (10, true), (11, true), (12, true), (13, true), (14, true), (15, true), (16, true), (17, true), (18, true), (19, true), (20, true), (21, true), (22, true), (23, true), (24, true), (25, true), (26, true)] (by kernel_rfl) (by kernel_rfl) (fun c d v a w h => by cases d <;> exact h) ((Fr.refl _ _).drew) ?_
    simp only [WS.pick, List.getElem?_toArray, List.getElem?_cons_succ, List.getElem?_cons_zero]
    repeat (first | (refine WS.wpL_skip rfl ?_; try simp only [Act.put, List.setIfInBounds_toArray, List.set_cons_zero, List.set_cons_succ]) | (refine WS.wpL_q ?_ rfl ?_ ?_; rotate_left 1; (focus (intro w' hw'; have hrr' := hw'.rules; obtain ⟨hrc', _⟩ := hrr'; clear hw'; go_simp; (try with_reducible rfl); done)); try simp only [Act.put, List.setIfInBounds_toArray, List.set_cons_zero, List.set_cons_succ]))
    refine WS.wpL_nil ?_
    go_wp2_with fail
    go_ret
    exact ⟨rfl, hfr.drew⟩

set_option maxRecDepth 100000 in
set_option maxHeartbeats 2000000 in
theorem lay_yes (B : Nat) (G : Nat → Prop) (w : World) (q : Nat) (p : PeerD) (F : Nat → Prop) (s : PStD) (vq ve : Value) (hp : PeerAt B w q p F) (hR : Reg B w F) (hB : B ≤ w.heap.size) (hg : PstG B G w (vq, ve) s) (hs : s.Wf) (hroom : p.room ≤ 16)
    (h1 : s.acked ≤ s.sent) (h2 : s.queue.length ≤ p.room) (h3 : s.queue.length = s.sent - s.acked) :
    Calls Try.prog 55 #[.pointer (some ⟨q, 0, none⟩), .agg (pstCells s (vq, ve)).toArray] w fun e w' => e = .returned (.bool (!beyondB s.sent s.acked s.mask && !(s.queue.any fun l => !szB l.length))) ∧ PeerAt B w' q (p.laid s) (grow F w w') ∧ Fr F w w' := by
  have hlt := hp.lt
  have Hp := Lib.hid hp
  obtain ⟨qa, qc, hvq⟩ := hg.1.form
  obtain ⟨ea, ec, hve⟩ := hg.2.form
  dsimp only at hvq hve
  subst hvq; subst hve
  have hQ := hg.1
  obtain ⟨hq0, _, vq0, ve0, hh, _, _⟩ := hp
  obtain ⟨⟨g0, g1, g2, g3⟩, ⟨g4, g5, g6, g7⟩, g8, g9, g10⟩ := peerCells_get hh
  obtain ⟨hfr, hsz, ⟨c0, c1, c2, c3, c4, c5⟩, _⟩ := pst_box (w := w) (s := s) (vq := .slice qa s.queue.length qc) (ve := .slice ea s.early.length ec) _ rfl
  have hg1 := hfr.cell hlt (fun h => h) 1
  rw [g1] at hg1
  have hz : ∀ o, (w.alloc (.cells (pstCells s (.slice qa s.queue.length qc, .slice ea s.early.length ec)).toArray 88)).frozen? ⟨q, o, none⟩ = false := fun o => by rw [hfr.froz hlt (fun h => h)]; simp [World.frozen?, hh]
  have hlW : w.heap.size < (w.alloc (.cells (pstCells s (.slice qa s.queue.length qc, .slice ea s.early.length ec)).toArray 88)).heap.size := by omega
  have hqW : q < (w.alloc (.cells (pstCells s (.slice qa s.queue.length qc, .slice ea s.early.length ec)).toArray 88)).heap.size := by omega
  have hs1 := hs.sent
  have hs2 := hs.acked
  have hs3 := hs.mask
  have hql := hs.ql
  have hs1' := hs1
  unfold u64max at hs1 hs2
  generalize (pstCells s (.slice qa s.queue.length qc, .slice ea s.early.length ec)).toArray = A at *
  have hqne : ¬ One q w.heap.size := by unfold One; omega
  have hd : ¬ (s.sent : Int) < (s.acked : Int) := by omega
  have hd' : decide (s.sent < s.acked) = false := decide_eq_false (by omega)
  have hd2 : ¬ (p.room : Int) < (s.queue.length : Int) := by omega
  have hd2' : decide (p.room < s.queue.length) = false := decide_eq_false (by omega)
  have e1 : IntKind.u64.wrap (s.queue.length : Int) = s.queue.length := u64_in (by omega) (by omega)
  have e2 : IntKind.u64.wrap ((s.sent : Int) - s.acked) = (s.sent : Int) - s.acked := u64_in (by omega) (by omega)
  have hd3 : ((s.queue.length : Int) != (s.sent : Int) - s.acked) = false := by rw [bne_eq_false_iff_eq]; omega
  have hq16 : s.queue.length ≤ 16 := by omega
  have HQ := Lib.hid hQ
  clear h3 g0 g1 g2 g3 g4 g5 g6 g7 g8 g9 g10 hh hsz hQ hg
  go_enter Try.func55, Try.ntmps55
  go_wp2_with fail
  generalize w.alloc (.cells A 88) = W at *
  refine WS.wp_region_seq (Fr No W) [] [(0, true), (1, true), (2, true), (3, true), (4, true), (5, true), (6, true), (7, true), (8, true), (9, true), (10, true), (11, true), (12, true), (13, true), (14, true), (15, true), (16, true), (17, true), (18, true), (19, true), (20, true), (21, true), (22, true), (23, true), (24, true), (25, true), (26, true)] (by kernel_rfl) (by kernel_rfl) (fun c d v a w h => by cases d <;> exact h) ((Fr.refl _ _).drew) ?_
  simp only [WS.pick, List.getElem?_toArray, List.getElem?_cons_succ, List.getElem?_cons_zero]
  repeat (first | (refine WS.wpL_skip rfl ?_; try simp only [Act.put, List.setIfInBounds_toArray, List.set_cons_zero, List.set_cons_succ]) | (refine WS.wpL_q ?_ rfl ?_ ?_; rotate_left 1; (focus (intro w' hw'; have hrr' := hw'.rules; obtain ⟨hrc', _⟩ := hrr'; clear hw'; go_simp; (try with_reducible rfl); done)); try simp only [Act.put, List.setIfInBounds_toArray, List.set_cons_zero, List.set_cons_succ]))
  refine WS.wpL_nil ?_
  go_wp2_with fail
  have hqlt := hlW
  have hqS := hqne
  refine WS.wp_region_seq (Fr (One q) W) [24] [(0, true), (1, true), (2, true), (3, true), (4, true), (5, true), (6, true), (7, true), (8, true), (9, true), (10, true), (11, true), (12, false), (13, true), (14, true), (15, false), (16, true), (17, true), (18, false), (19, true), (20, true), (21, false), (22, true), (23, true), (24, false)] (by kernel_rfl) (by kernel_rfl) (fun c d v a w h => by cases d <;> exact h) ((Fr.refl _ _).drew.drew) ?_
  simp only [WS.pick, List.getElem?_toArray, List.getElem?_cons_succ, List.getElem?_cons_zero]
  repeat (first | (refine WS.wpL_skip rfl ?_; try simp only [Act.put, List.setIfInBounds_toArray, List.set_cons_zero, List.set_cons_succ]) | (refine WS.wpL_q ?_ rfl ?_ ?_; rotate_left 1; (focus (intro w' hw'; have hrc' := Fr.rules1 hw' hqlt hqS; clear hw'; go_simp; (try with_reducible rfl); done)); try simp only [Act.put, List.setIfInBounds_toArray, List.set_cons_zero, List.set_cons_succ]))
  refine WS.wpL_e rfl (fun K hK => ?_)
  go_simp
  refine (f_copies B G W.drew.drew _ _ (HQ.out.fr0 hfr.drew.drew) (by have := hfr.size; show B ≤ W.heap.size; omega) (by omega)).mono ?_
  rintro en w1 ⟨v1, rfl, hq1, hf1⟩
  have hf1' : Fr No W w1 := hf1.ofDrew.ofDrew
  obtain ⟨a1, c1', rfl⟩ := hq1.form
  refine hK _ _ (fun _ => hf1'.mono (fun _ _ h => h.elim)) ?_
  clear hK K
  try simp only [Act.put, List.setIfInBounds_toArray, List.set_cons_zero, List.set_cons_succ]
  repeat (first | (refine WS.wpL_skip rfl ?_; try simp only [Act.put, List.setIfInBounds_toArray, List.set_cons_zero, List.set_cons_succ]) | (refine WS.wpL_q ?_ rfl ?_ ?_; rotate_left 1; (focus (intro w' hw'; have hrc' := Fr.rules1 hw' hqlt hqS; clear hw'; go_simp; (try with_reducible rfl); done)); try simp only [Act.put, List.setIfInBounds_toArray, List.set_cons_zero, List.set_cons_succ]))
  have hz1 : ∀ o, w1.frozen? ⟨q, o, none⟩ = false := fun o => by rw [hf1'.froz hqW (fun h => h)]; exact hz o
  obtain ⟨vq1, ve1, _, _, x3, x4, x5, x6, _, _⟩ := (Hp.out.fr (hfr.then0 hf1') FreeT.no (fun _ _ h => h)).cells
  refine WS.wpL_e rfl (fun K hK => ?_)
  go_simp
  have hs1 : Fr (One q) W (w1.setCell ⟨q, 3, none⟩ (.int .u64 s.sent)) := (hf1'.mono (fun _ _ h => h.elim)).setCell _ _ (.inr rfl)
  refine hK _ _ (fun _ => hs1) ?_
  clear hK K
  try simp only [Act.put, List.setIfInBounds_toArray, List.set_cons_zero, List.set_cons_succ]
  repeat (first | (refine WS.wpL_skip rfl ?_; try simp only [Act.put, List.setIfInBounds_toArray, List.set_cons_zero, List.set_cons_succ]) | (refine WS.wpL_q ?_ rfl ?_ ?_; rotate_left 1; (focus (intro w' hw'; have hrc' := Fr.rules1 hw' hqlt hqS; clear hw'; go_simp; (try with_reducible rfl); done)); try simp only [Act.put, List.setIfInBounds_toArray, List.set_cons_zero, List.set_cons_succ]))
  refine WS.wpL_e rfl (fun K hK => ?_)
  go_simp
  have hs2 : Fr (One q) W ((w1.setCell ⟨q, 3, none⟩ (.int .u64 s.sent)).setCell ⟨q, 4, none⟩ (.int .u64 s.acked)) := hs1.setCell _ _ (.inr rfl)
  refine hK _ _ (fun _ => hs2) ?_
  clear hK K
  try simp only [Act.put, List.setIfInBounds_toArray, List.set_cons_zero, List.set_cons_succ]
  repeat (first | (refine WS.wpL_skip rfl ?_; try simp only [Act.put, List.setIfInBounds_toArray, List.set_cons_zero, List.set_cons_succ]) | (refine WS.wpL_q ?_ rfl ?_ ?_; rotate_left 1; (focus (intro w' hw'; have hrc' := Fr.rules1 hw' hqlt hqS; clear hw'; go_simp; (try with_reducible rfl); done)); try simp only [Act.put, List.setIfInBounds_toArray, List.set_cons_zero, List.set_cons_succ]))
  refine WS.wpL_e rfl (fun K hK => ?_)
  go_simp
  have hs3 : Fr (One q) W (((w1.setCell ⟨q, 3, none⟩ (.int .u64 s.sent)).setCell ⟨q, 4, none⟩ (.int .u64 s.acked)).setCell ⟨q, 6, none⟩ (.int .u64 s.mask)) := hs2.setCell _ _ (.inr rfl)
  refine hK _ _ (fun _ => hs3) ?_
  clear hK K
  try simp only [Act.put, List.setIfInBounds_toArray, List.set_cons_zero, List.set_cons_succ]
  repeat (first | (refine WS.wpL_skip rfl ?_; try simp only [Act.put, List.setIfInBounds_toArray, List.set_cons_zero, List.set_cons_succ]) | (refine WS.wpL_q ?_ rfl ?_ ?_; rotate_left 1; (focus (intro w' hw'; have hrc' := Fr.rules1 hw' hqlt hqS; clear hw'; go_simp; (try with_reducible rfl); done)); try simp only [Act.put, List.setIfInBounds_toArray, List.set_cons_zero, List.set_cons_succ]))
  refine WS.wpL_e rfl (fun K hK => ?_)
  go_simp
  refine hK _ _ (fun h => absurd (by decide) h) ?_
  clear hK K
  try simp only [Act.put, List.setIfInBounds_toArray, List.set_cons_zero, List.set_cons_succ]
  refine WS.wpL_nil ?_
  have hs4 : Fr (One q) W ((((w1.setCell ⟨q, 3, none⟩ (.int .u64 s.sent)).setCell ⟨q, 4, none⟩ (.int .u64 s.acked)).setCell ⟨q, 6, none⟩ (.int .u64 s.mask)).setCell ⟨q, 5, none⟩ (.slice a1 s.queue.length c1')) := hs3.setCell _ _ (.inr rfl)
  obtain ⟨hp4, hf4⟩ := PeerAt.lay (s := s) Hp.out hR (hfr.then0 hf1') hq1 (by show w.heap.size ≤ W.heap.size; exact hfr.size) (by have := hfr.size; show B ≤ W.heap.size; omega) rfl
  generalize ((((w1.setCell ⟨q, 3, none⟩ (.int .u64 s.sent)).setCell ⟨q, 4, none⟩ (.int .u64 s.acked)).setCell ⟨q, 6, none⟩ (.int .u64 s.mask)).setCell ⟨q, 5, none⟩ (.slice a1 s.queue.length c1')) = w4 at *
  have k1 := hs4.cell hlW hqne 1
  have k3 := hs4.cell hlW hqne 3
  rw [c1] at k1
  rw [c3] at k3
  have hlt4 : w.heap.size < w4.heap.size := Nat.lt_of_lt_of_le hlW hs4.size
  have hq4 := hp4.lt
  obtain ⟨vq4, ve4, hQ4, hE4, m3, m4, m5, m6, m9, m10⟩ := hp4.cells
  have hQ4' : QueueG B (grow F w w4) w4 vq4 s.queue := hQ4
  have m3' : w4.cell? ⟨q, 3, none⟩ = some (.int .u64 s.sent) := m3
  have HQ4 := Lib.hid hQ4'
  clear hQ4 hE4 m3 m4 m6 m9 m10 hQ4' hs1 hs2 hs3 hs4 hq1 hf1 hf1' x3 x4 x5 x6 hz1 hz c0 c1 c2 c3 c4 c5 hg1 hlW hqW hqlt hd hd' hd2 hd2' hd3 e1 e2
  cases hb : beyondB s.sent s.acked s.mask with
  | true =>
    have Hb := Lib.hid hb
    clear hb
    go_wp2_with (go_at_call 65; refine (f_beyond w4 q s.sent s.acked s.mask m3' h1 hs1' hs3).mono ?_; rintro en w5 ⟨rfl, hf5⟩; rw [Hb.out])
    go_ret
    exact ⟨ret_b (by rw [Hb.out]; rfl), (hp4.fr hf5 FreeT.no (fun _ _ h => h)).mono (grow_mono' hf5), hf4.then0 hf5⟩
  | false =>
    have Hb := Lib.hid hb
    clear hb
    go_wp2_with (first | (go_at_call 65; refine (f_beyond w4 q s.sent s.acked s.mask m3' h1 hs1' hs3).mono ?_; rintro en w5 ⟨rfl, hf5⟩; rw [Hb.out]; have hrc5 := hf5.rules) | (go_at_call 79; refine (f_contains B _ w5 vq4 s.queue (HQ4.out.fr0 hf5) (by omega)).mono ?_; rintro en w' ⟨rfl, rfl⟩))
    go_ret
    exact ⟨ret_b (by rw [Hb.out]; simp), (hp4.fr hf5 FreeT.no (fun _ _ h => h)).mono (grow_mono' hf5), hf4.then0 hf5⟩

theorem f_lay (B : Nat) (G : Nat → Prop) (w : World) (q : Nat) (p : PeerD) (F : Nat → Prop) (s : PStD) (vq ve : Value) (hp : PeerAt B w q p F) (hR : Reg B w F) (hB : B ≤ w.heap.size) (hg : PstG B G w (vq, ve) s) (hs : s.Wf) (hroom : p.room ≤ 16) :
    Calls Try.prog 55 #[.pointer (some ⟨q, 0, none⟩), .agg (pstCells s (vq, ve)).toArray] w (LayPost B w q p F s) := by
  by_cases h : s.acked ≤ s.sent ∧ s.queue.length ≤ p.room ∧ s.queue.length = s.sent - s.acked
  · obtain ⟨h1, h2, h3⟩ := h
    refine (lay_yes B G w q p F s vq ve hp hR hB hg hs hroom h1 h2 h3).mono ?_
    rintro e w' ⟨rfl, h4, h5⟩
    refine ⟨ret_b ?_, h5, fun _ => h4⟩
    unfold PStD.layB
    rw [decide_eq_true h1, decide_eq_true h2, decide_eq_true h3]; rfl
  · obtain ⟨qa, qc, hvq⟩ := hg.1.form
    obtain ⟨ea, ec, hve⟩ := hg.2.form
    dsimp only at hvq hve
    subst hvq; subst hve
    have hno : s.layB p.room = false := by
      unfold PStD.layB
      by_cases h1 : s.acked ≤ s.sent
      · by_cases h2 : s.queue.length ≤ p.room
        · rw [decide_eq_false (fun h3 => h ⟨h1, h2, h3⟩)]; simp
        · rw [decide_eq_false h2]; simp
      · rw [decide_eq_false h1]; rfl
    refine (lay_no B w q p F s qa ea qc ec hp hs hroom ?_).mono ?_
    · by_cases h1 : s.acked ≤ s.sent
      · by_cases h2 : s.queue.length ≤ p.room
        · exact .inr (.inr ⟨h1, h2, fun h3 => h ⟨h1, h2, h3⟩⟩)
        · exact .inr (.inl ⟨h1, by omega⟩)
      · exact .inl (by omega)
    · rintro e w' ⟨rfl, h1⟩
      exact ⟨ret_b hno.symm, h1.mono (fun _ _ h => h.elim), fun h => by rw [hno] at h; cases h⟩
end Go.Proofs.Ytplgmcpglbpghaa
