/- Part 25 of the proof: Yo1, Yopen. -/
import Derived.Test.YtplgmcpglbpghaaM20
import Derived.Test.YtplgmcpglbpghaaM24
import Derived.SizedLaws
import Derived.ChangeArms
import Derived.ChangeSlices
import Derived.Deep.Slices
set_option linter.all false
set_option linter.unusedVariables false
set_option linter.unusedSimpArgs false

/- XonceOrder: the loop. -/
namespace Go.Proofs.Ytplgmcpglbpghaa
open Go.RowKit

def wfitsI (h q w : Int) : Bool := decide (1 ≤ h ∧ h ≤ 16 ∧ 1 ≤ q ∧ q ≤ 16 ∧ 1 ≤ w ∧ w ≤ q)
set_option maxRecDepth 100000 in
set_option maxHeartbeats 1000000 in
theorem f_wfits (w : World) (h q d : Int) : Calls Try.prog 12 #[.int .i64 h, .int .i64 q, .int .i64 d] w fun e w' => e = .returned (.bool (wfitsI h q d)) ∧ w = w' := by
  unfold wfitsI
  have ex : ∀ {p : Prop} [Decidable p], ¬ p → decide p = false := fun h => decide_eq_false h
  by_cases hf : 1 ≤ h ∧ h ≤ 16 ∧ 1 ≤ q ∧ q ≤ 16 ∧ 1 ≤ d ∧ d ≤ q
  · rw [decide_eq_true hf]
    obtain ⟨h1, h2, h4, h5, h6, h7⟩ := hf
    clear ex
    go_enter Try.func12, Try.ntmps12
    go_wp2
    go_ret
    exact ⟨rfl, rfl⟩
  · rw [decide_eq_false hf]
    have Hf := Lib.hid hf
    clear hf
    by_cases h1 : 1 ≤ h
    · by_cases h2 : h ≤ 16
      · by_cases h4 : 1 ≤ q
        · by_cases h5 : q ≤ 16
          · by_cases h6 : 1 ≤ d
            · have h7 : ¬ d ≤ q := fun h7 => Hf.out ⟨h1, h2, h4, h5, h6, h7⟩
              have d7 := ex h7
              clear ex
              go_enter Try.func12, Try.ntmps12
              go_wp2
              go_ret
              exact ⟨rfl, rfl⟩
            · have d6 := ex h6
              clear ex
              go_enter Try.func12, Try.ntmps12
              go_wp2
              go_ret
              exact ⟨rfl, rfl⟩
          · have d5 := ex h5
            clear ex
            go_enter Try.func12, Try.ntmps12
            go_wp2
            go_ret
            exact ⟨rfl, rfl⟩
        · have d4 := ex h4
          clear ex
          go_enter Try.func12, Try.ntmps12
          go_wp2
          go_ret
          exact ⟨rfl, rfl⟩
      · have d2 := ex h2
        clear ex
        go_enter Try.func12, Try.ntmps12
        go_wp2
        go_ret
        exact ⟨rfl, rfl⟩
    · have d1 := ex h1
      clear ex
      go_enter Try.func12, Try.ntmps12
      go_wp2
      go_ret
      exact ⟨rfl, rfl⟩

/-- The acts that came in. -/
def ActsAt (B : Nat) (w : World) (v : Value) (l : List ActD) : Prop := ∃ vs, All2 (Bytes B w) vs (l.map (·.body)) ∧ SlG (fun b => b < B) w v l.length 6 (cellsOf actCells l vs)
theorem actCells_len (x : ActD) (v : Value) : (actCells x v).length = 6 := rfl
theorem ActsAt.form {B : Nat} {w : World} {v : Value} {l : List ActD} (h : ActsAt B w v l) : ∃ a c, v = .slice a l.length c := let ⟨_, _, h⟩ := h; h.form
theorem ActsAt.fr {B : Nat} {S : Nat → Prop} {w w' : World} {v : Value} {l : List ActD} (h : ActsAt B w v l) (hf : Fr S w w') (hS : FreeT [5] B w S) : ActsAt B w' v l :=
  let ⟨vs, h1, h2⟩ := h
  ⟨vs, h1.mono fun _ _ h => h.fr hf hS, h2.fr hf (fun k hk hs => hS k hs (.inl hk))⟩
theorem ActsAt.at {B : Nat} {w : World} {a : Option Addr} {c : Nat} {q : List ActD} (h : ActsAt B w (.slice a q.length c) q) {k : Nat} {x : ActD} (hl : q[k]? = some x) :
    ∃ b o va vc, a = some ⟨b, o, none⟩ ∧ b < B ∧ w.rangeAt b (o + k * 6) (actCells x (.slice va x.body.length vc)) ∧ Bytes B w (.slice va x.body.length vc) x.body := by
  obtain ⟨vs, hvs, hcl, a', c', he, _, _, hne⟩ := h
  cases he
  obtain ⟨v, hv, hb⟩ := hvs.get (show (q.map (·.body))[k]? = some x.body by simp [hl])
  have hk := (List.getElem?_eq_some_iff.1 hl).1
  obtain ⟨b, o, rfl, hg, hr⟩ := hne (fun h => by rw [h] at hcl; simp at hcl; omega)
  obtain ⟨va, vc, rfl⟩ := hb.form
  refine ⟨b, o, va, vc, rfl, hg, fun j v hj => ?_, hb⟩
  have hj6 : j < 6 := by have := (List.getElem?_eq_some_iff.1 hj).1; rw [actCells_len] at this; exact this
  have := hr (k * 6 + j) v (by rw [cellsOf_get actCells_len q vs k x _ hl hv j hj6]; exact hj)
  rwa [← Nat.add_assoc] at this

theorem WD.come_took (d : WD) (x : MailD) : (d.come x).took = d.took := by unfold WD.come; dsimp only; split <;> rfl
theorem WD.act_took (d : WD) (x : ActD) (a b : Nat) : ((d.act x).took a b).length ≤ (d.took a b).length + 1 := by
  unfold WD.act
  dsimp only
  split
  · split
    · omega
    · unfold WD.send
      split
      · omega
      · dsimp only
        split
        · show (upd d.took _ _ _ a b).length ≤ _
          by_cases h : a = aroundD x.a d.hosts ∧ b = aroundD x.b d.hosts
          · obtain ⟨rfl, rfl⟩ := h
            rw [upd_same]; simp
          · rw [upd_ne _ _ _ _ h]; omega
        · omega
  · split
    · split
      · omega
      · rename_i m hm
        have h1 : (if x.kind = 3 ∨ x.keep = false then d.out (aroundD x.n d.bag.length) else d).took = d.took := by split <;> rfl
        split
        · rw [WD.come_took, h1]; omega
        · rw [h1]; omega
    · split
      · show (d.took a b).length ≤ _; omega
      · omega

def OrderRel (B : Nat) (w : World) (q : Nat) (wr : World) (k : Nat) : Prop := ∃ d F, WorldAt B wr q d F ∧ Reg B wr F ∧ (∀ b, F b → w.heap.size ≤ b) ∧ Fr No w wr ∧ d.Ok ∧ ∀ a b, (d.took a b).length ≤ k

theorem WorldAt.bag {B : Nat} {w : World} {q : Nat} {d : WD} {F : Nat → Prop} (h : WorldAt B w q d F) : q < w.heap.size ∧ w.cell? ⟨q, 6, none⟩ = some (.bool false) ∧ ∃ na nc, w.cell? ⟨q, 3, none⟩ = some (.slice na d.bag.length nc) := by
  obtain ⟨own, v, hX⟩ := h
  obtain ⟨hq, ⟨_, _, _, h3, _, _, h6⟩, _⟩ := hX.cells
  obtain ⟨na, nc, hvb⟩ := (hX.bag (fun h => h)).1.form
  rw [hvb] at h3
  exact ⟨hq, h6, na, nc, h3⟩

set_option maxRecDepth 100000 in
set_option maxHeartbeats 4000000 in
theorem f_order (w : World) (hosts queue window : Int) (v : Value) (l : List ActD) (hv : ActsAt w.heap.size w v l) (hl : l.length ≤ 4398046511103) :
    Calls Try.prog 3 #[.int .i64 hosts, .int .i64 queue, .int .i64 window, v] w fun e w' => e = .returned (.bool true) ∧ Fr No w w' := by
  obtain ⟨va, vc, rfl⟩ := hv.form
  have Hv := Lib.hid hv
  clear hv
  have hfits := f_wfits w hosts queue window
  cases hf : wfitsI hosts queue window with
  | false =>
    rw [hf] at hfits
    have Hfits := Lib.hid hfits
    clear hfits hf
    go_enter Try.func3, Try.ntmps3
    go_wp2_with (go_at_call 12; refine Hfits.out.mono ?_; rintro en w' ⟨rfl, rfl⟩)
    go_ret
    exact ⟨rfl, Fr.refl _ _⟩
  | true =>
    rw [hf] at hfits
    obtain ⟨h1, h2, h3, h4, h5, h6⟩ := of_decide_eq_true hf
    obtain ⟨H, rfl⟩ : ∃ H : Nat, hosts = H := ⟨hosts.toNat, by omega⟩
    obtain ⟨Q, rfl⟩ : ∃ Q : Nat, queue = Q := ⟨queue.toNat, by omega⟩
    obtain ⟨D, rfl⟩ : ∃ D : Nat, window = D := ⟨window.toNat, by omega⟩
    have hbegun := f_begun w.heap.size w H Q D (Nat.le_refl _) (by omega) (by omega) (by omega) (by omega) (by omega) (by omega)
    have hok0 := WD.begin_ok (hosts := H) (queue := Q) (window := D) (by omega) (by omega) (by omega) (by omega) (by omega) (by omega)
    have Hfits := Lib.hid hfits
    have Hbegun := Lib.hid hbegun
    clear hfits hf hbegun
    go_enter Try.func3, Try.ntmps3
    go_wp2_with (first | (go_at_call 12; refine Hfits.out.mono ?_; rintro en w' ⟨rfl, rfl⟩) | (go_at_call 13; refine Hbegun.out.mono ?_; rintro en w1 ⟨q, F0, rfl, hW0, hR0, hF0, hf0⟩))
    go_loopw [10] (fun i wr => ∃ k : Nat, k ≤ l.length ∧ i = .int .i64 k ∧ OrderRel w.heap.size w q wr k) (fun i _ => 4398046511104 - (intOf i).toNat)
    case atStart => exact ⟨0, Nat.zero_le _, rfl, WD.begin H Q D, F0, hW0, hR0, hF0, hf0, hok0, fun a b => by simp [WD.begin]⟩
    case round =>
      obtain ⟨k, hk, rfl, d, F, hW, hR, hFb, hfw, hok, htk⟩ := hrel
      obtain ⟨hqlt, hc6, na, nc, hc3⟩ := hW.bag
      have hBr : w.heap.size ≤ wr.heap.size := hfw.size
      have HW := Lib.hid hW
      clear hW
      by_cases hlt : k < l.length
      · have hk1 : (k : Int) < (l.length : Int) := by omega
        have hk2 : decide (k < l.length) = true := decide_eq_true hlt
        by_cases hbg : d.bag.length < 3000
        · have hb1 : (d.bag.length : Int) < 3000 := by omega
          have hb2 : decide ((d.bag.length : Int) < 3000) = true := decide_eq_true hb1
          obtain ⟨x, hx⟩ : ∃ x, l[k]? = some x := ⟨_, List.getElem?_eq_getElem hlt⟩
          obtain ⟨ab, ao, ba, bc, rfl, habB, hrng, hbB⟩ := Hv.out.at hx
          have hrng' := hfw.range (fun h => h) hrng
          have hld : (Instr.loadAt 35 (.pointer (some ⟨ab, ao + k * 6, none⟩))).run Try.prog wr = .ok (.agg (actCells x (.slice ba x.body.length bc)).toArray) wr :=
            run_loadAt_mid wr ab (ao + k * 6) 35 _ _ hrng' Try.underlying35 rfl (by kernel_rfl)
          have hact := f_act w.heap.size wr q d F x ba bc HW.out hR hBr hok (hbB.fr hfw FreeT.no) (by omega) (fun a b => Nat.le_trans (htk a b) (by omega))
          have Hact := Lib.hid hact
          clear hact hrng hrng' hx
          go_wp2_with (first | (refine wpList_ld rfl 35 (.tmp 39) rfl rfl hld ?_) | (go_at_call 14; refine Hact.out.mono ?_; rintro en w2 ⟨rfl, F2, hW2, hR2, hf2, hg2⟩; obtain ⟨hq2, hd6, _⟩ := hW2.bag))
          refine ⟨⟨k + 1, by omega, by go_num, d.act x, F2, hW2, hR2, fun b hb => ?_, hfw.trans' hf2 (fun x hx h => by have := hFb x h; omega), hok.act x, fun a b => Nat.le_trans (d.act_took x a b) (by have := htk a b; omega)⟩, by simp [intOf]; omega⟩
          rcases hg2 b hb with h | h
          · exact hFb b h
          · omega
        · have hb1 : ¬ (d.bag.length : Int) < 3000 := by omega
          have hb2 : decide ((d.bag.length : Int) < 3000) = false := decide_eq_false hb1
          go_wp2_with fail
          go_ret
          exact ⟨rfl, hfw⟩
      · have hk1 : ¬ (k : Int) < (l.length : Int) := by omega
        have hk2 : decide (k < l.length) = false := decide_eq_false hlt
        go_wp2_with fail
        go_ret
        exact ⟨rfl, hfw⟩
end Go.Proofs.Ytplgmcpglbpghaa

/- What came in: a list of acts is opened. -/
namespace Go.Proofs.Ytplgmcpglbpghaa
open Go.RowKit Go.ChangeShapes Go.WideShapes Go.Deep

theorem cells_act : Try.prog.cellsOf 35 = 6 := by kernel_rfl
theorem cells_int : Try.prog.cellsOf 3 = 1 := by kernel_rfl
theorem cells_bool : Try.prog.cellsOf 4 = 1 := by kernel_rfl
theorem cells_bytes : Try.prog.cellsOf 33 = 1 := by kernel_rfl
theorem cells_u8 : Try.prog.cellsOf 5 = 1 := by kernel_rfl
theorem bytes_act : Try.prog.bytesOf 35 = 64 := by kernel_rfl
theorem bytes_u8 : Try.prog.bytesOf 5 = 1 := by kernel_rfl

theorem weightsAll_mem {H : Type} {P : Program} {e : TypeId} : ∀ {ds : List (DataW H)} {d : DataW H}, d ∈ ds → ∀ n ∈ d.weights P e, n ∈ DataW.weightsAll P e ds
  | d0 :: ds, d, hd, n, hn => by
    simp only [DataW.weightsAll, List.mem_append]
    rcases List.mem_cons.1 hd with rfl | hd
    · exact .inl hn
    · exact .inr (weightsAll_mem hd n hn)
  | [], _, hd, _, _ => by simp at hd

section
variable {H : Type} {enc : TypeId × Value → H} {W : World} {base fuel : Nat} {held : Bool} {x : DataW H × List MemPlace}

theorem open_bytes {c : Value} (h : DataW.trod enc Try.prog W base (fun _ => true) held fuel 33 [c] = some x)
    (hw : ∀ n ∈ x.1.weights Try.prog 33, n ≤ reachBytes) : ∃ l : List Int, Bytes W.heap.size W c l := by
  rcases open_ints Try.underlying33 Try.underlying5 cells_u8 h with ⟨hcs, hx⟩ | ⟨a, len, cap, zs, hcs, _, hl, hm, hz, hx, hcell, hwz⟩
  · simp only [List.cons.injEq, and_true] at hcs
    subst hcs
    exact ⟨[], Bytes.nil _ _⟩
  · simp only [List.cons.injEq, and_true] at hcs
    subst hcs
    simp only [if_true] at hz
    subst hx
    have hb := hw (((lits (H := H) .u8 (zs.take len)).length + (lits (H := H) .u8 (zs.drop len)).length) * Try.prog.bytesOf 5) (by simp [DataW.weights, Try.underlying33])
    rw [bytes_u8] at hb
    simp only [lits, List.length_map, List.length_take, List.length_drop, reachBytes] at hb
    have hlen : (zs.take len).length = len := by rw [List.length_take]; omega
    refine ⟨zs.take len, by rw [hlen]; omega, by simp [u8s], some a, cap, by rw [hlen], by omega, hm, fun hne => ?_⟩
    have h0 : 0 < len := by
      rcases Nat.eq_zero_or_pos len with h0 | h0
      · subst h0; simp [u8s] at hne
      · exact h0
    obtain ⟨b, off, spot⟩ := a
    have hc0 := hcell 0 (by omega)
    have hspot : spot = none := by simpa [Addr.add] using World.cell?_spot hc0
    subst hspot
    have hr : W.rangeAt b off (u8s (zs.take len)) := fun j v hv => by
      simp only [u8s, List.getElem?_map, Option.map_eq_some_iff] at hv
      obtain ⟨y, hy, rfl⟩ := hv
      have hj : j < len := by
        have := (List.getElem?_eq_some_iff.1 hy).1
        omega
      have hc := hcell j (by omega)
      rw [Addr.add_mid] at hc
      rw [hc]
      rw [List.getElem?_take, if_pos hj] at hy
      rw [List.getD_eq_getElem?_getD, hy]
      rfl
    exact ⟨b, off, rfl, .inl (lt_of_range hr hne), hr⟩

set_option maxRecDepth 100000 in
theorem open_act {cs : List Value} (h : DataW.trod enc Try.prog W base (fun _ => true) held fuel 35 cs = some x)
    (hw : ∀ n ∈ x.1.weights Try.prog 35, n ≤ reachBytes) : ∃ (d : ActD) (v : Value), cs = actCells d v ∧ Bytes W.heap.size W v d.body := by
  obtain ⟨xs, n, _, rfl, hl, hlen, hf⟩ := DataW.trod_struct Try.underlying35 h
  rw [cells_act] at hl
  match cs, hl with
  | [c0, c1, c2, c3, c4, c5], _ =>
  match xs, hlen with
  | [x0, x1, x2, x3, x4, x5], _ =>
  have f0 : DataW.trod enc Try.prog W base (fun _ => true) held n 3 [c0] = some x0 := by simpa [cells_int] using hf 0 _ rfl
  have f1 : DataW.trod enc Try.prog W base (fun _ => true) held n 3 [c1] = some x1 := by simpa [cells_int] using hf 1 _ rfl
  have f2 : DataW.trod enc Try.prog W base (fun _ => true) held n 3 [c2] = some x2 := by simpa [cells_int] using hf 2 _ rfl
  have f3 : DataW.trod enc Try.prog W base (fun _ => true) held n 3 [c3] = some x3 := by simpa [cells_int] using hf 3 _ rfl
  have f4 : DataW.trod enc Try.prog W base (fun _ => true) held n 4 [c4] = some x4 := by simpa [cells_bool] using hf 4 _ rfl
  have f5 : DataW.trod enc Try.prog W base (fun _ => true) held n 33 [c5] = some x5 := by simpa [cells_bytes] using hf 5 _ rfl
  obtain ⟨y0, e0, _, _⟩ := DataW.trod_int Try.underlying3 f0
  obtain ⟨y1, e1, _, _⟩ := DataW.trod_int Try.underlying3 f1
  obtain ⟨y2, e2, _, _⟩ := DataW.trod_int Try.underlying3 f2
  obtain ⟨y3, e3, _, _⟩ := DataW.trod_int Try.underlying3 f3
  obtain ⟨y4, e4, _⟩ := DataW.trod_bool Try.underlying4 f4
  simp only [List.cons.injEq, and_true] at e0 e1 e2 e3 e4
  subst e0 e1 e2 e3 e4
  obtain ⟨l, hb⟩ := open_bytes f5 (fun k hk => hw k (by
    simp only [DataW.weights, Try.underlying35]
    exact DataW.weights_mem_each (j := 5) (t := 33) (d := x5.1) rfl rfl k hk))
  exact ⟨⟨y0, y1, y2, y3, y4, l⟩, c5, rfl, hb⟩

instance : Inhabited (ActD × Value) := ⟨(⟨0, 0, 0, 0, false, []⟩, .int .i64 0)⟩

theorem all2_map {α β γ : Type} {R : α → β → Prop} (g : γ → α) (h : γ → β) : ∀ r : List γ, (∀ i ∈ r, R (g i) (h i)) → All2 R (r.map g) (r.map h)
  | [], _ => trivial
  | i :: r, hr => ⟨hr i (by simp), all2_map g h r fun j hj => hr j (by simp [hj])⟩

theorem cellsOf_map {α γ : Type} (enc : α → Value → List Value) (g : γ → α) (h : γ → Value) : ∀ r : List γ, cellsOf enc (r.map g) (r.map h) = r.flatMap fun i => enc (g i) (h i)
  | [] => rfl
  | i :: r => by simp only [List.map_cons, cellsOf, List.flatMap_cons]; rw [cellsOf_map enc g h r]

theorem range_glue {W : World} {b o : Nat} {c1 c2 : List Value} (h1 : W.rangeAt b o c1) (h2 : W.rangeAt b (o + c1.length) c2) : W.rangeAt b o (c1 ++ c2) := fun j v hv => by
  by_cases hj : j < c1.length
  · rw [List.getElem?_append_left hj] at hv
    exact h1 j v hv
  · rw [List.getElem?_append_right (by omega)] at hv
    have := h2 (j - c1.length) v hv
    rwa [show o + c1.length + (j - c1.length) = o + j by omega] at this

theorem range_flat {W : World} {b o : Nat} (F : Nat → List Value) (hF : ∀ i, (F i).length = 6) : ∀ n, (∀ i, i < n → W.rangeAt b (o + i * 6) (F i)) → ((List.range n).flatMap F).length = n * 6 ∧ W.rangeAt b o ((List.range n).flatMap F)
  | 0, _ => ⟨rfl, fun j v hv => by simp at hv⟩
  | n + 1, h => by
    obtain ⟨hl, hr⟩ := range_flat F hF n fun i hi => h i (by omega)
    rw [List.range_succ, List.flatMap_append]
    have e1 : [n].flatMap F = F n := by simp
    rw [e1]
    refine ⟨by rw [List.length_append, hl, hF]; omega, range_glue hr ?_⟩
    rw [hl]
    exact h n (by omega)

theorem open_acts {v : Value} (h : DataW.trod enc Try.prog W base (fun _ => true) held fuel 22 [v] = some x)
    (hw : ∀ n ∈ x.1.weights Try.prog 22, n ≤ reachBytes) : ∃ l : List ActD, ActsAt W.heap.size W v l ∧ l.length ≤ 2199023255551 := by
  rcases open_slice Try.underlying22 h with ⟨hcs, hx⟩ | ⟨a, len, cap, m, n, D, Pl, hcs, _, hl, hm, hmm, hx, hel⟩
  · simp only [List.cons.injEq, and_true] at hcs
    subst hcs
    exact ⟨[], ⟨[], trivial, rfl, none, 0, rfl, Nat.le_refl _, by simp, fun h => absurd rfl h⟩, by simp⟩
  · simp only [List.cons.injEq, and_true] at hcs
    subst hcs
    simp only [if_true] at hmm
    subst hmm
    subst hx
    rw [cells_act] at hel
    have hb := hw ((((List.range len).map D).length + ((List.range (m - len)).map fun j => D (len + j)).length) * Try.prog.bytesOf 35) (by simp [DataW.weights, Try.underlying22])
    rw [bytes_act] at hb
    simp only [List.length_map, List.length_range, reachBytes] at hb
    obtain ⟨f, hf⟩ := choose_lt (α := ActD × Value) (n := len) (p := fun i y => W.cells? base (a.add (i * 6)) 6 = some (actCells y.1 y.2) ∧ Bytes W.heap.size W y.2 y.1.body) (fun i hi => by
      obtain ⟨cs', h1, h2⟩ := hel i (by omega)
      obtain ⟨d, v, rfl, hv⟩ := open_act h2 (fun k hk => hw k (by
        simp only [DataW.weights, Try.underlying22, List.mem_cons, List.mem_append]
        exact .inr (.inl (weightsAll_mem (List.mem_map.2 ⟨i, List.mem_range.2 hi, rfl⟩) k hk))))
      exact ⟨(d, v), h1, hv⟩)
    refine ⟨(List.range len).map fun i => (f i).1, ⟨(List.range len).map fun i => (f i).2, ?_, ?_⟩, by rw [List.length_map, List.length_range]; omega⟩
    · rw [List.map_map]
      exact all2_map _ _ _ fun i hi => (hf i (List.mem_range.1 hi)).2
    · rw [cellsOf_map, List.length_map, List.length_range]
      rcases Nat.eq_zero_or_pos len with h0 | h0
      · subst h0
        exact ⟨rfl, some a, m, rfl, by omega, hm, fun h => absurd rfl h⟩
      · obtain ⟨b, off, spot⟩ := a
        have hspot : spot = none := by
          have := (World.cells?_some (hf 0 h0).1).2.2 0 (by omega)
          simpa [Addr.add] using World.cell?_spot (this.trans (show (actCells (f 0).1 (f 0).2)[0]? = some _ from rfl))
        subst hspot
        obtain ⟨hlen, hr⟩ := range_flat (W := W) (b := b) (o := off) (fun i => actCells (f i).1 (f i).2) (fun _ => rfl) len (fun i hi j v hv => by
          have hj : j < 6 := (List.getElem?_eq_some_iff.1 hv).1
          have := (World.cells?_some (hf i hi).1).2.2 j hj
          rw [Addr.add_mid, Addr.add_mid] at this
          rw [this]
          exact hv)
        refine ⟨hlen, some ⟨b, off, none⟩, m, rfl, by omega, hm, fun hne => ⟨b, off, rfl, lt_of_range hr hne, hr⟩⟩
end
end Go.Proofs.Ytplgmcpglbpghaa
