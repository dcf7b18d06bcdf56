/- Part 13 of the proof: Xg2, Xn1. -/
import Derived.Test.YtplgmcpglbpghaaM12
set_option linter.all false
set_option linter.unusedVariables false
set_option linter.unusedSimpArgs false

/- (*End).State. -/
namespace Go.Proofs.Ytplgmcpglbpghaa
open Go.RowKit

/-- Cells of a list of things side by side with a list of values. -/
def rowOf {α β : Type} (enc : α → β → List Value) : List α → List β → List Value
  | a :: l, b :: bs => enc a b ++ rowOf enc l bs
  | _, _ => []
theorem rowOf_len {α β : Type} {enc : α → β → List Value} {sz : Nat} (hsz : ∀ a b, (enc a b).length = sz) : ∀ (l : List α) (bs : List β), l.length = bs.length → (rowOf enc l bs).length = l.length * sz
  | [], [], _ => by simp [rowOf]
  | a :: l, b :: bs, h => by
    simp only [rowOf, List.length_append, hsz, List.length_cons]
    rw [rowOf_len hsz l bs (by simpa using h), Nat.add_mul]; omega
  | [], _ :: _, h => by simp at h
  | _ :: _, [], h => by simp at h
theorem rowOf_get {α β : Type} {enc : α → β → List Value} {sz : Nat} (hsz : ∀ a b, (enc a b).length = sz) : ∀ (l : List α) (bs : List β) (j : Nat) (a : α) (b : β), l[j]? = some a → bs[j]? = some b → ∀ k, k < sz → (rowOf enc l bs)[j * sz + k]? = (enc a b)[k]?
  | x :: l, y :: bs, 0, a, b, ha, hb, k, hk => by
    simp only [List.getElem?_cons_zero, Option.some.injEq] at ha hb
    subst ha; subst hb
    simp only [rowOf, Nat.zero_mul, Nat.zero_add]
    rw [List.getElem?_append_left (by rw [hsz]; exact hk)]
  | x :: l, y :: bs, j + 1, a, b, ha, hb, k, hk => by
    simp only [rowOf]
    rw [List.getElem?_append_right (by rw [hsz, Nat.add_mul]; omega), hsz, show (j + 1) * sz + k - sz = j * sz + k by rw [Nat.add_mul]; omega]
    exact rowOf_get hsz l bs j a b (by simpa using ha) (by simpa using hb) k hk
  | [], _, _, _, _, ha, _, _, _ => by simp at ha
  | _ :: _, [], _, _, _, _, hb, _, _ => by simp at hb
theorem rowOf_set {α β : Type} {enc : α → β → List Value} {sz : Nat} (hsz : ∀ a b, (enc a b).length = sz) : ∀ (l : List α) (bs : List β) (k : Nat) (a : α) (b : β), l.length = bs.length → k < l.length →
    (rowOf enc l bs).take (k * sz) ++ enc a b ++ (rowOf enc l bs).drop (k * sz + sz) = rowOf enc (l.set k a) (bs.set k b)
  | [], _, _, _, _, _, hk => by simp at hk
  | _ :: _, [], _, _, _, h, _ => by simp at h
  | x :: l, y :: bs, 0, a, b, h, hk => by
    simp only [rowOf, Nat.zero_mul, List.take_zero, List.nil_append, Nat.zero_add, List.set_cons_zero]
    rw [show sz = (enc x y).length from (hsz x y).symm, List.drop_left]
  | x :: l, y :: bs, k + 1, a, b, h, hk => by
    have ih := rowOf_set hsz l bs k a b (by simpa using h) (by simpa using hk)
    simp only [rowOf, List.set_cons_succ]
    rw [← ih, show (k + 1) * sz = (enc x y).length + k * sz by rw [hsz, Nat.add_mul]; omega, List.take_length_add_append, Nat.add_assoc, List.drop_length_add_append]
    simp
theorem All2.set {α β : Type} {R : α → β → Prop} {a : α} {b : β} (hab : R a b) : ∀ {xs : List α} {ys : List β} (k : Nat), All2 R xs ys → All2 R (xs.set k a) (ys.set k b)
  | [], [], _, _ => trivial
  | _ :: _, _ :: _, 0, h => ⟨hab, h.2⟩
  | _ :: _, _ :: _, k + 1, h => ⟨h.1, All2.set hab k h.2⟩
  | [], _ :: _, _, h => h.elim
  | _ :: _, [], _, h => h.elim

structure PStD where
  sent : Nat
  acked : Nat
  mask : Nat
  deliv : Nat
  queue : List (List Int)
  early : List (Nat × List Int)
def PStD.zero : PStD := ⟨0, 0, 0, 0, [], []⟩
def PeerD.st (p : PeerD) : PStD := ⟨p.sent, p.acked, p.mask, p.deliv, p.queue, p.early⟩
def pstCells (s : PStD) (p : Value × Value) : List Value := [.int .u64 s.sent, .int .u64 s.acked, p.1, .int .u64 s.mask, .int .u64 s.deliv, p.2]
theorem pstCells_len (s : PStD) (p : Value × Value) : (pstCells s p).length = 6 := rfl

/-- The lists of one state. -/
def PstG (B : Nat) (G : Nat → Prop) (w : World) (p : Value × Value) (s : PStD) : Prop := QueueG B G w p.1 s.queue ∧ EarlyG B G w p.2 s.early
theorem PstG.fr {B : Nat} {G S : Nat → Prop} {w w' : World} {p : Value × Value} {s : PStD} (h : PstG B G w p s) (hf : Fr S w w') (hS : FreeT [5] B w S) (hn : ∀ k, G k → ¬ S k) : PstG B G w' p s := ⟨h.1.fr hf hS hn, h.2.fr hf hS hn⟩
theorem PstG.mono {B : Nat} {G G' : Nat → Prop} {w : World} {p : Value × Value} {s : PStD} (h : PstG B G w p s) (hg : ∀ k, G k → G' k) : PstG B G' w p s := ⟨h.1.mono hg, h.2.mono hg⟩
theorem PstG.zero (B : Nat) (G : Nat → Prop) (w : World) : PstG B G w (nilS, nilS) PStD.zero := ⟨⟨[], trivial, SlG.nil _ _ _⟩, ⟨[], trivial, SlG.nil _ _ _⟩⟩
/-- v is a list of states, in G. -/
def StateG (B : Nat) (G : Nat → Prop) (w : World) (v : Value) (l : List PStD) : Prop := ∃ ps, All2 (PstG B G w) ps l ∧ SlG G w v l.length 6 (rowOf pstCells l ps)
theorem StateG.fr {B : Nat} {G S : Nat → Prop} {w w' : World} {v : Value} {l : List PStD} (h : StateG B G w v l) (hf : Fr S w w') (hS : FreeT [5] B w S) (hn : ∀ k, G k → ¬ S k) : StateG B G w' v l :=
  let ⟨ps, h1, h2⟩ := h
  ⟨ps, h1.mono fun _ _ h => h.fr hf hS hn, h2.fr hf hn⟩
theorem StateG.fr0 {B : Nat} {G : Nat → Prop} {w w' : World} {v : Value} {l : List PStD} (h : StateG B G w v l) (hf : Fr No w w') : StateG B G w' v l := h.fr hf FreeT.no (fun _ _ h => h)
theorem StateG.mono {B : Nat} {G G' : Nat → Prop} {w : World} {v : Value} {l : List PStD} (h : StateG B G w v l) (hg : ∀ k, G k → G' k) : StateG B G' w v l :=
  let ⟨ps, h1, h2⟩ := h
  ⟨ps, h1.mono fun _ _ h => h.mono hg, h2.mono hg⟩
theorem StateG.form {B : Nat} {G : Nat → Prop} {w : World} {v : Value} {l : List PStD} (h : StateG B G w v l) : ∃ a c, v = .slice a l.length c := let ⟨_, _, h⟩ := h; h.form

def EndD.stTo (e : EndD) (k : Nat) : List PStD := (List.range e.hosts).map fun h => if h < k ∧ e.has h = true then (e.ps h).st else PStD.zero
def EndD.state (e : EndD) : List PStD := e.stTo e.hosts
theorem EndD.stTo_len (e : EndD) (k : Nat) : (e.stTo k).length = e.hosts := by simp [EndD.stTo]
theorem EndD.stTo_zero (e : EndD) : e.stTo 0 = List.replicate e.hosts PStD.zero := by
  apply List.ext_getElem
  · simp [EndD.stTo]
  · intro i h1 h2; simp [EndD.stTo]
theorem EndD.stTo_yes (e : EndD) {k : Nat} (hk : k < e.hosts) (hh : e.has k = true) : e.stTo (k + 1) = (e.stTo k).set k (e.ps k).st := by
  apply List.ext_getElem
  · simp [EndD.stTo]
  · intro i h1 h2
    simp only [EndD.stTo, List.getElem_map, List.getElem_range, List.getElem_set]
    by_cases hik : k = i
    · subst hik; simp [hh]
    · rw [if_neg hik]
      have : (i < k + 1 ∧ e.has i = true) ↔ (i < k ∧ e.has i = true) := by constructor <;> (rintro ⟨a, b⟩; exact ⟨by omega, b⟩)
      simp only [this]
theorem EndD.stTo_no (e : EndD) {k : Nat} (hh : ¬ e.has k = true) : e.stTo (k + 1) = e.stTo k := by
  unfold EndD.stTo
  refine List.map_congr_left fun i hi => ?_
  have : (i < k + 1 ∧ e.has i = true) ↔ (i < k ∧ e.has i = true) := by
    constructor
    · rintro ⟨a, b⟩
      refine ⟨?_, b⟩
      by_cases hik : i = k
      · subst hik; exact absurd b hh
      · omega
    · rintro ⟨a, b⟩; exact ⟨by omega, b⟩
  simp only [this]

theorem zeros_pst (n : Nat) : zeros (.agg #[.int .u64 0, .int .u64 0, nilS, .int .u64 0, .int .u64 0, nilS]) n = rowOf pstCells (List.replicate n PStD.zero) (List.replicate n (nilS, nilS)) := by
  induction n with
  | zero => rfl
  | succ n ih =>
    unfold zeros at *
    rw [List.replicate_succ, List.flatten_cons, ih, List.replicate_succ, List.replicate_succ]
    rfl
theorem All2.replicate {α β : Type} {R : α → β → Prop} {a : α} {b : β} (h : R a b) : ∀ n, All2 R (List.replicate n a) (List.replicate n b)
  | 0 => trivial
  | n + 1 => ⟨h, All2.replicate h n⟩

theorem there_of_heap {w : World} {b o n : Nat} {c : Array Value} {t : TypeId} (h : w.heap[b]? = some (.cells c t (0, 0))) (hn : o + n ≤ c.size) : w.there b o n := fun j hj => by
  simp only [World.cell?, World.frozen?, h]
  simp
  omega
theorem heap_setRow {w : World} {b o : Nat} {c : List Value} {t : TypeId} {cs : List Value} (h : w.heap[b]? = some (.cells c.toArray t (0, 0))) (hn : o + cs.length ≤ c.length) : (w.setCells b o cs).heap[b]? = some (.cells (c.take o ++ cs ++ c.drop (o + cs.length)).toArray t (0, 0)) := heap_setCells cs o w c h hn
theorem PeerAt.cells {B : Nat} {w : World} {q : Nat} {p : PeerD} {F : Nat → Prop} (h : PeerAt B w q p F) : ∃ vq ve, QueueG B F w vq p.queue ∧ EarlyG B F w ve p.early ∧ w.cell? ⟨q, 3, none⟩ = some (.int .u64 p.sent) ∧ w.cell? ⟨q, 4, none⟩ = some (.int .u64 p.acked) ∧ w.cell? ⟨q, 5, none⟩ = some vq ∧ w.cell? ⟨q, 6, none⟩ = some (.int .u64 p.mask) ∧ w.cell? ⟨q, 9, none⟩ = some (.int .u64 p.deliv) ∧ w.cell? ⟨q, 10, none⟩ = some ve := by
  obtain ⟨_, _, vq, ve, hh, h1, h2⟩ := h
  obtain ⟨⟨g0, g1, g2, g3⟩, ⟨g4, g5, g6, g7⟩, g8, g9, g10⟩ := peerCells_get hh
  exact ⟨vq, ve, h1.toG, h2.toG, g3, g4, g5, g6, g9, g10⟩

/-- What stays true from round to round of State's loop. -/
structure StInv (B : Nat) (w W0 : World) (e : EndD) (wr : World) (k : Nat) (vps : List (Value × Value)) : Prop where
  row : wr.heap[w.heap.size + 1]? = some (.cells (rowOf pstCells (e.stTo k) vps).toArray 88 (0, 0))
  all : All2 (PstG B (fun b => w.heap.size + 2 < b ∧ b < wr.heap.size) wr) vps (e.stTo k)
  fr : Fr (One (w.heap.size + 1)) W0 wr

/-- The blocks that a call has made. -/
def Btw (w w' : World) : Nat → Prop := fun b => w.heap.size ≤ b ∧ b < w'.heap.size
def StatePost (B : Nat) (w : World) (l : List PStD) (en : Ending) (w' : World) : Prop := ∃ v, en = .returned (.agg #[v]) ∧ StateG B (Btw w w') w' v l ∧ Fr No w w'

set_option maxRecDepth 100000 in
set_option maxHeartbeats 2000000 in
theorem f_state (B : Nat) (w : World) (a : Nat) (e : EndD) (F : Nat → Prop) (he : EndAt B w a e F) (hok : e.Ok) (hB : B ≤ w.heap.size) :
    Calls Try.prog 17 #[.pointer (some ⟨a, 0, none⟩)] w (StatePost B w e.state) := by
  have halt := he.lt
  obtain ⟨r, q, own, hx⟩ := he
  have hrlt := (Array.getElem?_eq_some_iff.1 hx.hr).1
  obtain ⟨h0, h1⟩ := hx.cells
  have h16 := hok.h16
  have Hx := Lib.hid hx
  have H1 := Lib.hid h1
  clear hx h1
  have hca : ∀ o1 o2 o3, (((w.alloc o1).alloc o2).alloc o3).cell? ⟨a, 0, none⟩ = w.cell? ⟨a, 0, none⟩ := fun o1 o2 o3 => (((Fr.alloc0 w o1).alloc o2).alloc o3).cell halt (fun h => h) 0
  go_enter Try.func17, Try.ntmps17
  go_wp2_with (at_make; refine wpList_mk (z := .agg #[.int .u64 0, .int .u64 0, nilS, .int .u64 0, .int .u64 0, nilS]) (sz := 6) (by' := 80) Try.underlying50 (by kernel_rfl) rfl (by omega) rfl (.tmp 13) (.tmp 13) rfl e.hosts rfl rfl (by omega) (by unfold maxLen; omega) ?_)
  have hf0 : Fr No w (((w.alloc (.cells #[nilS] 52)).alloc (.cells (zeros (.agg #[.int .u64 0, .int .u64 0, nilS, .int .u64 0, .int .u64 0, nilS]) e.hosts).toArray 88)).alloc (.cells #[.slice (some ⟨w.heap.size + 1, 0, none⟩) e.hosts e.hosts] 52)) := ((Fr.alloc0 _ _).alloc _).alloc _
  have hs0 : (((w.alloc (.cells #[nilS] 52)).alloc (.cells (zeros (.agg #[.int .u64 0, .int .u64 0, nilS, .int .u64 0, .int .u64 0, nilS]) e.hosts).toArray 88)).alloc (.cells #[.slice (some ⟨w.heap.size + 1, 0, none⟩) e.hosts e.hosts] 52)).heap.size = w.heap.size + 3 := by simp
  have hb2 : (((w.alloc (.cells #[nilS] 52)).alloc (.cells (zeros (.agg #[.int .u64 0, .int .u64 0, nilS, .int .u64 0, .int .u64 0, nilS]) e.hosts).toArray 88)).alloc (.cells #[.slice (some ⟨w.heap.size + 1, 0, none⟩) e.hosts e.hosts] 52)).heap[w.heap.size + 2]? = some (.cells #[.slice (some ⟨w.heap.size + 1, 0, none⟩) e.hosts e.hosts] 52 (0, 0)) := by
    have := heap_alloc_new ((w.alloc (.cells #[nilS] 52)).alloc (.cells (zeros (.agg #[.int .u64 0, .int .u64 0, nilS, .int .u64 0, .int .u64 0, nilS]) e.hosts).toArray 88)) (.cells #[.slice (some ⟨w.heap.size + 1, 0, none⟩) e.hosts e.hosts] 52)
    simpa using this
  have hb1 : (((w.alloc (.cells #[nilS] 52)).alloc (.cells (zeros (.agg #[.int .u64 0, .int .u64 0, nilS, .int .u64 0, .int .u64 0, nilS]) e.hosts).toArray 88)).alloc (.cells #[.slice (some ⟨w.heap.size + 1, 0, none⟩) e.hosts e.hosts] 52)).heap[w.heap.size + 1]? = some (.cells (zeros (.agg #[.int .u64 0, .int .u64 0, nilS, .int .u64 0, .int .u64 0, nilS]) e.hosts).toArray 88 (0, 0)) := by
    rw [heap_alloc_old _ _ (by simp)]
    exact heap_alloc2
  have hb0 : (((w.alloc (.cells #[nilS] 52)).alloc (.cells (zeros (.agg #[.int .u64 0, .int .u64 0, nilS, .int .u64 0, .int .u64 0, nilS]) e.hosts).toArray 88)).alloc (.cells #[.slice (some ⟨w.heap.size + 1, 0, none⟩) e.hosts e.hosts] 52)).heap[w.heap.size]? = some (.cells #[nilS] 52 (0, 0)) := by
    rw [heap_alloc_old _ _ (by simp; omega), heap_alloc_old _ _ (by simp)]
    exact heap_alloc_new _ _
  generalize (((w.alloc (.cells #[nilS] 52)).alloc (.cells (zeros (.agg #[.int .u64 0, .int .u64 0, nilS, .int .u64 0, .int .u64 0, nilS]) e.hosts).toArray 88)).alloc (.cells #[.slice (some ⟨w.heap.size + 1, 0, none⟩) e.hosts e.hosts] 52)) = W0 at *
  have Hs0 := Lib.hid hs0
  rw [zeros_pst] at hb1
  clear hca hs0
  go_loopw [21] (fun i wr => ∃ k vps, k ≤ e.hosts ∧ i = .int .i64 (k : Nat) ∧ StInv B w W0 e wr k vps) (fun i _ => 16 - (intOf i).toNat)
  case atStart => exact ⟨0, _, Nat.zero_le _, rfl, by rw [EndD.stTo_zero]; exact hb1, by rw [EndD.stTo_zero]; exact All2.replicate (PstG.zero _ _ _) _, Fr.refl _ _⟩
  case round =>
    obtain ⟨k, vps, hk, rfl, hI⟩ := hrel
    have hs0 := Hs0.out
    have hfw : Fr No w wr := hf0.trans' hI.fr (fun x hx h => by unfold One at h; omega)
    have hszr := hI.fr.size
    have hsv : wr.cell? ⟨w.heap.size + 2, 0, none⟩ = some (.slice (some ⟨w.heap.size + 1, 0, none⟩) e.hosts e.hosts) := by
      rw [hI.fr.cell (by omega) (by unfold One; omega), cell_of_row _ _ 0 _ _ _ hb2]; rfl
    have h2lt : w.heap.size + 2 < wr.heap.size := by omega
    have hb0' : wr.heap[w.heap.size]? = some (.cells #[nilS] 52 (0, 0)) := by rw [hI.fr.block _ (by omega) (by unfold One; omega)]; exact hb0
    have HI := Lib.hid hI
    clear hI hs0 hszr
    by_cases hlt : k < e.hosts
    · have hk1 : (k : Int) < (e.hosts : Int) := by omega
      have hc : wr.cell? ⟨r, k, none⟩ = some (endPtr e q k) := by rw [hfw.cell hrlt (fun h => h)]; exact H1.out k hlt
      by_cases hh : e.has k = true
      · rw [endPtr_yes hh] at hc
        have hpe := (Hx.out.fr hfw FreeT.no (fun _ _ h => h)).pe k hlt (EndD.has_iff.1 hh).2
        have hpok := (hok.peer k hlt (EndD.has_iff.1 hh).2).1
        have hq16 : (e.ps k).queue.length ≤ 16 := by have := hpok.qroom; have := hpok.room16; omega
        have he16 := hpok.early_len
        have hqlt := hpe.lt
        obtain ⟨vq, ve, hQ, hE, g3, g4, g5, g6, g9, g10⟩ := hpe.cells
        have Hsucc := Lib.hid (e.stTo_yes hlt hh)
        clear hh
        go_wp2_with fail
        refine WS.wp_region_seq (Fr No wr) [37] [(0, true), (1, true), (2, true), (3, true), (4, true), (5, true), (6, true), (7, true), (8, true), (9, true), (10, true), (11, true), (12, true), (13, true), (14, true), (15, true), (16, true), (17, true), (19, true), (20, true), (21, true), (22, true), (23, true), (24, true), (25, true), (26, true), (27, true), (28, true), (29, true), (30, true), (31, true), (32, true), (33, true), (18, false), (34, false), (35, true), (36, true), (37, false)] (by kernel_rfl) (by kernel_rfl) (fun c d v a w h => by cases d <;> exact h) ((Fr.refl _ _).drew) ?_
        simp only [WS.pick, List.getElem?_toArray, List.getElem?_cons_succ, List.getElem?_cons_zero]
        repeat (first | (refine WS.wpL_skip rfl ?_; try simp only [Act.put, List.setIfInBounds_toArray, List.set_cons_zero, List.set_cons_succ]) | (refine WS.wpL_q ?_ rfl ?_ ?_; rotate_left 1; (focus (intro w' hw'; have hrr' := hw'.rules; obtain ⟨hrc', _⟩ := hrr'; clear hw'; go_simp; (try with_reducible rfl); done)); try simp only [Act.put, List.setIfInBounds_toArray, List.set_cons_zero, List.set_cons_succ]))
        refine WS.wpL_e rfl (fun K hK => ?_)
        go_simp
        refine (f_copies B _ wr.drew vq _ (hQ.fr0 ((Fr.refl _ _).drew)) (by have := hfw.size; show B ≤ wr.heap.size; omega) (by omega)).mono ?_
        rintro en w1 ⟨v1, rfl, hq1, hf1⟩
        have hf1' := hf1.ofDrew
        obtain ⟨a1, c1, rfl⟩ := hq1.form
        refine hK _ _ (fun _ => hf1') ?_
        clear hK K
        try simp only [Act.put, List.setIfInBounds_toArray, List.set_cons_zero, List.set_cons_succ]
        repeat (first | (refine WS.wpL_skip rfl ?_; try simp only [Act.put, List.setIfInBounds_toArray, List.set_cons_zero, List.set_cons_succ]) | (refine WS.wpL_q ?_ rfl ?_ ?_; rotate_left 1; (focus (intro w' hw'; have hrr' := hw'.rules; obtain ⟨hrc', _⟩ := hrr'; clear hw'; go_simp; (try with_reducible rfl); done)); try simp only [Act.put, List.setIfInBounds_toArray, List.set_cons_zero, List.set_cons_succ]))
        refine WS.wpL_e rfl (fun K hK => ?_)
        go_simp
        refine (f_frames B _ w1 ve _ (hE.fr0 hf1') (by have := hfw.size; have := hf1'.size; omega) (by omega)).mono ?_
        rintro en w2 ⟨v2, rfl, he2, hf2⟩
        have hf2' := hf1'.then0 hf2
        obtain ⟨a2, c2, rfl⟩ := he2.form
        refine hK _ _ (fun _ => hf2') ?_
        clear hK K
        try simp only [Act.put, List.setIfInBounds_toArray, List.set_cons_zero, List.set_cons_succ]
        repeat (first | (refine WS.wpL_skip rfl ?_; try simp only [Act.put, List.setIfInBounds_toArray, List.set_cons_zero, List.set_cons_succ]) | (refine WS.wpL_q ?_ rfl ?_ ?_; rotate_left 1; (focus (intro w' hw'; have hrr' := hw'.rules; obtain ⟨hrc', _⟩ := hrr'; clear hw'; go_simp; (try with_reducible rfl); done)); try simp only [Act.put, List.setIfInBounds_toArray, List.set_cons_zero, List.set_cons_succ]))
        refine WS.wpL_e rfl (fun K hK => ?_)
        have hI := HI.out
        have hs0 := Hs0.out
        have hl : (e.stTo k).length = vps.length := hI.all.length.symm
        have hrl : (rowOf pstCells (e.stTo k) vps).length = e.hosts * 6 := by rw [rowOf_len pstCells_len _ _ hl, EndD.stTo_len]
        have hszr := hI.fr.size
        have hrow2 : w2.heap[w.heap.size + 1]? = some (.cells (rowOf pstCells (e.stTo k) vps).toArray 88 (0, 0)) := by rw [hf2'.block _ (by omega) (fun h => h)]; exact hI.row
        have hth := there_of_heap (o := k * 6) (n := 6) hrow2 (by rw [List.size_toArray, hrl]; omega)
        refine wp_store_mid 88 (.tmp 64) (.tmp 63) rfl (w.heap.size + 1) (k * 6) (pstCells (e.ps k).st (.slice a1 (e.ps k).queue.length c1, .slice a2 (e.ps k).early.length c2)).toArray rfl rfl hth (by kernel_rfl) (by simp [Value.oneCell', pstCells]) ?_
        refine hK _ _ (fun h => absurd (by decide) h) ?_
        clear hK K
        try simp only [Act.put, List.setIfInBounds_toArray, List.set_cons_zero, List.set_cons_succ]
        refine WS.wpL_nil ?_
        have hrow3 := heap_setRow (cs := pstCells (e.ps k).st (.slice a1 (e.ps k).queue.length c1, .slice a2 (e.ps k).early.length c2)) (o := k * 6) hrow2 (by rw [hrl, pstCells_len]; omega)
        rw [pstCells_len, rowOf_set pstCells_len _ _ _ _ _ hl (by rw [EndD.stTo_len]; exact hlt), ← Hsucc.out] at hrow3
        have hf3 : Fr (One (w.heap.size + 1)) w2 (w2.setCells (w.heap.size + 1) (k * 6) (pstCells (e.ps k).st (.slice a1 (e.ps k).queue.length c1, .slice a2 (e.ps k).early.length c2))) := Fr.setCells (S := One (w.heap.size + 1)) (.inr rfl) _ _ (Fr.refl _ _)
        generalize w2.setCells (w.heap.size + 1) (k * 6) (pstCells (e.ps k).st (.slice a1 (e.ps k).queue.length c1, .slice a2 (e.ps k).early.length c2)) = W3 at *
        have hsz1 := hf1'.size
        have hsz2 := hf2.size
        have hsz3 := hf3.size
        have hfree3 : FreeT [5] B w2 (One (w.heap.size + 1)) := FreeT.one (by omega) (typ_of_heap hrow2) (by decide)
        have hq3 : QOwn B wr.heap.size W3 (.slice a1 (e.ps k).queue.length c1) (e.ps k).queue := (hq1.fr0 hf2).fr hf3 hfree3 (fun j hj e => by unfold One at e; have := (hq1.block hj).2; have hd : wr.drew.heap.size = wr.heap.size := rfl; omega)
        have he3 : EOwn B w1.heap.size W3 (.slice a2 (e.ps k).early.length c2) (e.ps k).early := he2.fr hf3 hfree3 (fun j hj e => by unfold One at e; have := (he2.block hj).2; omega)
        have hnew : PstG B (fun b => w.heap.size + 2 < b ∧ b < W3.heap.size) W3 (.slice a1 (e.ps k).queue.length c1, .slice a2 (e.ps k).early.length c2) (e.ps k).st :=
          ⟨hq3.toQ fun j hj => ⟨by have := (hq3.block hj).2; omega, typ_lt (hq3.block hj).1⟩, he3.toE fun j hj => ⟨by have := (he3.block hj).2; omega, typ_lt (he3.block hj).1⟩⟩
        have hall : All2 (PstG B (fun b => w.heap.size + 2 < b ∧ b < W3.heap.size) W3) (vps.set k (.slice a1 (e.ps k).queue.length c1, .slice a2 (e.ps k).early.length c2)) (e.stTo (k + 1)) := by
          rw [Hsucc.out]
          refine All2.set hnew k (hI.all.mono fun p s h => ?_)
          exact ((((h.fr hf2' FreeT.no (fun _ _ h => h)).fr hf3 hfree3 (fun b hb e => by unfold One at e; omega))).mono fun b hb => ⟨hb.1, by omega⟩)
        have hfr3 : Fr (One (w.heap.size + 1)) W0 W3 := (hI.fr.then0 hf2').trans hf3
        clear hrow2 hI hs0 hszr hl hrl hth hsz1 hsz2 hsz3 hfree3 hq3 he3 hnew hq1 he2 hf1' hf2' hf1 hf2 hf3 hQ hE g3 g4 g5 g6 g9 g10 hsv hb0'
        go_wp2_with fail
        refine ⟨⟨k + 1, _, by omega, by go_num, ⟨hrow3, hall, hfr3⟩⟩, by simp [intOf]; omega⟩
      · rw [endPtr_no hh] at hc
        have Hsucc := Lib.hid (e.stTo_no hh)
        clear hh
        go_wp2_with fail
        have hI := HI.out
        refine ⟨⟨k + 1, vps, by omega, by go_num, ⟨by rw [Hsucc.out]; exact hI.row, by rw [Hsucc.out]; exact hI.all, hI.fr⟩⟩, by simp [intOf]; omega⟩
    · have hkn : k = e.hosts := by omega
      have hk1 : ¬ (k : Int) < (e.hosts : Int) := by omega
      have Hkn := Lib.hid hkn
      clear hkn
      have hlt0 : w.heap.size < wr.heap.size := by omega
      have hz0 : wr.frozen? ⟨w.heap.size, 0, none⟩ = false := by simp [World.frozen?, hb0']
      have hc0 : wr.cell? ⟨w.heap.size, 0, none⟩ = some nilS := by simp [World.cell?, hb0']
      go_wp2_with fail
      have hr3 : (wr.setCell ⟨w.heap.size, 0, none⟩ (.slice (some ⟨w.heap.size + 1, 0, none⟩) e.hosts e.hosts)).heap[w.heap.size]? = some (.cells #[.slice (some ⟨w.heap.size + 1, 0, none⟩) e.hosts e.hosts] 52 (0, 0)) := by
        rw [heap_set hb0']; rfl
      refine bodyPost_ret (results_cell1 (p := 2) (ty := 52) (cs := [.slice (some ⟨w.heap.size + 1, 0, none⟩) e.hosts e.hosts]) rfl rfl (fun j v hv => by rw [Nat.zero_add, cell_of_row _ _ j _ _ _ hr3]; simpa using hv) Try.underlying52 rfl (by kernel_rfl)) rfl ?_
      have hI := HI.out
      have hfz : Fr (One w.heap.size) wr (wr.setCell ⟨w.heap.size, 0, none⟩ (.slice (some ⟨w.heap.size + 1, 0, none⟩) e.hosts e.hosts)) := Fr.setCell0 wr ⟨w.heap.size, 0, none⟩ _
      have hszz := hfz.size
      have hrow := hI.row
      have hall := hI.all
      rw [Hkn.out] at hrow hall
      have hr4 : (wr.setCell ⟨w.heap.size, 0, none⟩ (.slice (some ⟨w.heap.size + 1, 0, none⟩) e.hosts e.hosts)).heap[w.heap.size + 1]? = some (.cells (rowOf pstCells e.state vps).toArray 88 (0, 0)) := by
        rw [hfz.block _ (by omega) (by unfold One; omega)]; exact hrow
      refine ⟨_, rfl, ⟨vps, ?_, ?_, _, _, by unfold EndD.state; rw [EndD.stTo_len], ?_, ?_, fun _ => ⟨w.heap.size + 1, 0, rfl, ⟨by omega, by omega⟩, fun j v hv => ?_⟩⟩, hfw.trans' hfz (fun x hx e => by unfold One at e; omega)⟩
      · refine hall.mono fun p s h => (h.fr hfz (FreeT.one hB (typ_of_heap hb0') (by decide)) (fun b hb e => by unfold One at e; omega)).mono fun b hb => ⟨by omega, by omega⟩
      · exact rowOf_len pstCells_len _ _ hall.length.symm
      · show e.state.length ≤ e.hosts; unfold EndD.state; rw [EndD.stTo_len]; exact Nat.le_refl _
      · show e.hosts ≤ maxLen; unfold maxLen; omega
      · rw [Nat.zero_add, cell_of_row _ _ j _ _ _ hr4]; simpa using hv
end Go.Proofs.Ytplgmcpglbpghaa

/- New. -/
namespace Go.Proofs.Ytplgmcpglbpghaa
open Go.RowKit

def fitsI (self : Nat) (h q w : Int) : Bool := decide (1 ≤ h ∧ h ≤ 16 ∧ (self : Int) < h ∧ 1 ≤ q ∧ q ≤ 16 ∧ 1 ≤ w ∧ w ≤ q)

set_option maxRecDepth 100000 in
set_option maxHeartbeats 1000000 in
theorem f_fits_yes (w : World) (self : Nat) (h q d : Int) (hs : self < 256) (hf : 1 ≤ h ∧ h ≤ 16 ∧ (self : Int) < h ∧ 1 ≤ q ∧ q ≤ 16 ∧ 1 ≤ d ∧ d ≤ q) : Calls Try.prog 53 #[.int .u8 self, .int .i64 h, .int .i64 q, .int .i64 d] w fun e w' => e = .returned (.bool true) ∧ w = w' := by
  obtain ⟨h1, h2, h3, h4, h5, h6, h7⟩ := hf
  have e1 : IntKind.i64.wrap (self : Int) = self := IntWalk.i64_in _ (by omega)
  go_enter Try.func53, Try.ntmps53
  go_wp2
  go_ret
  exact ⟨rfl, rfl⟩

set_option maxRecDepth 100000 in
set_option maxHeartbeats 1000000 in
theorem f_fits_no (w : World) (self : Nat) (h q d : Int) (hs : self < 256) (hf : ¬ (1 ≤ h ∧ h ≤ 16 ∧ (self : Int) < h ∧ 1 ≤ q ∧ q ≤ 16 ∧ 1 ≤ d ∧ d ≤ q)) : Calls Try.prog 53 #[.int .u8 self, .int .i64 h, .int .i64 q, .int .i64 d] w fun e w' => e = .returned (.bool false) ∧ w = w' := by
  have e1 : IntKind.i64.wrap (self : Int) = self := IntWalk.i64_in _ (by omega)
  have Hf := Lib.hid hf
  clear hf
  have ex : ∀ {p : Prop} [Decidable p], ¬ p → decide p = false := fun h => decide_eq_false h
  by_cases h1 : 1 ≤ h
  · by_cases h2 : h ≤ 16
    · by_cases h3 : (self : Int) < h
      · by_cases h4 : 1 ≤ q
        · by_cases h5 : q ≤ 16
          · by_cases h6 : 1 ≤ d
            · have h7 : ¬ d ≤ q := fun h7 => Hf.out ⟨h1, h2, h3, h4, h5, h6, h7⟩
              have d7 := ex h7
              clear ex
              go_enter Try.func53, Try.ntmps53
              go_wp2
              go_ret
              exact ⟨rfl, rfl⟩
            · have d6 := ex h6
              clear ex
              go_enter Try.func53, Try.ntmps53
              go_wp2
              go_ret
              exact ⟨rfl, rfl⟩
          · have d5 := ex h5
            clear ex
            go_enter Try.func53, Try.ntmps53
            go_wp2
            go_ret
            exact ⟨rfl, rfl⟩
        · have d4 := ex h4
          clear ex
          go_enter Try.func53, Try.ntmps53
          go_wp2
          go_ret
          exact ⟨rfl, rfl⟩
      · have d3 := ex h3
        clear ex
        go_enter Try.func53, Try.ntmps53
        go_wp2
        go_ret
        exact ⟨rfl, rfl⟩
    · have d2 := ex h2
      clear ex
      go_enter Try.func53, Try.ntmps53
      go_wp2
      go_ret
      exact ⟨rfl, rfl⟩
  · have d1 := ex h1
    clear ex
    go_enter Try.func53, Try.ntmps53
    go_wp2
    go_ret
    exact ⟨rfl, rfl⟩

theorem f_fits (w : World) (self : Nat) (h q d : Int) (hs : self < 256) : Calls Try.prog 53 #[.int .u8 self, .int .i64 h, .int .i64 q, .int .i64 d] w fun e w' => e = .returned (.bool (fitsI self h q d)) ∧ w = w' := by
  unfold fitsI
  by_cases hf : 1 ≤ h ∧ h ≤ 16 ∧ (self : Int) < h ∧ 1 ≤ q ∧ q ≤ 16 ∧ 1 ≤ d ∧ d ≤ q
  · rw [decide_eq_true hf]; exact f_fits_yes w self h q d hs hf
  · rw [decide_eq_false hf]; exact f_fits_no w self h q d hs hf

def newPeer (to room window : Nat) : PeerD := { to := to, room := room, window := window, reach := window, sent := 0, acked := 0, mask := 0, deliv := 0, queue := [], early := [] }
def newEnd (self hosts queue window : Nat) : EndD := ⟨self, hosts, fun h => newPeer h queue window⟩
theorem newPeer_ok {to room window : Nat} (ht : to < 256) (h1 : 1 ≤ room) (h2 : room ≤ 16) (h3 : 1 ≤ window) (h4 : window ≤ room) : (newPeer to room window).Ok :=
  ⟨by simp [newPeer], by simp only [newPeer]; omega, h1, h2, h3, h4, rfl, by simp [newPeer], by simp [newPeer], by simp [newPeer], by simp [newPeer], by simp [newPeer], by simp [newPeer], .inl rfl, by simp [newPeer], by simp [newPeer], by simp [newPeer]⟩
theorem newEnd_ok {self hosts queue window : Nat} (h1 : 1 ≤ hosts) (h2 : hosts ≤ 16) (h3 : self < hosts) (h4 : 1 ≤ queue) (h5 : queue ≤ 16) (h6 : 1 ≤ window) (h7 : window ≤ queue) : (newEnd self hosts queue window).Ok :=
  ⟨h1, h2, h3, fun h hh _ => ⟨newPeer_ok (by show h < 256; have : h < hosts := hh; omega) h4 h5 h6 h7, rfl⟩⟩

/-- The row of pointers, filled up to k. -/
def rowN (self hosts : Nat) (q : Nat → Nat) (k : Nat) : List Value := (List.range hosts).map fun h => if h < k ∧ h ≠ self then ptrTo (q h) else .pointer none
theorem rowN_len (self hosts : Nat) (q : Nat → Nat) (k : Nat) : (rowN self hosts q k).length = hosts := by simp [rowN]
theorem rowN_zero (self hosts : Nat) (q : Nat → Nat) : rowN self hosts q 0 = zeros (.pointer none) hosts := by
  unfold rowN zeros
  rw [show ((Value.pointer none).cells.toList) = [Value.pointer none] from rfl]
  apply List.ext_getElem
  · simp
  · intro i h1 h2
    have : (List.replicate hosts [Value.pointer none]).flatten = List.replicate hosts (Value.pointer none) := by
      clear h1 h2
      induction hosts with
      | zero => rfl
      | succ n ih => rw [List.replicate_succ, List.flatten_cons, ih, List.replicate_succ]; rfl
    simp [this]
theorem rowN_yes {self hosts : Nat} {q : Nat → Nat} {k : Nat} (hk : k < hosts) (hs : k ≠ self) (b : Nat) : (rowN self hosts q k).set k (ptrTo b) = rowN self hosts (fun x => if x = k then b else q x) (k + 1) := by
  apply List.ext_getElem
  · simp [rowN]
  · intro i h1 h2
    simp only [rowN, List.getElem_map, List.getElem_range, List.getElem_set]
    by_cases hik : k = i
    · subst hik; simp [hs]
    · rw [if_neg hik, if_neg (fun e : i = k => hik e.symm)]
      have : (i < k + 1 ∧ i ≠ self) ↔ (i < k ∧ i ≠ self) := by omega
      simp only [this]
theorem rowN_no {self hosts : Nat} {q : Nat → Nat} : rowN self hosts q (self + 1) = rowN self hosts q self := by
  unfold rowN
  refine List.map_congr_left fun i hi => ?_
  have : (i < self + 1 ∧ i ≠ self) ↔ (i < self ∧ i ≠ self) := by omega
  simp only [this]
theorem rowN_full {self hosts queue window : Nat} {q : Nat → Nat} : rowN self hosts q hosts = endRow (newEnd self hosts queue window) q := by
  unfold rowN endRow endPtr EndD.has newEnd
  refine List.map_congr_left fun i hi => ?_
  simp

structure NewInv (w W0 : World) (me hosts queue window : Nat) (wr : World) (k : Nat) (q : Nat → Nat) : Prop where
  row : wr.heap[w.heap.size]? = some (.cells (rowN me hosts q k).toArray 102 (0, 0))
  peers : ∀ h, h < k → h ≠ me → w.heap.size + 1 < q h ∧ q h < wr.heap.size ∧ wr.heap[q h]? = some (.cells (peerCells (newPeer h queue window) nilS nilS).toArray 108 (0, 0))
  inj : ∀ h h', h < k → h ≠ me → h' < k → h' ≠ me → q h = q h' → h = h'
  fr : Fr (One w.heap.size) W0 wr
  ty : ∀ b, w.heap.size ≤ b → b < wr.heap.size → ∃ t, typ wr b = some t ∧ t ∉ ([5, 119, 121] : List Nat)

def NewPost (B : Nat) (w : World) (self hosts queue window : Nat) (en : Ending) (w' : World) : Prop :=
  ∃ a, en = .returned (.tuple #[.pointer (some ⟨a, 0, none⟩), .int .i64 0]) ∧ EndAt B w' a (newEnd self hosts queue window) (Btw w w') ∧ Reg B w' (Btw w w') ∧ Fr No w w'

theorem NewInv.post {B : Nat} {w W0 wr : World} {self hosts queue window : Nat} {q : Nat → Nat} (h : NewInv w W0 self hosts queue window wr hosts q) (hB : B ≤ w.heap.size) (h0 : Fr No w W0) (hs : W0.heap.size = w.heap.size + 2) (ha : W0.heap[w.heap.size + 1]? = some (.cells #[.slice (some ⟨w.heap.size, 0, none⟩) hosts hosts] 101 (0, 0))) :
    NewPost B w self hosts queue window (.returned (.tuple #[.pointer (some ⟨w.heap.size + 1, 0, none⟩), .int .i64 0])) wr := by
  have hsz := h.fr.size
  have hlt : ∀ {b : Nat} {o : Obj}, wr.heap[b]? = some o → b < wr.heap.size := fun h => (Array.getElem?_eq_some_iff.1 h).1
  refine ⟨w.heap.size + 1, rfl, ?_, fun b hb => ⟨by have := hb.1; omega, h.ty b hb.1 hb.2⟩, h0.trans' h.fr (fun x hx e => by unfold One at e; omega)⟩
  classical
  let own : Nat → Nat := fun b => if hx : ∃ x, x < hosts ∧ x ≠ self ∧ q x = b then Classical.choose hx else hosts
  have hown : ∀ x, x < hosts → x ≠ self → own (q x) = x := fun x hx hne => by
    have hex : ∃ y, y < hosts ∧ y ≠ self ∧ q y = q x := ⟨x, hx, hne, rfl⟩
    show (if hx : ∃ y, y < hosts ∧ y ≠ self ∧ q y = q x then Classical.choose hx else hosts) = x
    rw [dif_pos hex]
    obtain ⟨a1, a2, a3⟩ := Classical.choose_spec hex
    exact h.inj _ _ a1 a2 hx hne a3
  have hno : ∀ b, b ≤ w.heap.size + 1 → own b = hosts := fun b hb => by
    have hex : ¬ ∃ y, y < hosts ∧ y ≠ self ∧ q y = b := by
      rintro ⟨y, h1, h2, rfl⟩
      have := (h.peers y h1 h2).1; omega
    show (if hx : ∃ y, y < hosts ∧ y ≠ self ∧ q y = b then Classical.choose hx else hosts) = hosts
    rw [dif_neg hex]
  have ha' : wr.heap[w.heap.size + 1]? = some (.cells #[.slice (some ⟨w.heap.size, 0, none⟩) hosts hosts] 101 (0, 0)) := by
    rw [h.fr.block _ (by omega) (by unfold One; omega)]; exact ha
  refine ⟨w.heap.size, q, own, ⟨by omega, hlt ha'⟩, ⟨by omega, hlt h.row⟩, by omega, by omega, hno _ (by omega), hno _ (by omega), ha', ?_, fun x hx hne => ?_⟩
  · rw [h.row, rowN_full (queue := queue) (window := window)]
  · obtain ⟨k1, k2, k3⟩ := h.peers x hx hne
    exact ⟨⟨⟨by omega, k2⟩, hown x hx hne⟩, by omega, nilS, nilS, k3, ⟨[], trivial, World.ownsRow_nil _ _ _ _, fun k hk => by cases hk⟩, ⟨[], trivial, World.ownsRow_nil _ _ _ _, fun k hk => by cases hk⟩⟩

set_option maxRecDepth 100000 in
set_option maxHeartbeats 2000000 in
theorem f_new (B : Nat) (w : World) (self hosts queue window : Nat) (hB : B ≤ w.heap.size) (hf : fitsI self hosts queue window = true) :
    Calls Try.prog 33 #[.int .u8 self, .int .i64 hosts, .int .i64 queue, .int .i64 window] w (NewPost B w self hosts queue window) := by
  have hf' := of_decide_eq_true hf
  have h16 : hosts ≤ 16 := by omega
  have hq16 : queue ≤ 16 := by omega
  have hw16 : window ≤ 16 := by omega
  have hs256 : self < 256 := by omega
  have hfit := f_fits w self hosts queue window hs256
  rw [hf] at hfit
  have HF := Lib.hid hfit
  have e1 : IntKind.u64.wrap (window : Int) = window := u64_in (by omega) (by omega)
  clear hfit hf hf'
  go_enter Try.func33, Try.ntmps33
  go_wp2_with (first | (go_at_call 53; refine HF.out.mono ?_; rintro en w' ⟨rfl, rfl⟩) | (at_make; refine wpList_mk (z := .pointer none) (sz := 1) (by' := 8) Try.underlying99 (by kernel_rfl) rfl (by omega) rfl (.tmp 19) (.tmp 19) rfl hosts rfl rfl (by omega) (by unfold maxLen; omega) ?_))
  have hf0 : Fr No w ((w.alloc (.cells (zeros (.pointer none) hosts).toArray 102)).alloc (.cells #[.slice (some ⟨w.heap.size, 0, none⟩) hosts hosts] 101)) := ((Fr.alloc0 _ _).alloc _)
  have hs0 : ((w.alloc (.cells (zeros (.pointer none) hosts).toArray 102)).alloc (.cells #[.slice (some ⟨w.heap.size, 0, none⟩) hosts hosts] 101)).heap.size = w.heap.size + 2 := by simp
  have hb1 : ((w.alloc (.cells (zeros (.pointer none) hosts).toArray 102)).alloc (.cells #[.slice (some ⟨w.heap.size, 0, none⟩) hosts hosts] 101)).heap[w.heap.size + 1]? = some (.cells #[.slice (some ⟨w.heap.size, 0, none⟩) hosts hosts] 101 (0, 0)) := heap_alloc2
  have hb0 : ((w.alloc (.cells (zeros (.pointer none) hosts).toArray 102)).alloc (.cells #[.slice (some ⟨w.heap.size, 0, none⟩) hosts hosts] 101)).heap[w.heap.size]? = some (.cells (zeros (.pointer none) hosts).toArray 102 (0, 0)) := by
    rw [heap_alloc_old _ _ (by simp)]
    exact heap_alloc_new _ _
  generalize ((w.alloc (.cells (zeros (.pointer none) hosts).toArray 102)).alloc (.cells #[.slice (some ⟨w.heap.size, 0, none⟩) hosts hosts] 101)) = W0 at *
  have Hs0 := Lib.hid hs0
  clear hs0
  go_loopw [24] (fun i wr => ∃ k q, k ≤ hosts ∧ i = .int .i64 (k : Nat) ∧ NewInv w W0 self hosts queue window wr k q) (fun i _ => 16 - (intOf i).toNat)
  case atStart =>
    refine ⟨0, fun _ => 0, Nat.zero_le _, rfl, by rw [rowN_zero]; exact hb0, fun h hh => by omega, fun h h' hh => by omega, Fr.refl _ _, fun b h1 h2 => ?_⟩
    have := Hs0.out
    by_cases hb : b = w.heap.size
    · subst hb; exact ⟨_, typ_of_heap hb0, by decide⟩
    · have : b = w.heap.size + 1 := by omega
      subst this; exact ⟨_, typ_of_heap hb1, by decide⟩
  case round =>
    obtain ⟨k, q, hk, rfl, hI⟩ := hrel
    have hs0 := Hs0.out
    have hszr := hI.fr.size
    have hrw := hI.row
    have hca : wr.cell? ⟨w.heap.size + 1, 0, none⟩ = some (.slice (some ⟨w.heap.size, 0, none⟩) hosts hosts) := by
      rw [hI.fr.cell (by omega) (by unfold One; omega), cell_of_row _ _ 0 _ _ _ hb1]; rfl
    have h1lt : w.heap.size + 1 < wr.heap.size := by omega
    have h0lt : w.heap.size < wr.heap.size := by omega
    have HI := Lib.hid hI
    clear hI hs0 hszr
    by_cases hlt : k < hosts
    · have hk1 : (k : Int) < (hosts : Int) := by omega
      have e8 : IntKind.u8.wrap (k : Int) = k := by rw [IntKind.wrap_u8]; omega
      by_cases hne : k = self
      · have hneb : ((k : Int) != (self : Int)) = false := by rw [bne_eq_false_iff_eq]; omega
        have Hne := Lib.hid hne
        clear hne hrw
        go_wp2_with fail
        have hI := HI.out
        have hne := Hne.out
        refine ⟨⟨k + 1, q, by omega, by go_num, ⟨by have hr := hI.row; rw [hne] at hr ⊢; rw [rowN_no]; exact hr, fun h hh hn => hI.peers h (by omega) hn, fun h h' hh hn hh' hn' => hI.inj h h' (by omega) hn (by omega) hn', hI.fr, hI.ty⟩⟩, by simp [intOf]; omega⟩
      · have hneb : ((k : Int) != (self : Int)) = true := by rw [bne_iff_ne]; omega
        have hck : wr.cell? ⟨w.heap.size, k, none⟩ = some (.pointer none) := by
          rw [cell_of_row _ _ k _ _ _ hrw]; simp [rowN, hlt]
        have hzk : ∀ o, wr.frozen? ⟨w.heap.size, o, none⟩ = false := fun o => by simp [World.frozen?, hrw]
        have Hne := Lib.hid hne
        clear hne hrw
        go_wp2_with fail
        have hI := HI.out
        have hne := Hne.out
        have hrw := hI.row
        have hs1 : (wr.setCell ⟨w.heap.size, k, none⟩ (.pointer (some ⟨wr.heap.size, 0, none⟩))).heap.size = wr.heap.size := by simp [World.setCell]
        have hnew := heap_alloc_new (wr.setCell ⟨w.heap.size, k, none⟩ (.pointer (some ⟨wr.heap.size, 0, none⟩))) (.cells (peerCells (newPeer k queue window) nilS nilS).toArray 108)
        rw [hs1] at hnew
        have hfW : Fr (One w.heap.size) wr ((wr.setCell ⟨w.heap.size, k, none⟩ (.pointer (some ⟨wr.heap.size, 0, none⟩))).alloc (.cells (peerCells (newPeer k queue window) nilS nilS).toArray 108)) := (Fr.setCell0 wr ⟨w.heap.size, k, none⟩ _).then0 (Fr.alloc0 _ _)
        have hrow : ((wr.setCell ⟨w.heap.size, k, none⟩ (.pointer (some ⟨wr.heap.size, 0, none⟩))).alloc (.cells (peerCells (newPeer k queue window) nilS nilS).toArray 108)).heap[w.heap.size]? = some (.cells (rowN self hosts (fun x => if x = k then wr.heap.size else q x) (k + 1)).toArray 102 (0, 0)) := by
          rw [heap_alloc_old _ _ (by rw [hs1]; exact h0lt), heap_set hrw, ← rowN_yes hlt hne]
          simp [ptrTo]
        have hsz : ((wr.setCell ⟨w.heap.size, k, none⟩ (.pointer (some ⟨wr.heap.size, 0, none⟩))).alloc (.cells (peerCells (newPeer k queue window) nilS nilS).toArray 108)).heap.size = wr.heap.size + 1 := by simp [World.setCell]
        rw [show (#[.int .u8 (k : Int), .int .i64 (queue : Int), .int .i64 (window : Int), .int .u64 0, .int .u64 0, .slice none 0 0, .int .u64 0, .int .u8 (k : Int), .int .u64 (window : Int), .int .u64 0, .slice none 0 0] : Array Value) = (peerCells (newPeer k queue window) nilS nilS).toArray from rfl]
        generalize (wr.setCell ⟨w.heap.size, k, none⟩ (.pointer (some ⟨wr.heap.size, 0, none⟩))).alloc (.cells (peerCells (newPeer k queue window) nilS nilS).toArray 108) = Wn at *
        refine ⟨⟨k + 1, _, by omega, by go_num, ⟨hrow, fun h hh hn => ?_, fun h h' hh hn hh' hn' he => ?_, hI.fr.trans hfW, fun b h1 h2 => ?_⟩⟩, by simp [intOf]; omega⟩
        · by_cases hhk : h = k
          · subst hhk
            rw [if_pos rfl]
            exact ⟨h1lt, by omega, hnew⟩
          · rw [if_neg hhk]
            obtain ⟨a1, a2, a3⟩ := hI.peers h (by omega) hn
            exact ⟨a1, by omega, by rw [hfW.block _ a2 (by unfold One; omega)]; exact a3⟩
        · by_cases hhk : h = k
          · by_cases hhk' : h' = k
            · rw [hhk, hhk']
            · rw [if_pos hhk, if_neg hhk'] at he
              have := (hI.peers h' (by omega) hn').2.1; omega
          · by_cases hhk' : h' = k
            · rw [if_neg hhk, if_pos hhk'] at he
              have := (hI.peers h (by omega) hn).2.1; omega
            · rw [if_neg hhk, if_neg hhk'] at he
              exact hI.inj h h' (by omega) hn (by omega) hn' he
        · by_cases hb : b = wr.heap.size
          · subst hb; exact ⟨_, typ_of_heap hnew, by decide⟩
          · obtain ⟨ty, ht, hn⟩ := hI.ty b h1 (by omega)
            exact ⟨ty, hfW.ty _ _ ht, hn⟩
    · have hkn : k = hosts := by omega
      have hk1 : ¬ (k : Int) < (hosts : Int) := by omega
      have Hkn := Lib.hid hkn
      clear hkn hrw
      go_wp2_with fail
      go_ret2
      have hI := HI.out
      rw [Hkn.out] at hI
      exact hI.post hB hf0 Hs0.out hb1
end Go.Proofs.Ytplgmcpglbpghaa
