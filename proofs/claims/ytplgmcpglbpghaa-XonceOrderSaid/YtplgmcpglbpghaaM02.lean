/- Part 2 of the proof: Mem, Res, App, Lib1. -/
import Derived.Test.YtplgmcpglbpghaaM01
import Derived.Maps.AppendAt
set_option linter.all false
set_option linter.unusedVariables false
set_option linter.unusedSimpArgs false

namespace Go.Proofs.Ytplgmcpglbpghaa
open Go.RowKit

abbrev nilS : Value := .slice none 0 0

/-- The cells of a message that is a Data or an Ack. -/
def msgCells (kind : Int) (seq mask : Nat) (pv : Value) : List Value :=
  [.int .u8 kind, .int .u64 seq, .int .u64 0, .int .u64 0, nilS, nilS, .bool false, .int .u8 0, .int .u8 0, .int .u8 0, .int .u32 0, .int .u32 0, .int .u64 mask, .int .u8 0, nilS, nilS, pv]
def outCells (o : OutD) (pv : Value) : List Value := .int .u8 o.to :: msgCells o.kind o.seq o.mask pv
def upCells (u : UpD) (pv : Value) : List Value := [.int .u8 u.src, .int .u64 u.seq, pv]
def frameCells (f : Nat × List Int) (pv : Value) : List Value := [.int .u64 f.1, pv]

/-- The cells of a list of things, each with one list of bytes. -/
def cellsOf {α : Type} (enc : α → Value → List Value) : List α → List Value → List Value
  | a :: l, v :: vs => enc a v ++ cellsOf enc l vs
  | _, _ => []

theorem cellsOf_append {α : Type} (enc : α → Value → List Value) : ∀ (l : List α) (vs : List Value) (l' : List α) (vs' : List Value), l.length = vs.length → cellsOf enc (l ++ l') (vs ++ vs') = cellsOf enc l vs ++ cellsOf enc l' vs'
  | [], [], _, _, _ => rfl
  | a :: l, v :: vs, l', vs', h => by
    simp only [List.cons_append, cellsOf, List.append_assoc]
    rw [cellsOf_append enc l vs l' vs' (by simpa using h)]
  | [], _ :: _, _, _, h => by simp at h
  | _ :: _, [], _, _, h => by simp at h

theorem cellsOf_length {α : Type} {enc : α → Value → List Value} {sz : Nat} (hsz : ∀ a v, (enc a v).length = sz) : ∀ (l : List α) (vs : List Value), l.length = vs.length → (cellsOf enc l vs).length = l.length * sz
  | [], [], _ => by simp [cellsOf]
  | a :: l, v :: vs, h => by
    simp only [cellsOf, List.length_append, hsz, List.length_cons]
    rw [cellsOf_length hsz l vs (by simpa using h), Nat.add_mul, Nat.one_mul, Nat.add_comm]
  | [], _ :: _, h => by simp at h
  | _ :: _, [], h => by simp at h

theorem cellsOf_get {α : Type} {enc : α → Value → List Value} {sz : Nat} (hsz : ∀ a v, (enc a v).length = sz) : ∀ (l : List α) (vs : List Value) (j : Nat) (a : α) (v : Value), l[j]? = some a → vs[j]? = some v →
    ∀ k, k < sz → (cellsOf enc l vs)[j * sz + k]? = (enc a v)[k]?
  | b :: l, u :: vs, 0, a, v, ha, hv, k, hk => by
    simp only [List.getElem?_cons_zero, Option.some.injEq] at ha hv
    subst ha; subst hv
    simp only [cellsOf, Nat.zero_mul, Nat.zero_add]
    rw [List.getElem?_append_left (by rw [hsz]; exact hk)]
  | b :: l, u :: vs, j + 1, a, v, ha, hv, k, hk => by
    simp only [cellsOf]
    rw [List.getElem?_append_right (by rw [hsz, Nat.add_mul]; omega), hsz, show (j + 1) * sz + k - sz = j * sz + k by rw [Nat.add_mul]; omega]
    exact cellsOf_get hsz l vs j a v (by simpa using ha) (by simpa using hv) k hk
  | [], _, _, _, _, ha, _, _, _ => by simp at ha
  | _ :: _, [], _, _, _, _, hv, _, _ => by simp at hv

theorem outCells_length (o : OutD) (v : Value) : (outCells o v).length = 18 := rfl
theorem upCells_length (o : UpD) (v : Value) : (upCells o v).length = 3 := rfl
theorem frameCells_length (o : Nat × List Int) (v : Value) : (frameCells o v).length = 2 := rfl

/-- v is a list of Outs that nobody writes any more. -/
def Outs (B : Nat) (w : World) (v : Value) (os : List OutD) : Prop := ∃ pvs, All2 (Bytes B w) pvs (os.map (·.payload)) ∧ Sl [119] B w v os.length 18 (cellsOf outCells os pvs)
def Ups (B : Nat) (w : World) (v : Value) (us : List UpD) : Prop := ∃ pvs, All2 (Bytes B w) pvs (us.map (·.body)) ∧ Sl [121] B w v us.length 3 (cellsOf upCells us pvs)
theorem Outs.fr {B : Nat} {S : Nat → Prop} {w w' : World} {v : Value} {l : List OutD} (h : Outs B w v l) (hf : Fr S w w') (hS : Free B w S) : Outs B w' v l :=
  let ⟨pvs, h1, h2⟩ := h
  ⟨pvs, h1.mono fun _ _ h => h.fr hf (hS.sub (by decide)), h2.fr hf (hS.sub (by decide))⟩
theorem Ups.fr {B : Nat} {S : Nat → Prop} {w w' : World} {v : Value} {l : List UpD} (h : Ups B w v l) (hf : Fr S w w') (hS : Free B w S) : Ups B w' v l :=
  let ⟨pvs, h1, h2⟩ := h
  ⟨pvs, h1.mono fun _ _ h => h.fr hf (hS.sub (by decide)), h2.fr hf (hS.sub (by decide))⟩
theorem Outs.nil (B : Nat) (w : World) : Outs B w nilS [] := ⟨[], trivial, Sl.nil _ B w 18⟩
theorem Ups.nil (B : Nat) (w : World) : Ups B w nilS [] := ⟨[], trivial, Sl.nil _ B w 3⟩

/-- The eleven cells of a peer. -/
def peerCells (p : PeerD) (vq ve : Value) : List Value :=
  [.int .u8 p.to, .int .i64 p.room, .int .i64 p.window, .int .u64 p.sent, .int .u64 p.acked, vq, .int .u64 p.mask, .int .u8 p.to, .int .u64 p.reach, .int .u64 p.deliv, ve]

/-- A queue that lies in F. -/
def QueueAt (B : Nat) (w : World) (v : Value) (q : List (List Int)) (F : Nat → Prop) : Prop :=
  ∃ vs, All2 (Bytes B w) vs q ∧ w.ownsRow B 33 1 v q.length vs ∧ ∀ k, v.ownBlock = some k → F k
def EarlyAt (B : Nat) (w : World) (v : Value) (l : List (Nat × List Int)) (F : Nat → Prop) : Prop :=
  ∃ vs, All2 (Bytes B w) vs (l.map (·.2)) ∧ w.ownsRow B 97 2 v l.length (cellsOf frameCells l vs) ∧ ∀ k, v.ownBlock = some k → F k

/-- Block q is a peer; all that belongs to it and may be written lies in F. -/
structure PeerAt (B : Nat) (w : World) (q : Nat) (p : PeerD) (F : Nat → Prop) : Prop where
  here : F q
  base : B ≤ q
  ex : ∃ vq ve, w.heap[q]? = some (.cells (peerCells p vq ve).toArray 108 (0, 0)) ∧ QueueAt B w vq p.queue F ∧ EarlyAt B w ve p.early F

theorem QueueAt.fr {B : Nat} {S F : Nat → Prop} {w w' : World} {v : Value} {l : List (List Int)} (h : QueueAt B w v l F) (hf : Fr S w w') (hS : Free B w S) (hn : ∀ k, F k → ¬ S k) : QueueAt B w' v l F :=
  let ⟨vs, h1, h2, h3⟩ := h
  ⟨vs, h1.mono fun _ _ h => h.fr hf (hS.sub (by decide)), owns_fr h2 hf (fun k hk => hn k (h3 k hk)), h3⟩
theorem EarlyAt.fr {B : Nat} {S F : Nat → Prop} {w w' : World} {v : Value} {l : List (Nat × List Int)} (h : EarlyAt B w v l F) (hf : Fr S w w') (hS : Free B w S) (hn : ∀ k, F k → ¬ S k) : EarlyAt B w' v l F :=
  let ⟨vs, h1, h2, h3⟩ := h
  ⟨vs, h1.mono fun _ _ h => h.fr hf (hS.sub (by decide)), owns_fr h2 hf (fun k hk => hn k (h3 k hk)), h3⟩
theorem QueueAt.mono {B : Nat} {F F' : Nat → Prop} {w : World} {v : Value} {l : List (List Int)} (h : QueueAt B w v l F) (hF : ∀ k, F k → F' k) : QueueAt B w v l F' :=
  let ⟨vs, h1, h2, h3⟩ := h
  ⟨vs, h1, h2, fun k hk => hF k (h3 k hk)⟩
theorem EarlyAt.mono {B : Nat} {F F' : Nat → Prop} {w : World} {v : Value} {l : List (Nat × List Int)} (h : EarlyAt B w v l F) (hF : ∀ k, F k → F' k) : EarlyAt B w v l F' :=
  let ⟨vs, h1, h2, h3⟩ := h
  ⟨vs, h1, h2, fun k hk => hF k (h3 k hk)⟩
theorem PeerAt.lt {B : Nat} {w : World} {q : Nat} {p : PeerD} {F : Nat → Prop} (h : PeerAt B w q p F) : q < w.heap.size := by
  obtain ⟨vq, ve, hh, _⟩ := h.ex
  exact (Array.getElem?_eq_some_iff.1 hh).1
theorem PeerAt.fr {B : Nat} {S F : Nat → Prop} {w w' : World} {q : Nat} {p : PeerD} (h : PeerAt B w q p F) (hf : Fr S w w') (hS : Free B w S) (hn : ∀ k, F k → ¬ S k) : PeerAt B w' q p F := by
  have hlt := h.lt
  obtain ⟨h0, hb, vq, ve, hh, h1, h2⟩ := h
  exact ⟨h0, hb, vq, ve, by rw [hf.block q hlt (hn q h0)]; exact hh, h1.fr hf hS hn, h2.fr hf hS hn⟩
theorem PeerAt.mono {B : Nat} {F F' : Nat → Prop} {w : World} {q : Nat} {p : PeerD} (h : PeerAt B w q p F) (hF : ∀ k, F k → F' k) : PeerAt B w q p F' :=
  let ⟨h0, hb, vq, ve, hh, h1, h2⟩ := h
  ⟨hF _ h0, hb, vq, ve, hh, h1.mono hF, h2.mono hF⟩

theorem heap_set {w : World} {b k : Nat} {c : Array Value} {t : TypeId} {f : Nat × Nat} {v : Value} (h : w.heap[b]? = some (.cells c t f)) : (w.setCell ⟨b, k, none⟩ v).heap[b]? = some (.cells (c.setIfInBounds k v) t f) := by
  simp [World.setCell, Array.getElem?_modify, h]

theorem own_ne {base : Nat} {w : World} {v : Value} {e : TypeId} {n sz : Nat} {xs : List Value} (h : w.ownsRow base e sz v n xs) {q : Nat} {c : Array Value} {t : TypeId} {f : Nat × Nat} (hq : w.heap[q]? = some (.cells c t f)) (hne : t ≠ e) : v.ownBlock ≠ some q := fun hk => by
  rcases h.2 with ⟨rfl, _⟩ | ⟨g, cap, cur, rfl, hb, hg, _⟩
  · cases hk
  · cases hk; rw [hq] at hg; cases hg; exact hne rfl

/-- One of the peer's numbers is written. -/
theorem PeerAt.set {B : Nat} {w : World} {q : Nat} {p p' : PeerD} {F : Nat → Prop} (h : PeerAt B w q p F) (k : Nat) (v : Value) (hc : ∀ vq ve, ((peerCells p vq ve).toArray.setIfInBounds k v) = (peerCells p' vq ve).toArray) (h1 : p'.queue = p.queue) (h2 : p'.early = p.early) (hF : Free B w F) : PeerAt B (w.setCell ⟨q, k, none⟩ v) q p' F := by
  obtain ⟨h0, hb, vq, ve, hh, ⟨vs, hvs, hown, hq⟩, ⟨us, hus, hown2, he⟩⟩ := h
  have hf := Fr.setCell0 w ⟨q, k, none⟩ v
  have hfree : Free B w (One q) := by rintro b rfl; exact hF _ h0
  refine ⟨h0, hb, vq, ve, by rw [← hc]; exact heap_set hh, ?_, ?_⟩
  · rw [h1]; exact ⟨vs, hvs.mono fun _ _ h => h.fr hf (hfree.sub (by decide)), owns_fr hown hf (fun j hj e => own_ne hown hh (by decide) (by rw [hj, e])), hq⟩
  · rw [h2]; exact ⟨us, hus.mono fun _ _ h => h.fr hf (hfree.sub (by decide)), owns_fr hown2 hf (fun j hj e => own_ne hown2 hh (by decide) (by rw [hj, e])), he⟩
theorem PeerAt.drew {B : Nat} {w : World} {q : Nat} {p : PeerD} {F : Nat → Prop} (h : PeerAt B w q p F) : PeerAt B w.drew q p F := h.fr ((Fr.refl No w).drew) FreeT.no (fun _ _ h => h)

theorem FreeT.of {ts : List Nat} {B : Nat} {w : World} {S : Nat → Prop} (h : ∀ b, S b → B ≤ b ∧ ∃ t, typ w b = some t ∧ t ∉ ts) : FreeT ts B w S := by
  rintro b hb (hi | ⟨u, hu, hi⟩)
  · have := (h b hb).1; omega
  · obtain ⟨_, t, ht, hn⟩ := h b hb
    rw [ht] at hi; cases hi; exact hn hu

/-- What F has become behind a call: the new rows of queues and of early frames may be its own. -/
def grow (F : Nat → Prop) (w w' : World) : Nat → Prop := fun b => F b ∨ (w.heap.size ≤ b ∧ b < w'.heap.size ∧ (typ w' b = some 33 ∨ typ w' b = some 97))

theorem grow_mono' {F S : Nat → Prop} {w w1 w2 : World} (hf : Fr S w1 w2) : ∀ b, grow F w w1 b → grow F w w2 b := by
  rintro b (hb | ⟨h1, h2, h3⟩)
  · exact .inl hb
  · exact .inr ⟨h1, Nat.lt_of_lt_of_le h2 hf.size, h3.imp (hf.ty b _) (hf.ty b _)⟩

/-- F is a set of blocks that may be written. -/
def Reg (B : Nat) (w : World) (F : Nat → Prop) : Prop := ∀ b, F b → B ≤ b ∧ ∃ t, typ w b = some t ∧ t ∉ ([5, 119, 121] : List Nat)
theorem Reg.free {B : Nat} {w : World} {F : Nat → Prop} (h : Reg B w F) : Free B w F := FreeT.of h
theorem Reg.free8 {B : Nat} {w : World} {F : Nat → Prop} (h : Reg B w F) : FreeT [5] B w F := h.free.sub (by decide)
theorem Reg.lt {B : Nat} {w : World} {F : Nat → Prop} (h : Reg B w F) : ∀ b, F b → b < w.heap.size := fun b hb => let ⟨_, _, ht, _⟩ := h b hb; typ_lt ht
theorem Reg.fr {B : Nat} {w w' : World} {F S : Nat → Prop} (h : Reg B w F) (hf : Fr S w w') : Reg B w' F := fun b hb => let ⟨h1, t, ht, hn⟩ := h b hb; ⟨h1, t, hf.ty b t ht, hn⟩
theorem Reg.grow {B : Nat} {w w' : World} {F S : Nat → Prop} (h : Reg B w F) (hf : Fr S w w') (hB : B ≤ w.heap.size) : Reg B w' (grow F w w') := by
  rintro b (hb | ⟨h1, h2, h3⟩)
  · exact h.fr hf b hb
  · rcases h3 with h3 | h3 <;> exact ⟨by omega, _, h3, by decide⟩

theorem owns_base {base base' : Nat} {w : World} {v : Value} {e : TypeId} {n sz : Nat} {xs : List Value} (h : w.ownsRow base e sz v n xs) (hb : base' ≤ base) : w.ownsRow base' e sz v n xs :=
  ⟨h.1, h.2.imp id fun ⟨g, cap, cur, h1, h2, h3⟩ => ⟨g, cap, cur, h1, Nat.le_trans hb h2, h3⟩⟩
theorem owns_typ {base : Nat} {w : World} {v : Value} {e : TypeId} {n sz : Nat} {xs : List Value} (h : w.ownsRow base e sz v n xs) {k : Nat} (hk : v.ownBlock = some k) : typ w k = some e ∧ base ≤ k := by
  rcases h.2 with ⟨rfl, _⟩ | ⟨g, cap, cur, rfl, hb, hg, _⟩
  · cases hk
  · cases hk; exact ⟨typ_of_heap hg, hb⟩

/-- The peer gets another queue, of a row of its own. -/
theorem PeerAt.setQueue {B B' : Nat} {w : World} {q : Nat} {p : PeerD} {F : Nat → Prop} (h : PeerAt B w q p F) (hF : Free B w F) {v : Value} {n : Nat} {vs : List Value} {l : List (List Int)} (hown : w.ownsRow B' 33 1 v n vs) (hvs : All2 (Bytes B w) vs l) (hn : n = l.length) (hB : B ≤ B') :
    PeerAt B (w.setCell ⟨q, 5, none⟩ v) q { p with queue := l } (fun b => F b ∨ v.ownBlock = some b) := by
  obtain ⟨h0, hb, vq, ve, hh, _, ⟨us, hus, hown2, he⟩⟩ := h
  have hf := Fr.setCell0 w ⟨q, 5, none⟩ v
  have hfree : Free B w (One q) := by rintro b rfl; exact hF _ h0
  subst hn
  refine ⟨.inl h0, hb, v, ve, by rw [heap_set hh]; rfl, ⟨vs, hvs.mono fun _ _ h => h.fr hf (hfree.sub (by decide)), ?_, fun k hk => .inr hk⟩, ⟨us, hus.mono fun _ _ h => h.fr hf (hfree.sub (by decide)), owns_fr hown2 hf (fun j hj e => own_ne hown2 hh (by decide) (by rw [hj, e])), fun k hk => .inl (he k hk)⟩⟩
  exact owns_fr (owns_base hown hB) hf (fun j hj e => own_ne hown hh (by decide) (by rw [hj, e]))
/-- .. another list of early frames. -/
theorem PeerAt.setEarly {B B' : Nat} {w : World} {q : Nat} {p : PeerD} {F : Nat → Prop} (h : PeerAt B w q p F) (hF : Free B w F) {v : Value} {n : Nat} {vs : List Value} {l : List (Nat × List Int)} (hown : w.ownsRow B' 97 2 v n (cellsOf frameCells l vs)) (hvs : All2 (Bytes B w) vs (l.map (·.2))) (hn : n = l.length) (hB : B ≤ B') :
    PeerAt B (w.setCell ⟨q, 10, none⟩ v) q { p with early := l } (fun b => F b ∨ v.ownBlock = some b) := by
  obtain ⟨h0, hb, vq, ve, hh, ⟨us, hus, hown2, he⟩, _⟩ := h
  have hf := Fr.setCell0 w ⟨q, 10, none⟩ v
  have hfree : Free B w (One q) := by rintro b rfl; exact hF _ h0
  subst hn
  refine ⟨.inl h0, hb, vq, v, by rw [heap_set hh]; rfl, ⟨us, hus.mono fun _ _ h => h.fr hf (hfree.sub (by decide)), owns_fr hown2 hf (fun j hj e => own_ne hown2 hh (by decide) (by rw [hj, e])), fun k hk => .inl (he k hk)⟩, ⟨vs, hvs.mono fun _ _ h => h.fr hf (hfree.sub (by decide)), ?_, fun k hk => .inr hk⟩⟩
  exact owns_fr (owns_base hown hB) hf (fun j hj e => own_ne hown hh (by decide) (by rw [hj, e]))

theorem grow_mono {F S : Nat → Prop} {w w1 w2 : World} (hf : Fr S w1 w2) (hS : ∀ b, w.heap.size ≤ b → ¬ S b) : ∀ b, grow F w w1 b → grow F w w2 b := by
  rintro b (hb | ⟨h1, h2, h3⟩)
  · exact .inl hb
  · exact .inr ⟨h1, Nat.lt_of_lt_of_le h2 hf.size, by rw [hf.typ h2 (hS b h1)]; exact h3⟩

end Go.Proofs.Ytplgmcpglbpghaa

/- Results that lie in a variable; a variable that the call makes for a struct. -/
namespace Go.Proofs.Ytplgmcpglbpghaa
open Go.RowKit

theorem Fr.setCells {S : Nat → Prop} {a : World} {b : Nat} (hb : a.heap.size ≤ b ∨ S b) : ∀ (cs : List Value) (o : Nat) {w : World}, Fr S a w → Fr S a (w.setCells b o cs)
  | [], _, _, h => h
  | v :: r, o, _, h => Fr.setCells hb r (o + 1) (h.setCell ⟨b, o, none⟩ v hb)

theorem heap_size_setCells (b : Nat) : ∀ (cs : List Value) (o : Nat) (w : World), (w.setCells b o cs).heap.size = w.heap.size
  | [], _, _ => rfl
  | v :: r, o, w => by rw [World.setCells, heap_size_setCells b r (o + 1)]; simp [World.setCell]

/-- The variable that was just made is there and may be written. -/
theorem there_new {w w1 : World} {c : Array Value} {t : TypeId} (hf : Fr No (w.alloc (.cells c t)) w1) : w1.there w.heap.size 0 c.size := fun j hj => by
  have hlt : w.heap.size < (w.alloc (.cells c t)).heap.size := by simp
  have hh := hf.block w.heap.size hlt (fun h => h)
  have hn : (w.alloc (.cells c t)).heap[w.heap.size]? = some (.cells c t (0, 0)) := heap_alloc_new w _
  rw [hn] at hh
  rw [Nat.zero_add]
  simp only [World.cell?, World.frozen?, hh]
  simp [hj]

theorem typ_new {w w1 : World} {c : Array Value} {t : TypeId} (hf : Fr No (w.alloc (.cells c t)) w1) : typ w1 w.heap.size = some t := by
  have hlt : w.heap.size < (w.alloc (.cells c t)).heap.size := by simp
  have hh := hf.block w.heap.size hlt (fun h => h)
  have hn : (w.alloc (.cells c t)).heap[w.heap.size]? = some (.cells c t (0, 0)) := heap_alloc_new w _
  rw [hn] at hh
  exact typ_of_heap hh

theorem there_fr {S : Nat → Prop} {w w' : World} {b o n : Nat} (h : w.there b o n) (hf : Fr S w w') (hS : ¬ S b) : w'.there b o n := fun j hj => by
  obtain ⟨h1, h2⟩ := h j hj
  obtain ⟨u, hu⟩ := Option.isSome_iff_exists.1 h1
  have hlt := World.block_lt_of_cell? w _ hu
  rw [hf.cell hlt hS, hf.froz hlt hS]
  exact ⟨h1, h2⟩
theorem there_drew {w : World} {b o n : Nat} (h : w.there b o n) : w.drew.there b o n := h

theorem there_alloc {w : World} {c : Array Value} {t : TypeId} : (w.alloc (.cells c t)).there w.heap.size 0 c.size := there_new (Fr.refl _ _)

theorem there_alloc2 {w : World} {o : Obj} {c : Array Value} {t : TypeId} : ((w.alloc o).alloc (.cells c t)).there (w.heap.size + 1) 0 c.size := by
  have h := there_alloc (w := w.alloc o) (c := c) (t := t)
  rwa [show (w.alloc o).heap.size = w.heap.size + 1 by simp] at h
theorem heap_alloc2 {w : World} {o : Obj} {p : Obj} : ((w.alloc o).alloc p).heap[w.heap.size + 1]? = some p := by
  have h := heap_alloc_new (w.alloc o) p
  rwa [show (w.alloc o).heap.size = w.heap.size + 1 by simp] at h

theorem heap_setCells {b : Nat} {t : TypeId} {f : Nat × Nat} : ∀ (cs : List Value) (o : Nat) (w : World) (c : List Value), w.heap[b]? = some (.cells c.toArray t f) → o + cs.length ≤ c.length →
    (w.setCells b o cs).heap[b]? = some (.cells (c.take o ++ cs ++ c.drop (o + cs.length)).toArray t f)
  | [], o, w, c, h, _ => by simpa [World.setCells] using h
  | v :: r, o, w, c, h, hl => by
    simp only [List.length_cons] at hl
    have h1 : (w.setCell ⟨b, o, none⟩ v).heap[b]? = some (.cells (c.set o v).toArray t f) := by
      simp [World.setCell, Array.getElem?_modify, h]
    rw [World.setCells, heap_setCells r (o + 1) _ (c.set o v) h1 (by simp; omega)]
    congr 3
    have e1 : (c.set o v).take (o + 1) = c.take o ++ [v] := by
      rw [List.take_succ, List.take_set_of_le (Nat.le_refl o)]
      simp [List.getElem?_set_self (by omega : o < c.length)]
    have e2 : (c.set o v).drop (o + 1 + r.length) = c.drop (o + (v :: r).length) := by
      rw [List.drop_set_of_lt (by omega)]
      simp only [List.length_cons]
      congr 1; omega
    rw [e1, e2]
    simp

/-- A whole variable is written. -/
theorem heap_setAll {b : Nat} {t : TypeId} {f : Nat × Nat} {w : World} {c : Array Value} {cs : List Value} (h : w.heap[b]? = some (.cells c t f)) (hl : cs.length = c.size) : (w.setCells b 0 cs).heap[b]? = some (.cells cs.toArray t f) := by
  have h1 : w.heap[b]? = some (.cells c.toList.toArray t f) := by simpa using h
  rw [heap_setCells cs 0 w c.toList h1 (by simp; omega)]
  simp [hl]

theorem results_cell1 {P : Program} {fn : Func} {p : Tmp} {ty : TypeId} (h : fn.results = #[.cell p ty]) {tmps : Array Value} {w : World} {b o : Nat} {cs : List Value} {d : TypeDesc}
    (hp : tmps.getD p undef = .pointer (some ⟨b, o, none⟩)) (hc : w.rangeAt b o cs) (hu : P.underlying ty = some d) (hd : d.isRow = true) (hi : (P.info? ty).map (·.size) = some cs.length) :
    (results fn tmps).run P w = .ok (.agg cs.toArray) w := by
  have hl := run_loadVar_mid (P := P) w b o ty cs d hc hu hd hi
  have hp' := hp
  rw [Array.getD_eq_getD_getElem?] at hp'
  simp only [results, h]
  simp [Sem.run_bind, hp', asAddr, hl]

theorem results_cell2 {P : Program} {fn : Func} {p u : Tmp} {ty : TypeId} (h : fn.results = #[.cell p ty, .tmp u]) {tmps : Array Value} {w : World} {b o : Nat} {cs : List Value} {d : TypeDesc}
    (hp : tmps.getD p undef = .pointer (some ⟨b, o, none⟩)) (hc : w.rangeAt b o cs) (hu : P.underlying ty = some d) (hd : d.isRow = true) (hi : (P.info? ty).map (·.size) = some cs.length) :
    (results fn tmps).run P w = .ok (.tuple #[.agg cs.toArray, tmps.getD u undef]) w := by
  have hl := run_loadVar_mid (P := P) w b o ty cs d hc hu hd hi
  rw [results_cell_tmp h, hp]
  simp [asAddr, hl]
end Go.Proofs.Ytplgmcpglbpghaa

/- 'append' and 'make' in this seat's words. -/
namespace Go.Proofs.Ytplgmcpglbpghaa
open Go.RowKit

/-- What the table says of a slice type. -/
def El (t e : TypeId) (sz by' : Nat) : Prop :=
  Try.prog.underlying t = some (.slice e) ∧ ∃ i z, Try.prog.info? e = some i ∧ i.zero = some z ∧ i.size = sz ∧ i.bytes = by' ∧ z.cells.size = sz ∧ 0 < sz

theorem El.mk {t e : TypeId} {sz by' : Nat} {z : Value} (hu : Try.prog.underlying t = some (.slice e)) (hi : (Try.prog.info? e).map (fun i => (i.zero, i.size, i.bytes)) = some (some z, sz, by')) (hz : z.cells.size = sz) (hs : 0 < sz) : El t e sz by' := by
  obtain ⟨i0, hi, hz0, hz1, hz2⟩ := info_parts hi
  exact ⟨hu, i0, z, hi, hz0, hz1, hz2, hz, hs⟩

theorem typ_setRow {w : World} {g : Nat} {cur new : Array Value} {e : TypeId} {f : Nat × Nat} (hg : w.heap[g]? = some (.cells cur e f)) (k : Nat) (t : TypeId) (ht : typ w k = some t) : typ (w.setRow g new) k = some t := by
  by_cases h : k = g
  · subst h
    rw [typ_of_heap hg] at ht
    rw [typ_of_heap (setRow_heap w k cur new e f hg)]; exact ht
  · rw [typ_block (setRow_other w g k new h)]; exact ht

/-- append turns no block's type. -/
theorem app_ty {w w' : World} {t e ty : TypeId} {sz by' base : Nat} (hel : El t e sz by') {v v' : Value} {n : Nat} {xs : List Value} (hown : w.ownsRow base e sz v n xs)
    {ad : Addr} {m c : Nat} {news : List Value} (hl : news.length = m * sz) (hr : ∀ j u, news[j]? = some u → w.cell? (ad.add j) = some u) (h1 : ∀ u ∈ news, u.oneCell' = true)
    (hnm : n + m ≤ maxLen) (hby : (n + m) * by' ≤ 140737488355328)
    (h : (Builtin.append_ #[t, t] ty #[v, .slice (some ad) m c]).run Try.prog w = .ok v' w') : ∀ k u, typ w k = some u → typ w' k = some u := by
  obtain ⟨ht, i, z, hi, hz, hsz, hbz, hzs, hs0⟩ := hel
  subst hsz; subst hbz
  have hal : ∀ (o : Obj) k u, typ w k = some u → typ (w.drew.alloc o) k = some u := fun o k u hk => (((Fr.refl No w).drew).alloc o).ty k u hk
  simp only [maxLen] at hnm
  rcases hown.2 with ⟨rfl, rfl⟩ | ⟨g, cap, cur, rfl, hb, hg, hnc, hcm, hcs, htk⟩
  · by_cases hm : m = 0
    · subst hm
      have hn : news = [] := List.eq_nil_of_length_eq_zero (by simpa using hl)
      subst hn
      have : (Builtin.append_ #[t, t] ty #[.slice none 0 0, .slice (some ad) 0 c]).run Try.prog w = .ok (.slice none 0 0) w := by
        simp [Builtin.append_, run_underlying ht, sizeOf, typeInfo, hi, Builtin.lenOf, Builtin.firstCells, loadCells, loadCellsFrom]
      rw [this] at h; cases h
      exact fun _ _ h => h
    · have hr2 := run_append_nil (P := Try.prog) w t ty e i z ht hi hz ad m c news hl hr (by omega) (by omega) (by rw [Nat.zero_add] at hby; omega)
      rw [hr2] at h; cases h
      exact hal _
  · by_cases hroom : n + m ≤ cap
    · have hfit : n * i.size + news.length ≤ cur.size := by rw [hl, hcs, ← Nat.add_mul]; exact Nat.mul_le_mul_right _ hroom
      rw [run_append_room (P := Try.prog) w t ty e i ht hi g n cap cur hg ad m c news hl hr h1 hroom hfit] at h
      cases h
      exact typ_setRow hg
    · rw [run_append_grow (P := Try.prog) w t ty e i z ht hi hz ⟨g, 0, none⟩ n cap xs hown.1 (hown.cells (g := g) rfl) ad m c news hl hr (by omega) (by omega) (growslice_fits (by omega) hby)] at h
      cases h
      exact hal _

theorem run_app {w : World} {t e ty : TypeId} {sz by' base : Nat} (hel : El t e sz by') {v : Value} {n : Nat} {xs : List Value} (hown : w.ownsRow base e sz v n xs)
    {ao : Option Addr} {m c : Nat} {news : List Value} (hl : news.length = m * sz) (hr : news ≠ [] → ∃ b o, ao = some ⟨b, o, none⟩ ∧ w.rangeAt b o news) (h1 : ∀ u ∈ news, u.oneCell' = true)
    (hnm : n + m ≤ maxLen) (hby : (n + m) * by' ≤ 140737488355328) (hbase : base ≤ w.heap.size) :
    ∃ v' w', (Builtin.append_ #[t, t] ty #[v, .slice ao m c]).run Try.prog w = .ok v' w' ∧ w'.ownsRow base e sz v' (n + m) (xs ++ news) ∧ Fr (fun k => v.ownBlock = some k) w w' ∧ (v'.ownBlock = v.ownBlock ∨ v'.ownBlock = some w.heap.size) := by
  have hel := hel
  obtain ⟨ht, i, z, hi, hz, hsz, hbz, hzs, hs0⟩ := id hel
  cases ao with
  | some ad =>
    have h1m := h1
    have hr' : ∀ j u, news[j]? = some u → w.cell? (ad.add j) = some u := fun j u hu => by
      obtain ⟨b, o, ha, hr'⟩ := hr (fun h => by rw [h] at hu; cases hu)
      cases ha
      rw [Addr.add_mid]; exact hr' j u hu
    obtain ⟨v', w', h1, h2, h3, _, h5⟩ := run_append_own_at w base t ty e i z sz by' ht hi hz hsz hbz hzs hs0 v n xs hown ad m c news hl hr' h1 hnm hby hbase
    refine ⟨v', w', h1, h2, ⟨h3.os, h3.tape, h3.output, h3.size, fun k hk hn => h3.block k hk (fun e => hn e.symm), ?_⟩, h5⟩
    exact app_ty hel hown hl hr' h1m hnm hby h1
  | none =>
    have hne : news = [] := Classical.byContradiction fun hh => by obtain ⟨_, _, h, _⟩ := hr hh; cases h
    subst hne
    have hm : m = 0 := by
      have : m * sz = 0 := by simpa using hl.symm
      rcases Nat.mul_eq_zero.1 this with h | h
      · exact h
      · omega
    subst hm
    refine ⟨v, w, ?_, by simpa using hown, Fr.refl _ _, .inl rfl⟩
    rcases hown.2 with ⟨rfl, rfl⟩ | ⟨g, cap, cur, rfl, hb, hg, hnc, hcm, hcs, ht'⟩
    · simp [Builtin.append_, run_underlying ht, sizeOf, typeInfo, hi, Builtin.lenOf, Builtin.firstCells]
    · simp [Builtin.append_, run_underlying ht, sizeOf, typeInfo, hi, Builtin.lenOf, Builtin.firstCells, hnc, storeCells]

theorem owns_form {base : Nat} {w : World} {v : Value} {e : TypeId} {n sz : Nat} {xs : List Value} (h : w.ownsRow base e sz v n xs) : ∃ a c, v = .slice a n c := by
  obtain ⟨_, a, c, hv, _⟩ := range_of_owns h
  exact ⟨a, c, hv⟩

theorem wp_app {w : World} {t e : TypeId} {sz by' base : Nat} (hel : El t e sz by') {o : Oper} {a : Act} {K : Act → World → Prop} {Q : Exit → Act → World → Prop} (s x : Operand)
    (ho : o.op = .call { callee := .builtin .append, args := #[s, x], argTypes := #[t, t] }) {v : Value} {n : Nat} {xs : List Value} (hs : a.eval s = v) (hown : w.ownsRow base e sz v n xs)
    {ao : Option Addr} {m c : Nat} {news : List Value} (hx : a.eval x = .slice ao m c) (hl : news.length = m * sz) (hr : news ≠ [] → ∃ b o, ao = some ⟨b, o, none⟩ ∧ w.rangeAt b o news) (h1 : ∀ u ∈ news, u.oneCell' = true)
    (hnm : n + m ≤ maxLen) (hby : (n + m) * by' ≤ 140737488355328) (hbase : base ≤ w.heap.size)
    (h : ∀ ao' c' w', w'.ownsRow base e sz (.slice ao' (n + m) c') (n + m) (xs ++ news) → Fr (fun k => v.ownBlock = some k) w w' → ((Value.slice ao' (n + m) c').ownBlock = v.ownBlock ∨ (Value.slice ao' (n + m) c').ownBlock = some w.heap.size) → K (a.put o.dst (.slice ao' (n + m) c')) w') : o.wp Try.prog a w K Q := by
  obtain ⟨v', w', hrun, h2, h3, h4⟩ := run_app (ty := o.type) (c := c) hel hown hl hr h1 hnm hby hbase
  obtain ⟨ao', c', rfl⟩ := owns_form h2
  unfold Oper.wp execOp
  simp only [ho, resolve, invoke, builtin, Sem.run_bind, Sem.run_pure, Result.andThen_ok, List.map_toArray, List.map_cons, List.map_nil, hs, hx, hrun]
  exact h ao' c' w' h2 h3 h4

theorem wpList_app {w : World} {t e : TypeId} {sz by' base : Nat} (hel : El t e sz by') {ops : Array Oper} {rest : List Oper} {o : Oper} {a : Act} {Q : Exit → Act → World → Prop} (hgd : o.guard = none) (s x : Operand)
    (ho : o.op = .call { callee := .builtin .append, args := #[s, x], argTypes := #[t, t] }) {v : Value} {n : Nat} {xs : List Value} (hs : a.eval s = v) (hown : w.ownsRow base e sz v n xs)
    {ao : Option Addr} {m c : Nat} {news : List Value} (hx : a.eval x = .slice ao m c) (hl : news.length = m * sz) (hr : news ≠ [] → ∃ b o, ao = some ⟨b, o, none⟩ ∧ w.rangeAt b o news) (h1 : ∀ u ∈ news, u.oneCell' = true)
    (hnm : n + m ≤ maxLen) (hby : (n + m) * by' ≤ 140737488355328) (hbase : base ≤ w.heap.size)
    (h : ∀ ao' c' w', w'.ownsRow base e sz (.slice ao' (n + m) c') (n + m) (xs ++ news) → Fr (fun k => v.ownBlock = some k) w w' → ((Value.slice ao' (n + m) c').ownBlock = v.ownBlock ∨ (Value.slice ao' (n + m) c').ownBlock = some w.heap.size) → wpList Try.prog ops Q rest (a.put o.dst (.slice ao' (n + m) c')) w') : wpList Try.prog ops Q (o :: rest) a w :=
  wpList_plain hgd fun _ hK => wp_app hel s x ho hs hown hx hl hr h1 hnm hby hbase fun ao' c' w' h2 h3 h4 => hK _ _ (h ao' c' w' h2 h3 h4)

/-- The row that a literal of one element makes. -/
theorem range_new {w : World} {cs : List Value} {t : TypeId} : (w.alloc (.cells cs.toArray t)).rangeAt w.heap.size 0 cs := fun j v hv => by
  rw [Nat.zero_add, cell_of_row _ w.heap.size j cs.toArray t (0, 0) (heap_alloc_new w _)]
  simpa using hv

theorem owns_new {w : World} {cs : List Value} {t : TypeId} {sz n base : Nat} (hl : cs.length = n * sz) (hn : n ≤ maxLen) (hb : base ≤ w.heap.size) : (w.alloc (.cells cs.toArray t)).ownsRow base t sz (.slice (some ⟨w.heap.size, 0, none⟩) n n) n cs :=
  ⟨hl, .inr ⟨w.heap.size, n, cs.toArray, rfl, hb, heap_alloc_new w _, Nat.le_refl _, hn, by simpa using hl, by simp [← hl]⟩⟩

theorem Sl.new {ts : List Nat} {B : Nat} {w : World} {cs : List Value} {t : TypeId} {sz n : Nat} (hl : cs.length = n * sz) (hn : n ≤ maxLen) (ht : t ∈ ts) : Sl ts B (w.alloc (.cells cs.toArray t)) (.slice (some ⟨w.heap.size, 0, none⟩) n n) n sz cs :=
  Sl.of_owns (base := 0) (owns_new hl hn (Nat.zero_le _)) ht

theorem Outs.one {B : Nat} {w : World} {o : OutD} {pv : Value} (h : Bytes B w pv o.payload) : Outs B (w.alloc (.cells (outCells o pv).toArray 119)) (.slice (some ⟨w.heap.size, 0, none⟩) 1 1) [o] :=
  ⟨[pv], All2.one (h.fr (Fr.alloc0 _ _) FreeT.no), Sl.new (cs := outCells o pv) rfl (by simp [maxLen]) (by decide)⟩

/-- A list of the call's own: it grows by append. -/
def OwnL {α : Type} (enc : α → Value → List Value) (pay : α → List Int) (T sz : Nat) (B base : Nat) (w : World) (v : Value) (l : List α) : Prop :=
  ∃ pvs, All2 (Bytes B w) pvs (l.map pay) ∧ w.ownsRow base T sz v l.length (cellsOf enc l pvs)
abbrev OutsOwn (B base : Nat) (w : World) (v : Value) (l : List OutD) : Prop := OwnL outCells (·.payload) 119 18 B base w v l
abbrev UpsOwn (B base : Nat) (w : World) (v : Value) (l : List UpD) : Prop := OwnL upCells (·.body) 121 3 B base w v l

theorem OwnL.nil {α : Type} (enc : α → Value → List Value) (pay : α → List Int) (T sz : Nat) (B base : Nat) (w : World) : OwnL enc pay T sz B base w nilS [] := ⟨[], trivial, World.ownsRow_nil w base T sz⟩
theorem OwnL.fr {α : Type} {enc : α → Value → List Value} {pay : α → List Int} {T sz B base : Nat} {S : Nat → Prop} {w w' : World} {v : Value} {l : List α} (h : OwnL enc pay T sz B base w v l) (hf : Fr S w w') (hS : FreeT [5] B w S) (hn : ∀ k, v.ownBlock = some k → ¬ S k) : OwnL enc pay T sz B base w' v l :=
  let ⟨pvs, h1, h2⟩ := h
  ⟨pvs, h1.mono fun _ _ h => h.fr hf hS, owns_fr h2 hf hn⟩
theorem OwnL.fr0 {α : Type} {enc : α → Value → List Value} {pay : α → List Int} {T sz B base : Nat} {w w' : World} {v : Value} {l : List α} (h : OwnL enc pay T sz B base w v l) (hf : Fr No w w') : OwnL enc pay T sz B base w' v l := h.fr hf FreeT.no (fun _ _ h => h)
theorem OwnL.form {α : Type} {enc : α → Value → List Value} {pay : α → List Int} {T sz B base : Nat} {w : World} {v : Value} {l : List α} (h : OwnL enc pay T sz B base w v l) : ∃ a c, v = .slice a l.length c :=
  let ⟨_, _, h2⟩ := h
  owns_form h2
theorem OwnL.block {α : Type} {enc : α → Value → List Value} {pay : α → List Int} {T sz B base : Nat} {w : World} {v : Value} {l : List α} (h : OwnL enc pay T sz B base w v l) {k : Nat} (hk : v.ownBlock = some k) : typ w k = some T ∧ base ≤ k :=
  let ⟨_, _, h2⟩ := h
  owns_typ h2 hk
theorem OutsOwn.outs {B base : Nat} {w : World} {v : Value} {l : List OutD} (h : OutsOwn B base w v l) : Outs B w v l := let ⟨pvs, h1, h2⟩ := h; ⟨pvs, h1, Sl.of_owns h2 (by decide)⟩
theorem UpsOwn.ups {B base : Nat} {w : World} {v : Value} {l : List UpD} (h : UpsOwn B base w v l) : Ups B w v l := let ⟨pvs, h1, h2⟩ := h; ⟨pvs, h1, Sl.of_owns h2 (by decide)⟩

/-- append(l, x), x laid into a row of its own before: the law at the list of a plain region. -/
theorem wpList_snoc {α : Type} {enc : α → Value → List Value} {pay : α → List Int} {t T sz by' B base : Nat} (hel : El t T sz by') (henc : ∀ x v, (enc x v).length = sz) (hT : T ≠ 5) {w : World} {ops : Array Oper} {rest : List Oper} {o : Oper} {a : Act} {Q : Exit → Act → World → Prop} (hgd : o.guard = none) (s y : Operand)
    (ho : o.op = .call { callee := .builtin .append, args := #[s, y], argTypes := #[t, t] }) {v : Value} {l : List α} (hs : a.eval s = v) (hown : OwnL enc pay T sz B base w v l)
    {ao : Option Addr} {c : Nat} {x : α} {pv : Value} (hy : a.eval y = .slice ao 1 c) (hr : ∃ b o, ao = some ⟨b, o, none⟩ ∧ w.rangeAt b o (enc x pv)) (h1 : ∀ u ∈ enc x pv, u.oneCell' = true) (hpv : Bytes B w pv (pay x))
    (hB : B ≤ base) (hnm : l.length + 1 ≤ maxLen) (hby : (l.length + 1) * by' ≤ 140737488355328) (hbase : base ≤ w.heap.size)
    (h : ∀ ao' c' w', OwnL enc pay T sz B base w' (.slice ao' (l.length + 1) c') (l ++ [x]) → Fr (From base) w w' → wpList Try.prog ops Q rest (a.put o.dst (.slice ao' (l.length + 1) c')) w') : wpList Try.prog ops Q (o :: rest) a w := by
  obtain ⟨pvs, hp, hrow⟩ := hown
  refine wpList_app hel hgd s y ho hs hrow (m := 1) hy (by rw [henc, Nat.one_mul]) (fun _ => hr) h1 hnm hby hbase fun ao' c' w' h2 h3 _ => h ao' c' w' ⟨pvs ++ [pv], ?_, ?_⟩ (h3.mono fun b _ hb => (owns_typ hrow hb).2)
  · have hfree : FreeT [5] B w (fun k => v.ownBlock = some k) := FreeT.of fun b hb => ⟨Nat.le_trans hB (owns_typ hrow hb).2, _, (owns_typ hrow hb).1, by simpa using hT⟩
    rw [List.map_append]
    exact All2.append (hp.mono fun _ _ h => h.fr h3 hfree) (All2.one (hpv.fr h3 hfree))
  · rw [cellsOf_append _ _ _ _ _ (by rw [hp.length, List.length_map])]
    simpa [cellsOf] using h2

/-- The same at one operation of a region that draws. -/
theorem wp_snoc {α : Type} {enc : α → Value → List Value} {pay : α → List Int} {t T sz by' B base : Nat} (hel : El t T sz by') (henc : ∀ x v, (enc x v).length = sz) (hT : T ≠ 5) {w : World} {o : Oper} {a : Act} {K : Act → World → Prop} {Q : Exit → Act → World → Prop} (s y : Operand)
    (ho : o.op = .call { callee := .builtin .append, args := #[s, y], argTypes := #[t, t] }) {v : Value} {l : List α} (hs : a.eval s = v) (hown : OwnL enc pay T sz B base w v l)
    {ao : Option Addr} {c : Nat} {x : α} {pv : Value} (hy : a.eval y = .slice ao 1 c) (hr : ∃ b o, ao = some ⟨b, o, none⟩ ∧ w.rangeAt b o (enc x pv)) (h1 : ∀ u ∈ enc x pv, u.oneCell' = true) (hpv : Bytes B w pv (pay x))
    (hB : B ≤ base) (hnm : l.length + 1 ≤ maxLen) (hby : (l.length + 1) * by' ≤ 140737488355328) (hbase : base ≤ w.heap.size)
    (h : ∀ ao' c' w', OwnL enc pay T sz B base w' (.slice ao' (l.length + 1) c') (l ++ [x]) → Fr (fun k => v.ownBlock = some k) w w' → (∀ k, v.ownBlock = some k → typ w k = some T ∧ base ≤ k) → K (a.put o.dst (.slice ao' (l.length + 1) c')) w') : o.wp Try.prog a w K Q := by
  obtain ⟨pvs, hp, hrow⟩ := hown
  refine wp_app hel s y ho hs hrow (m := 1) hy (by rw [henc, Nat.one_mul]) (fun _ => hr) h1 hnm hby hbase fun ao' c' w' h2 h3 _ => h ao' c' w' ⟨pvs ++ [pv], ?_, ?_⟩ h3 (fun k hk => owns_typ hrow hk)
  · have hfree : FreeT [5] B w (fun k => v.ownBlock = some k) := FreeT.of fun b hb => ⟨Nat.le_trans hB (owns_typ hrow hb).2, _, (owns_typ hrow hb).1, by simpa using hT⟩
    rw [List.map_append]
    exact All2.append (hp.mono fun _ _ h => h.fr h3 hfree) (All2.one (hpv.fr h3 hfree))
  · rw [cellsOf_append _ _ _ _ _ (by rw [hp.length, List.length_map])]
    simpa [cellsOf] using h2

theorem elOuts : El 66 119 18 192 := El.mk Try.underlying66 (z := .agg #[.int .u8 0, .int .u8 0, .int .u64 0, .int .u64 0, .int .u64 0, nilS, nilS, .bool false, .int .u8 0, .int .u8 0, .int .u8 0, .int .u32 0, .int .u32 0, .int .u64 0, .int .u8 0, nilS, nilS, nilS]) (by kernel_rfl) rfl (by omega)
theorem elUps : El 65 121 3 40 := El.mk Try.underlying65 (z := .agg #[.int .u8 0, .int .u64 0, nilS]) (by kernel_rfl) rfl (by omega)
theorem elFrames : El 86 97 2 32 := El.mk Try.underlying86 (z := .agg #[.int .u64 0, nilS]) (by kernel_rfl) rfl (by omega)
theorem elBytess : El 85 33 1 24 := El.mk Try.underlying85 (z := .slice none 0 0) (by kernel_rfl) rfl (by omega)
theorem elBytes : El 33 5 1 1 := El.mk Try.underlying33 (z := .int .u8 0) (by kernel_rfl) rfl (by omega)
end Go.Proofs.Ytplgmcpglbpghaa

namespace Go.Proofs.Ytplgmcpglbpghaa
open Go.RowKit

set_option maxHeartbeats 400000 in
theorem cloneB (B : Nat) (w : World) (v : Value) (l : List Int) (h : Bytes B w v l) :
    Calls Try.prog 57 #[v] w fun e w' => ∃ v', e = .returned v' ∧ Bytes B w' v' l ∧ Fr No w w' := by
  obtain ⟨i0, hi, hz0, hz1, hz2⟩ := info_parts infoU8
  obtain ⟨hl, ⟨a, c, rfl, rfl, hc⟩ | ⟨b, o, c, rfl, hlc, hc, h0, hb, hr, hcell⟩⟩ := h.open
  · have qT : ∀ (w : World) (a : Option Addr) (n c n' c' : Nat), (binOp .eql 33 (.slice a n c) (.slice none n' c')).run Try.prog w = .ok (.bool a.isNone) w := fun w a n c n' c' => Lib.run_eql_slice_nil w _ _ a n c n' c' Try.underlying33
    cases a with
    | none =>
      go_enter Try.func57, Try.ntmps57
      go_wp2
      go_ret
      exact ⟨_, rfl, Bytes.nil B w, Fr.refl _ _⟩
    | some ad =>
      go_enter Try.func57, Try.ntmps57
      go_wp2_with fail
      go_ret
      exact ⟨_, rfl, ⟨hl, by simp [u8s], some ⟨w.heap.size, 0, none⟩, 0, rfl, by simp, by simp [maxLen], fun h => absurd rfl h⟩, Fr.alloc0 _ _⟩
  · have qT : ∀ (w : World) (a : Option Addr) (n c n' c' : Nat), (binOp .eql 33 (.slice a n c) (.slice none n' c')).run Try.prog w = .ok (.bool a.isNone) w := fun w a n c n' c' => Lib.run_eql_slice_nil w _ _ a n c n' c' Try.underlying33
    have hown := World.ownsRow_made w (e := 5) (size := 1) (base := w.heap.size) #[] 0 (Nat.le_refl _) (by simp) rfl
    go_enter Try.func57, Try.ntmps57
    go_wp2_with (at_builtin; refine wpList_app elBytes rfl (.tmp 5) (.tmp 6) rfl rfl hown (m := l.length) (news := u8s l) rfl (by simp [u8s]) (fun _ => ⟨b, o, rfl, World.rangeAt_alloc hr _⟩) (u8s_mem l) (by simp only [maxLen]; omega) (by omega) (by simp) ?_; intro ao' c' w' hown' hf' _)
    go_ret
    refine ⟨_, rfl, ⟨hl, ?_⟩, (Fr.alloc0 w _).trans' hf' (fun x hx h => ?_)⟩
    · simpa using Sl.of_owns hown' (by decide)
    · have h' : some w.heap.size = some x := h
      cases h'; omega
end Go.Proofs.Ytplgmcpglbpghaa
