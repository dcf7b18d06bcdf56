/- Part 6 of the proof: Xpure2, Xe1, Xe2, Xs9. -/
import Derived.Test.YtplgmcpglbpghaaM01
import Derived.Test.YtplgmcpglbpghaaM05
import Derived.Test.YtplgmcpglbpghaaM04
set_option linter.all false
set_option linter.unusedVariables false
set_option linter.unusedSimpArgs false

/- Plain laws of the ends' data: what stays true. No Go here. -/
namespace Go.Proofs.Ytplgmcpglbpghaa

abbrev Frm := Nat × List Int

def placeOf (l : List Frm) (seq : Nat) : Nat := (l.takeWhile fun f => decide (f.1 < seq)).length

theorem takeWhile_take {α : Type} (p : α → Bool) (l : List α) : l.takeWhile p = l.take (l.takeWhile p).length := by
  have h : l.takeWhile p ++ l.dropWhile p = l := List.takeWhile_append_dropWhile
  conv => rhs; rw [← h]
  rw [List.takeWhile_append_dropWhile]
  exact (List.prefix_iff_eq_take.1 (List.takeWhile_prefix p))
theorem dropWhile_drop {α : Type} (p : α → Bool) (l : List α) : l.dropWhile p = l.drop (l.takeWhile p).length := by
  have h : l.takeWhile p ++ l.dropWhile p = l := List.takeWhile_append_dropWhile
  conv => rhs; rw [← h]
  rw [List.takeWhile_append_dropWhile]
  conv => rhs; arg 2; rw [← h]
  rw [List.drop_left]

theorem insertAt_eq (l : List Frm) (s : Nat) (b : List Int) : PeerD.insertAt l s b = l.take (placeOf l s) ++ (s, b) :: l.drop (placeOf l s) := by
  unfold PeerD.insertAt placeOf
  rw [← takeWhile_take, ← dropWhile_drop]
theorem placeOf_le (l : List Frm) (s : Nat) : placeOf l s ≤ l.length := by
  unfold placeOf
  exact (List.takeWhile_sublist _).length_le

theorem mem_insertAt {l : List Frm} {s : Nat} {b : List Int} {f : Frm} : f ∈ PeerD.insertAt l s b ↔ f = (s, b) ∨ f ∈ l := by
  rw [insertAt_eq, List.mem_append, List.mem_cons]
  constructor
  · rintro (h | rfl | h)
    · exact .inr (List.mem_of_mem_take h)
    · exact .inl rfl
    · exact .inr (List.mem_of_mem_drop h)
  · rintro (rfl | h)
    · exact .inr (.inl rfl)
    · rw [← List.take_append_drop (placeOf l s) l, List.mem_append] at h
      rcases h with h | h
      · exact .inl h
      · exact .inr (.inr h)

theorem mem_takeWhile_lt {l : List Frm} {s : Nat} {f : Frm} (h : f ∈ l.takeWhile fun f => decide (f.1 < s)) : f.1 < s := by
  induction l with
  | nil => cases h
  | cons g l ih =>
    simp only [List.takeWhile_cons] at h
    split at h
    · rename_i hg
      rcases List.mem_cons.1 h with rfl | h
      · simpa using hg
      · exact ih h
    · cases h
theorem mem_dropWhile_ge {l : List Frm} {s : Nat} (hs : l.Pairwise fun f g => f.1 < g.1) {f : Frm} (h : f ∈ l.dropWhile fun f => decide (f.1 < s)) : s ≤ f.1 := by
  induction l with
  | nil => cases h
  | cons g l ih =>
    have hp := List.pairwise_cons.1 hs
    simp only [List.dropWhile_cons] at h
    split at h
    · exact ih hp.2 h
    · rename_i hg
      have hg' : s ≤ g.1 := by simpa using hg
      rcases List.mem_cons.1 h with rfl | h
      · exact hg'
      · have := hp.1 f h; omega
theorem insertAt_sorted {l : List Frm} {s : Nat} {b : List Int} (hs : l.Pairwise fun f g => f.1 < g.1) (hn : (l.any fun f => f.1 == s) = false) : (PeerD.insertAt l s b).Pairwise fun f g => f.1 < g.1 := by
  unfold PeerD.insertAt
  rw [List.pairwise_append]
  have hne : ∀ f ∈ l, f.1 ≠ s := fun f hf e => by
    have : (l.any fun f => f.1 == s) = true := List.any_eq_true.2 ⟨f, hf, by simpa using e⟩
    rw [hn] at this; cases this
  refine ⟨hs.sublist (List.takeWhile_sublist _), ?_, ?_⟩
  · rw [List.pairwise_cons]
    refine ⟨fun f hf => ?_, hs.sublist (List.dropWhile_sublist _)⟩
    have h1 := mem_dropWhile_ge hs hf
    have h2 := hne f ((List.dropWhile_sublist _).subset hf)
    show s < f.1
    omega
  · intro f hf g hg
    have h1 := mem_takeWhile_lt hf
    rcases List.mem_cons.1 hg with rfl | hg
    · exact h1
    · have := mem_dropWhile_ge hs hg
      omega
theorem insertAt_length (l : List Frm) (s : Nat) (b : List Int) : (PeerD.insertAt l s b).length = l.length + 1 := by
  rw [insertAt_eq]
  have := placeOf_le l s
  simp only [List.length_append, List.length_take, List.length_cons, List.length_drop]
  omega

/-- What goes up is numbered from d + 1 on, and what stays is not next. -/
theorem drain_spec : ∀ (L : List Frm) (d : Nat), (L.Pairwise fun f g => f.1 < g.1) → (∀ f ∈ L, d < f.1) →
    L = (PeerD.drain d L).1 ++ (PeerD.drain d L).2.2 ∧ (PeerD.drain d L).2.1 = d + (PeerD.drain d L).1.length ∧ (∀ f ∈ (PeerD.drain d L).2.2, (PeerD.drain d L).2.1 + 2 ≤ f.1) ∧ (∀ f ∈ (PeerD.drain d L).1, f.1 ≤ (PeerD.drain d L).2.1) ∧ ((PeerD.drain d L).1 ≠ [] → ∃ f ∈ L, f.1 = (PeerD.drain d L).2.1)
  | [], d, _, _ => by simp [PeerD.drain]
  | f :: l, d, hs, hd => by
    have hp := List.pairwise_cons.1 hs
    by_cases h : f.1 = d + 1
    · obtain ⟨i1, i2, i3, i4, i5⟩ := drain_spec l (d + 1) hp.2 (fun g hg => by have := hp.1 g hg; omega)
      simp only [PeerD.drain, if_pos h]
      refine ⟨by simpa using i1, by rw [i2]; simp; omega, i3, ?_, fun _ => ?_⟩
      · intro g hg
        rcases List.mem_cons.1 hg with rfl | hg
        · rw [i2]; omega
        · exact i4 g hg
      · by_cases he : (PeerD.drain (d + 1) l).1 = []
        · refine ⟨f, List.mem_cons_self, ?_⟩
          rw [i2, he]; simpa using h
        · obtain ⟨g, hg, e⟩ := i5 he
          exact ⟨g, List.mem_cons_of_mem _ hg, e⟩
    · simp only [PeerD.drain, if_neg h]
      have hf := hd f List.mem_cons_self
      refine ⟨rfl, by simp, ?_, by simp, fun h => absurd rfl h⟩
      intro g hg
      rcases List.mem_cons.1 hg with rfl | hg
      · show d + 2 ≤ g.1; omega
      · have := hp.1 g hg
        show d + 2 ≤ g.1; omega

namespace PeerD
theorem Ok.early_gt {p : PeerD} (h : p.Ok) : ∀ f ∈ p.early, p.deliv < f.1 := fun f hf => by have := (h.early f hf).1; omega

/-- The list that is laid in. -/
theorem Ok.laid {p : PeerD} (h : p.Ok) {seq : Nat} {l : List Int} (h1 : p.deliv < seq) (h2 : seq - p.deliv ≤ p.reach) (h3 : (p.early.any fun f => f.1 == seq) = false) (hseq : seq ≤ u64max) (hl : 1 ≤ l.length ∧ l.length ≤ 3072) :
    ((insertAt p.early seq l).Pairwise fun f g => f.1 < g.1) ∧ ∀ f ∈ insertAt p.early seq l, p.deliv < f.1 ∧ f.1 ≤ p.deliv + p.reach ∧ f.1 ≤ u64max ∧ 1 ≤ f.2.length ∧ f.2.length ≤ 3072 := by
  refine ⟨insertAt_sorted h.sorted h3, fun f hf => ?_⟩
  rcases mem_insertAt.1 hf with rfl | hf
  · exact ⟨h1, by show seq ≤ _; omega, hseq, hl⟩
  · obtain ⟨a1, a2, a3⟩ := h.early f hf
    exact ⟨by omega, a2, a3⟩

theorem Ok.drained {p : PeerD} (h : p.Ok) {L : List Frm} (hs : L.Pairwise fun f g => f.1 < g.1) (hL : ∀ f ∈ L, p.deliv < f.1 ∧ f.1 ≤ p.deliv + p.reach ∧ f.1 ≤ u64max ∧ 1 ≤ f.2.length ∧ f.2.length ≤ 3072) :
    Ok { p with deliv := (drain p.deliv L).2.1, early := (drain p.deliv L).2.2 } := by
  obtain ⟨i1, i2, i3, i4, i5⟩ := drain_spec L p.deliv hs (fun f hf => (hL f hf).1)
  have hsub : ∀ f ∈ (drain p.deliv L).2.2, f ∈ L := fun f hf => by rw [i1]; exact List.mem_append_right _ hf
  have hle : p.deliv ≤ (drain p.deliv L).2.1 := by rw [i2]; omega
  obtain ⟨a1, a2, a3, a4, a5, a6, a7, a8, a9, a10, a11, a12, a13, a14, a15, a16, a17⟩ := h
  refine ⟨a1, a2, a3, a4, a5, a6, a7, a8, a9, a10, a11, a12, a13, a14, ?_, ?_, ?_⟩
  · show (drain p.deliv L).2.1 ≤ u64max
    by_cases he : (drain p.deliv L).1 = []
    · rw [i2, he]; simpa using a15
    · obtain ⟨f, hf, e⟩ := i5 he
      rw [← e]; exact (hL f hf).2.2.1
  · rw [i1] at hs
    exact (List.pairwise_append.1 hs).2.1
  · intro f hf
    obtain ⟨b1, b2, b3⟩ := hL f (hsub f hf)
    refine ⟨i3 f hf, ?_, b3⟩
    show f.1 ≤ (drain p.deliv L).2.1 + p.reach
    omega

theorem come_ok {p : PeerD} (h : p.Ok) {seq : Nat} {l : List Int} (hseq : seq ≤ u64max) : (p.come seq l).1.Ok := by
  unfold come
  split
  · exact h
  · rename_i h1
    split
    · exact h
    · rename_i h2
      split
      · exact h
      · rename_i h3
        have h4 : p.deliv < seq := Nat.lt_of_not_le fun e => h3 (.inl e)
        have h5 : (p.early.any fun f => f.1 == seq) = false := by
          cases e : p.early.any fun f => f.1 == seq with
          | false => rfl
          | true => exact absurd (.inr e) h3
        obtain ⟨s, hL⟩ := h.laid h4 (by omega) h5 hseq (l := l) (by omega)
        exact h.drained s hL

theorem push_ok {p : PeerD} (h : p.Ok) {l : List Int} (hl : 1 ≤ l.length ∧ l.length ≤ 3072) : (p.push l).1.Ok := by
  unfold push
  split
  · exact h
  · rename_i h1
    split
    · exact h
    · rename_i h2
      obtain ⟨a1, a2, a3, a4, a5, a6, a7, a8, a9, a10, a11, a12, a13, a14, a15, a16, a17⟩ := h
      refine ⟨a1, a2, a3, a4, a5, a6, a7, ?_, ?_, ?_, ?_, ?_, a13, ?_, a15, a16, a17⟩
      · show p.sent + 1 ≤ u64max; omega
      · show p.acked ≤ p.sent + 1; omega
      · show (p.queue ++ [l]).length = p.sent + 1 - p.acked
        simp only [List.length_append, List.length_cons, List.length_nil]; omega
      · show (p.queue ++ [l]).length ≤ p.room
        simp only [List.length_append, List.length_cons, List.length_nil]; omega
      · intro g hg
        rcases List.mem_append.1 hg with hg | hg
        · exact a12 g hg
        · rw [List.mem_singleton.1 hg]; exact hl
      · rcases a14 with h | h
        · exact .inl h
        · refine .inr ?_
          show Nat.log2 p.mask + 2 ≤ p.sent + 1 - p.acked
          omega

theorem beyondB_false {sent seq mask : Nat} (h : beyondB sent seq mask = false) : mask = 0 ∨ Nat.log2 mask + 2 ≤ sent - seq := by
  unfold beyondB at h
  by_cases hm : mask = 0
  · exact .inl hm
  · simp [hm] at h
    exact .inr h

theorem heard_ok {p : PeerD} (h : p.Ok) {seq mask : Nat} (hmask : mask ≤ u64max) : (p.heard seq mask).1.Ok := by
  unfold heard
  split
  · exact h
  · rename_i h1
    have hs : seq ≤ p.sent := Nat.le_of_not_lt fun e => h1 (.inl e)
    have hb : beyondB p.sent seq mask = false := by
      cases e : beyondB p.sent seq mask with
      | false => rfl
      | true => exact absurd (.inr e) h1
    have hb := beyondB_false hb
    split
    · exact h
    · rename_i h2
      obtain ⟨a1, a2, a3, a4, a5, a6, a7, a8, a9, a10, a11, a12, a13, a14, a15, a16, a17⟩ := h
      split
      · rename_i h3
        refine ⟨a1, a2, a3, a4, a5, a6, a7, a8, a9, a10, a11, a12, ?_, ?_, a15, a16, a17⟩
        · show p.mask ||| mask ≤ u64max
          have e : u64max = 2 ^ 64 - 1 := by unfold u64max; decide
          have := Nat.or_lt_two_pow (n := 64) (x := p.mask) (y := mask) (by omega) (by omega)
          omega
        · show (p.mask ||| mask) = 0 ∨ Nat.log2 (p.mask ||| mask) + 2 ≤ p.sent - p.acked
          subst h3
          by_cases h0 : p.mask ||| mask = 0
          · exact .inl h0
          · refine .inr ?_
            have hlt : ∀ m : Nat, (m = 0 ∨ Nat.log2 m + 2 ≤ p.sent - p.acked) → 2 ≤ p.sent - p.acked → m < 2 ^ (p.sent - p.acked - 1) := by
              rintro m (rfl | hm) h2
              · exact Nat.two_pow_pos _
              · by_cases hz : m = 0
                · subst hz; exact Nat.two_pow_pos _
                · exact (Nat.log2_lt hz).1 (by omega)
            have h2 : 2 ≤ p.sent - p.acked := by
              by_cases hz : p.mask = 0
              · have : mask ≠ 0 := fun e => h0 (by rw [hz, e]; rfl)
                rcases hb with h | h
                · exact absurd h this
                · omega
              · rcases a14 with h | h
                · exact absurd h hz
                · omega
            have := (Nat.log2_lt h0).2 (Nat.or_lt_two_pow (hlt p.mask a14 h2) (hlt mask hb h2))
            omega
      · rename_i h3
        refine ⟨a1, a2, a3, a4, a5, a6, a7, a8, ?_, ?_, ?_, ?_, ?_, ?_, a15, a16, a17⟩
        · exact hs
        · show (p.queue.drop (seq - p.acked)).length = p.sent - seq
          rw [List.length_drop]; omega
        · show (p.queue.drop (seq - p.acked)).length ≤ p.room
          rw [List.length_drop]; omega
        · intro g hg; exact a12 g (List.mem_of_mem_drop hg)
        · exact hmask
        · exact hb
end PeerD
end Go.Proofs.Ytplgmcpglbpghaa

/- An End in memory: its block, its row of pointers, its peers, each with its own part of F. -/
namespace Go.Proofs.Ytplgmcpglbpghaa
open Go.RowKit

/-- An end as plain data. -/
structure EndD where
  self : Nat
  hosts : Nat
  ps : Nat → PeerD

def EndD.has (e : EndD) (h : Nat) : Bool := decide (h < e.hosts) && decide (h ≠ e.self)
def EndD.set (e : EndD) (h : Nat) (p : PeerD) : EndD := { e with ps := fun x => if x = h then p else e.ps x }
theorem EndD.set_ps (e : EndD) (h : Nat) (p : PeerD) : (e.set h p).ps h = p := by simp [EndD.set]
theorem EndD.set_ne (e : EndD) (h : Nat) (p : PeerD) {x : Nat} (hx : x ≠ h) : (e.set h p).ps x = e.ps x := by simp [EndD.set, hx]
theorem EndD.set_self (e : EndD) (h : Nat) : e.set h (e.ps h) = e := by
  cases e; simp only [EndD.set, EndD.mk.injEq, true_and]
  funext x; split
  · rename_i hx; rw [hx]
  · rfl

/-- An end that may be. -/
structure EndD.Ok (e : EndD) : Prop where
  h1 : 1 ≤ e.hosts
  h16 : e.hosts ≤ 16
  self : e.self < e.hosts
  peer : ∀ h, h < e.hosts → h ≠ e.self → (e.ps h).Ok ∧ (e.ps h).to = (h : Int)
theorem EndD.Ok.set {e : EndD} (h : e.Ok) {x : Nat} {p : PeerD} (hp : p.Ok) (ht : p.to = (x : Int)) : (e.set x p).Ok := ⟨h.h1, h.h16, h.self, fun y hy hn => by
  by_cases hxy : y = x
  · subst hxy; rw [EndD.set_ps]; exact ⟨hp, ht⟩
  · rw [EndD.set_ne _ _ _ hxy]; exact h.peer y hy hn⟩

def ptrTo (q : Nat) : Value := .pointer (some ⟨q, 0, none⟩)
def endPtr (e : EndD) (q : Nat → Nat) (h : Nat) : Value := if e.has h = true then ptrTo (q h) else .pointer none
def endRow (e : EndD) (q : Nat → Nat) : List Value := (List.range e.hosts).map (endPtr e q)
theorem endRow_len (e : EndD) (q : Nat → Nat) : (endRow e q).length = e.hosts := by simp [endRow]
theorem endRow_get (e : EndD) (q : Nat → Nat) {h : Nat} (hh : h < e.hosts) : (endRow e q)[h]? = some (endPtr e q h) := by
  simp [endRow, hh]

structure EndX (B : Nat) (w : World) (a : Nat) (e : EndD) (F : Nat → Prop) (r : Nat) (q : Nat → Nat) (own : Nat → Nat) : Prop where
  fa : F a
  fr' : F r
  Ba : B ≤ a
  Br : B ≤ r
  oa : own a = e.hosts
  or : own r = e.hosts
  ha : w.heap[a]? = some (.cells #[.slice (some ⟨r, 0, none⟩) e.hosts e.hosts] 101 (0, 0))
  hr : w.heap[r]? = some (.cells (endRow e q).toArray 102 (0, 0))
  pe : ∀ h, h < e.hosts → h ≠ e.self → PeerAt B w (q h) (e.ps h) (fun b => F b ∧ own b = h)

/-- Block a is the end e. -/
def EndAt (B : Nat) (w : World) (a : Nat) (e : EndD) (F : Nat → Prop) : Prop := ∃ r q own, EndX B w a e F r q own

theorem EndX.fr {B : Nat} {S F : Nat → Prop} {w w' : World} {a : Nat} {e : EndD} {r : Nat} {q own : Nat → Nat} (h : EndX B w a e F r q own) (hf : Fr S w w') (hS : Free B w S) (hn : ∀ k, F k → ¬ S k) : EndX B w' a e F r q own :=
  ⟨h.fa, h.fr', h.Ba, h.Br, h.oa, h.or, by rw [hf.block a (Array.getElem?_eq_some_iff.1 h.ha).1 (hn a h.fa)]; exact h.ha, by rw [hf.block r (Array.getElem?_eq_some_iff.1 h.hr).1 (hn r h.fr')]; exact h.hr, fun x hx hne => (h.pe x hx hne).fr hf hS (fun k hk => hn k hk.1)⟩
theorem EndAt.fr {B : Nat} {S F : Nat → Prop} {w w' : World} {a : Nat} {e : EndD} (h : EndAt B w a e F) (hf : Fr S w w') (hS : Free B w S) (hn : ∀ k, F k → ¬ S k) : EndAt B w' a e F :=
  let ⟨r, q, own, h⟩ := h
  ⟨r, q, own, h.fr hf hS hn⟩
theorem EndAt.fr0 {B : Nat} {F : Nat → Prop} {w w' : World} {a : Nat} {e : EndD} (h : EndAt B w a e F) (hf : Fr No w w') : EndAt B w' a e F := h.fr hf FreeT.no (fun _ _ h => h)
theorem EndAt.mono {B : Nat} {F F' : Nat → Prop} {w : World} {a : Nat} {e : EndD} (h : EndAt B w a e F) (hF : ∀ k, F k → F' k) : EndAt B w a e F' :=
  let ⟨r, q, own, h1, h2, h3, h4, h5, h6, h7, h8, h9⟩ := h
  ⟨r, q, own, hF _ h1, hF _ h2, h3, h4, h5, h6, h7, h8, fun x hx hne => (h9 x hx hne).mono fun k hk => ⟨hF k hk.1, hk.2⟩⟩
theorem EndAt.lt {B : Nat} {w : World} {a : Nat} {e : EndD} {F : Nat → Prop} (h : EndAt B w a e F) : a < w.heap.size :=
  let ⟨_, _, _, h⟩ := h
  (Array.getElem?_eq_some_iff.1 h.ha).1
theorem EndAt.here {B : Nat} {w : World} {a : Nat} {e : EndD} {F : Nat → Prop} (h : EndAt B w a e F) : F a :=
  let ⟨_, _, _, h⟩ := h
  h.fa

/-- A peer's own part. -/
def part (F : Nat → Prop) (own : Nat → Nat) (h : Nat) : Nat → Prop := fun b => F b ∧ own b = h
theorem Reg.part {B : Nat} {w : World} {F : Nat → Prop} (h : Reg B w F) (own : Nat → Nat) (x : Nat) : Reg B w (part F own x) := fun b hb => h b hb.1

/-- One of the peers has turned. -/
theorem EndX.step {B : Nat} {w w' : World} {a : Nat} {e : EndD} {F : Nat → Prop} {r : Nat} {q own : Nat → Nat} (h : EndX B w a e F r q own) (hR : Reg B w F) {x : Nat} (hx : x < e.hosts) {p' : PeerD}
    (hp : PeerAt B w' (q x) p' (grow (part F own x) w w')) (hf : Fr (part F own x) w w') : EndX B w' a (e.set x p') (grow F w w') r q (fun b => if b < w.heap.size then own b else x) := by
  have hla := (Array.getElem?_eq_some_iff.1 h.ha).1
  have hlr := (Array.getElem?_eq_some_iff.1 h.hr).1
  have hna : ¬ part F own x a := fun ⟨_, e⟩ => by rw [h.oa] at e; omega
  have hnr : ¬ part F own x r := fun ⟨_, e⟩ => by rw [h.or] at e; omega
  refine ⟨.inl h.fa, .inl h.fr', h.Ba, h.Br, by rw [if_pos hla]; exact h.oa, by rw [if_pos hlr]; exact h.or, by rw [hf.block a hla hna]; exact h.ha, ?_, fun y hy hne => ?_⟩
  · rw [hf.block r hlr hnr]; exact h.hr
  · by_cases hyx : y = x
    · subst hyx
      rw [EndD.set_ps]
      refine hp.mono fun b hb => ?_
      rcases hb with hb | ⟨h1, h2, h3⟩
      · exact ⟨.inl hb.1, by rw [if_pos (hR.lt b hb.1)]; exact hb.2⟩
      · exact ⟨.inr ⟨h1, h2, h3⟩, by rw [if_neg (by omega)]⟩
    · rw [EndD.set_ne _ _ _ hyx]
      refine ((h.pe y hy hne).fr hf (hR.part own x).free (fun k hk hk' => hyx (hk.2.symm.trans hk'.2))).mono fun b hb => ⟨.inl hb.1, ?_⟩
      rw [if_pos (hR.lt b hb.1)]; exact hb.2

theorem EndX.cells {B : Nat} {w : World} {a : Nat} {e : EndD} {F : Nat → Prop} {r : Nat} {q own : Nat → Nat} (h : EndX B w a e F r q own) : w.cell? ⟨a, 0, none⟩ = some (.slice (some ⟨r, 0, none⟩) e.hosts e.hosts) ∧ ∀ x, x < e.hosts → w.cell? ⟨r, x, none⟩ = some (endPtr e q x) := by
  refine ⟨by simp [World.cell?, h.ha], fun x hx => ?_⟩
  rw [cell_of_row _ _ x _ _ _ h.hr]
  simpa using endRow_get e q hx

set_option maxHeartbeats 400000 in
theorem f_peer (w : World) (a r : Nat) (e : EndD) (q : Nat → Nat) (to : Nat) (h0 : w.cell? ⟨a, 0, none⟩ = some (.slice (some ⟨r, 0, none⟩) e.hosts e.hosts)) (h1 : ∀ x, x < e.hosts → w.cell? ⟨r, x, none⟩ = some (endPtr e q x)) (ht : to < 256) (h16 : e.hosts ≤ 16) :
    Calls Try.prog 41 #[.pointer (some ⟨a, 0, none⟩), .int .u8 to] w fun en w' => en = .returned (endPtr e q to) ∧ w = w' := by
  have e1 : IntKind.i64.wrap (to : Int) = to := IntWalk.i64_in _ (by omega)
  by_cases hto : to < e.hosts
  · have hc := h1 to hto
    have hlt : ¬ (e.hosts : Int) ≤ (to : Int) := by omega
    have hlt' : (to : Int) < (e.hosts : Int) := by omega
    have hlt'' : decide ((e.hosts : Int) ≤ (to : Int)) = false := by simp; omega
    generalize endPtr e q to = v at *
    clear h1
    go_enter Try.func41, Try.ntmps41
    go_wp2
    go_ret
    exact ⟨rfl, rfl⟩
  · have hv : endPtr e q to = .pointer none := by unfold endPtr EndD.has; rw [if_neg (by simp; omega)]
    rw [hv]
    have hlt : (e.hosts : Int) ≤ (to : Int) := by omega
    have hlt'' : decide ((e.hosts : Int) ≤ (to : Int)) = true := by simp; omega
    clear h1
    go_enter Try.func41, Try.ntmps41
    go_wp2
    go_ret
    exact ⟨rfl, rfl⟩
end Go.Proofs.Ytplgmcpglbpghaa

/- (*End).Send. -/
namespace Go.Proofs.Ytplgmcpglbpghaa
open Go.RowKit

def PushPost (B : Nat) (w : World) (q : Nat) (F : Nat → Prop) (r : PeerD × List OutD × Int) (e : Ending) (w' : World) : Prop := ∃ vo, e = .returned (.tuple #[vo, .int .i64 r.2.2]) ∧ Outs B w' vo r.2.1 ∧ PeerAt B w' q r.1 (grow F w w') ∧ Fr F w w'

theorem f_push (B : Nat) (w : World) (q : Nat) (p : PeerD) (F : Nat → Prop) (v : Value) (l : List Int) (hp : PeerAt B w q p F) (hok : p.Ok) (hB : B ≤ w.heap.size) (hF : Free B w F) (hv : Bytes B w v l) :
    Calls Try.prog 46 #[.pointer (some ⟨q, 0, none⟩), v] w (PushPost B w q F (p.push l)) := by
  unfold PeerD.push
  by_cases h1 : p.room ≤ p.queue.length
  · rw [if_pos h1]
    refine (spush_no B w q p F v hp hok (.inl h1)).mono ?_
    rintro e w' ⟨rfl, hf⟩
    rw [if_pos h1]
    exact ⟨nilS, rfl, Outs.nil _ _, (hp.fr hf FreeT.no (fun _ _ h => h)).mono (fun _ h => .inl h), hf.mono (fun _ _ h => h.elim)⟩
  · rw [if_neg h1]
    by_cases h2 : p.sent = u64max
    · rw [if_pos h2]
      refine (spush_no B w q p F v hp hok (.inr h2)).mono ?_
      rintro e w' ⟨rfl, hf⟩
      rw [if_neg h1]
      exact ⟨nilS, rfl, Outs.nil _ _, (hp.fr hf FreeT.no (fun _ _ h => h)).mono (fun _ h => .inl h), hf.mono (fun _ _ h => h.elim)⟩
    · rw [if_neg h2]
      refine (spush_yes B w q p F v l hp hok hB hF hv (by omega) (by have := hok.sent; omega)).mono ?_
      rintro e w' ⟨vo, rfl, h3, h4, h5⟩
      exact ⟨vo, rfl, h3, h4, h5⟩

theorem f_sized2 (w : World) (a : Option Addr) (n c : Nat) (hn : n ≤ maxLen) : Calls Try.prog 45 #[.slice a n c] w fun e w' => e = .returned (.bool (szB n)) ∧ w = w' :=
  (f_sized w a n c hn).mono fun _ _ h => ⟨h.1, h.2.symm⟩

def EndD.send (e : EndD) (to : Nat) (l : List Int) : EndD × List OutD × Int :=
  if e.has to = true then
    if szB l.length = true then (e.set to ((e.ps to).push l).1, ((e.ps to).push l).2.1, ((e.ps to).push l).2.2)
    else (e, [], 81)
  else (e, [], 80)

def SendPost (B : Nat) (w : World) (a : Nat) (F : Nat → Prop) (r : EndD × List OutD × Int) (en : Ending) (w' : World) : Prop :=
  ∃ vo, en = .returned (.tuple #[vo, .int .i64 r.2.2]) ∧ Outs B w' vo r.2.1 ∧ EndAt B w' a r.1 (grow F w w') ∧ Fr F w w'

theorem EndD.has_iff {e : EndD} {h : Nat} : e.has h = true ↔ h < e.hosts ∧ h ≠ e.self := by simp [EndD.has]
theorem endPtr_yes {e : EndD} {q : Nat → Nat} {h : Nat} (hh : e.has h = true) : endPtr e q h = .pointer (some ⟨q h, 0, none⟩) := by unfold endPtr; rw [if_pos hh]; rfl
theorem endPtr_no {e : EndD} {q : Nat → Nat} {h : Nat} (hh : ¬ e.has h = true) : endPtr e q h = .pointer none := by unfold endPtr; rw [if_neg hh]

set_option maxRecDepth 100000 in
set_option maxHeartbeats 1000000 in
theorem f_send (B : Nat) (w : World) (a : Nat) (e : EndD) (F : Nat → Prop) (to : Nat) (v : Value) (l : List Int) (he : EndAt B w a e F) (hR : Reg B w F) (hB : B ≤ w.heap.size) (hok : e.Ok) (ht : to < 256) (hv : Bytes B w v l) :
    Calls Try.prog 22 #[.pointer (some ⟨a, 0, none⟩), .int .u8 to, v] w (SendPost B w a F (e.send to l)) := by
  have hkeep : SendPost B w a F (e, [], 80) (.returned (.tuple #[nilS, .int .i64 80])) w ∧ SendPost B w a F (e, [], 81) (.returned (.tuple #[nilS, .int .i64 81])) w :=
    ⟨⟨nilS, rfl, Outs.nil _ _, he.mono (fun _ h => .inl h), Fr.refl _ _⟩, ⟨nilS, rfl, Outs.nil _ _, he.mono (fun _ h => .inl h), Fr.refl _ _⟩⟩
  have Hkeep := Lib.hid hkeep
  clear hkeep
  obtain ⟨r, q, own, hx⟩ := he
  obtain ⟨h0, h1⟩ := hx.cells
  obtain ⟨va, vc, rfl⟩ := hv.form
  have hl := hv.1
  have hlm : l.length ≤ maxLen := by unfold maxLen; omega
  have h16 := hok.h16
  have Hx := Lib.hid hx
  have Hv := Lib.hid hv
  have Hpeer := Lib.hid (f_peer w a r e q to h0 h1 ht h16)
  clear hx hv h0 h1
  unfold EndD.send
  by_cases hh : e.has to = true
  · rw [if_pos hh]
    have hp := Hpeer.out
    rw [endPtr_yes hh] at hp
    have Hp := Lib.hid hp
    clear hp Hpeer
    have hpp := Hx.out.pe to (EndD.has_iff.1 hh).1 (EndD.has_iff.1 hh).2
    have hpok := (hok.peer to (EndD.has_iff.1 hh).1 (EndD.has_iff.1 hh).2).1
    have Hh := Lib.hid hh
    clear hh
    by_cases hs : szB l.length = true
    · rw [if_pos hs]
      have Hs := Lib.hid hs
      clear hs
      go_enter Try.func22, Try.ntmps22
      go_wp2_with (first | (go_at_call 41; refine Hp.out.mono ?_; rintro en w' ⟨rfl, rfl⟩) | (go_at_call 45; refine (f_sized2 _ va l.length vc hlm).mono ?_; rintro en w' ⟨rfl, rfl⟩; rw [Hs.out]) | (go_at_call 46; refine (f_push B w (q to) (e.ps to) (part F own to) (.slice va l.length vc) l hpp hpok hB (hR.part own to).free Hv.out).mono ?_; rintro en w2 ⟨vo, rfl, ho, hpe, hfr⟩))
      go_ret2
      exact ⟨vo, rfl, ho, ⟨r, q, _, Hx.out.step hR (EndD.has_iff.1 Hh.out).1 hpe hfr⟩, hfr.mono (fun _ _ h => h.1)⟩
    · rw [if_neg hs]
      have hs' : szB l.length = false := by simpa using hs
      have Hs := Lib.hid hs'
      clear hs hs'
      go_enter Try.func22, Try.ntmps22
      go_wp2_with (first | (go_at_call 41; refine Hp.out.mono ?_; rintro en w' ⟨rfl, rfl⟩) | (go_at_call 45; refine (f_sized2 _ va l.length vc hlm).mono ?_; rintro en w' ⟨rfl, rfl⟩; rw [Hs.out]))
      go_ret2
      exact Hkeep.out.2
  · rw [if_neg hh]
    have hp := Hpeer.out
    rw [endPtr_no hh] at hp
    have Hp := Lib.hid hp
    clear hp Hpeer hh
    go_enter Try.func22, Try.ntmps22
    go_wp2_with (go_at_call 41; refine Hp.out.mono ?_; rintro en w' ⟨rfl, rfl⟩)
    go_ret2
    exact Hkeep.out.1
end Go.Proofs.Ytplgmcpglbpghaa

namespace Go.Proofs.Ytplgmcpglbpghaa
open Go.RowKit

theorem frame_cells {l : List (Nat × List Int)} {vs : List Value} {w : World} {b : Nat} (hr : w.rangeAt b 0 (cellsOf frameCells l vs)) {k : Nat} {f : Nat × List Int} {v : Value} (hl : l[k]? = some f) (hv : vs[k]? = some v) :
    w.cell? ⟨b, k * 2, none⟩ = some (.int .u64 f.1) ∧ w.cell? ⟨b, k * 2 + 1, none⟩ = some v := by
  have h0 := cellsOf_get frameCells_length l vs k f v hl hv 0 (by omega)
  have h1 := cellsOf_get frameCells_length l vs k f v hl hv 1 (by omega)
  have r0 := hr (k * 2 + 0) _ (by rw [h0]; rfl)
  have r1 := hr (k * 2 + 1) _ (by rw [h1]; rfl)
  rw [Nat.zero_add] at r0 r1
  exact ⟨r0, r1⟩

theorem ackMask_succ (d : Nat) (l : List (Nat × List Int)) (k : Nat) (f : Nat × List Int) (h : l[k]? = some f) : PeerD.ackMask d (l.take (k + 1)) = PeerD.ackMask d (l.take k) ||| 2 ^ (f.1 - d - 2) := by
  unfold PeerD.ackMask
  rw [List.take_add_one, h]
  simp

theorem ackMask_lt (d : Nat) (l : List (Nat × List Int)) (h : ∀ f ∈ l, f.1 - d - 2 < 64) : PeerD.ackMask d l < 18446744073709551616 := by
  unfold PeerD.ackMask
  suffices ∀ m, m < 18446744073709551616 → l.foldl (fun m f => m ||| 2 ^ (f.1 - d - 2)) m < 18446744073709551616 from this 0 (by decide)
  induction l with
  | nil => exact fun m hm => hm
  | cons f l ih =>
    intro m hm
    have := Nat.or_lt_two_pow (n := 64) (x := m) (y := 2 ^ (f.1 - d - 2)) hm (Nat.pow_lt_pow_right (by decide) (h f List.mem_cons_self))
    exact ih (fun g hg => h g (List.mem_cons_of_mem _ hg)) _ this

theorem ackBit (m n : Nat) (hm : m < 18446744073709551616) (hn : n < 64) : bits BinOp.or IntKind.u64 (m : Int) (IntKind.u64.wrap (2 ^ min (IntKind.u64.wrap (n : Int)).toNat 64)) = ((m ||| 2 ^ n : Nat) : Int) := by
  have h1 : IntKind.u64.wrap (n : Int) = n := u64_in (by omega) (by omega)
  have h2 : (2 : Nat) ^ n < 18446744073709551616 := Nat.lt_of_lt_of_le (Nat.pow_lt_pow_right (a := 2) (by decide) hn) (by decide)
  generalize hN : (2 : Nat) ^ n = N at *
  have h3 : ((2 : Int) ^ n) = (N : Int) := by rw [← hN, Int.natCast_pow]; rfl
  rw [h1, Int.toNat_natCast, Nat.min_eq_left (by omega), h3, u64_in (by omega) (by omega)]
  exact u64_or_nat _ _ (by omega) (by omega)

theorem earlyBit {p : PeerD} (hok : p.Ok) {f : Nat × List Int} (hf : f ∈ p.early) : f.1 - p.deliv - 2 < 64 := by
  have h1 := (hok.early f hf).2.1
  have h2 := hok.win
  have h3 := hok.room16
  have h4 := hok.reach
  omega

def AckPost (w : World) (p : PeerD) (e : Ending) (w' : World) : Prop := e = .returned (.agg (outCells p.ack nilS).toArray) ∧ Fr No w w'

set_option maxRecDepth 100000 in
set_option maxHeartbeats 2000000 in
theorem f_ack (B : Nat) (w : World) (q : Nat) (p : PeerD) (F : Nat → Prop) (hp : PeerAt B w q p F) (hok : p.Ok) :
    Calls Try.prog 62 #[.pointer (some ⟨q, 7, none⟩)] w (AckPost w p) := by
  have hlt := hp.lt
  obtain ⟨_, _, vq, ve, hh, _, ⟨vs, hvs, hown, _⟩⟩ := hp
  obtain ⟨⟨g0, g1, g2, g3⟩, ⟨g4, g5, g6, g7⟩, g8, g9, g10⟩ := peerCells_get hh
  clear hh g0 g1 g2 g3 g4 g5 g6
  obtain ⟨hcl, a, c, rfl, hnc, hcm, hne⟩ := range_of_owns hown
  clear hown
  have hcm2 : c ≤ 9223372036854775807 := by have := hcm; unfold maxLen at this; omega
  go_enter Try.func62, Try.ntmps62
  go_wp2_with fail
  have hW0 : ((w.alloc (.cells #[.int .u8 0, .int .u8 0, .int .u64 0, .int .u64 0, .int .u64 0, nilS, nilS, .bool false, .int .u8 0, .int .u8 0, .int .u8 0, .int .u32 0, .int .u32 0, .int .u64 0, .int .u8 0, nilS, nilS, nilS] 119)).alloc (.cells (msgCells 11 p.deliv 0 nilS).toArray 45)).heap[w.heap.size + 1]? = some (.cells (msgCells 11 p.deliv 0 nilS).toArray 45 (0, 0)) := heap_alloc2
  have hO : ((w.alloc (.cells #[.int .u8 0, .int .u8 0, .int .u64 0, .int .u64 0, .int .u64 0, nilS, nilS, .bool false, .int .u8 0, .int .u8 0, .int .u8 0, .int .u32 0, .int .u32 0, .int .u64 0, .int .u8 0, nilS, nilS, nilS] 119)).alloc (.cells (msgCells 11 p.deliv 0 nilS).toArray 45)).there w.heap.size 0 18 := there_new (Fr.alloc0 _ _)
  have hf0 : Fr No w ((w.alloc (.cells #[.int .u8 0, .int .u8 0, .int .u64 0, .int .u64 0, .int .u64 0, nilS, nilS, .bool false, .int .u8 0, .int .u8 0, .int .u8 0, .int .u32 0, .int .u32 0, .int .u64 0, .int .u8 0, nilS, nilS, nilS] 119)).alloc (.cells (msgCells 11 p.deliv 0 nilS).toArray 45)) := ((Fr.refl _ _).alloc _).alloc _
  simp only [msgCells] at hW0 hO hf0
  generalize (w.alloc (.cells #[.int .u8 0, .int .u8 0, .int .u64 0, .int .u64 0, .int .u64 0, nilS, nilS, .bool false, .int .u8 0, .int .u8 0, .int .u8 0, .int .u32 0, .int .u32 0, .int .u64 0, .int .u8 0, nilS, nilS, nilS] 119)).alloc _ = W0 at *
  have hz0 : w.heap.size + 1 < W0.heap.size := (Array.getElem?_eq_some_iff.1 hW0).1
  go_loopw [16] (fun i wr => ∃ k : Nat, k ≤ p.early.length ∧ i = .int .i64 k ∧ wr.heap[w.heap.size + 1]? = some (.cells (msgCells 11 p.deliv (PeerD.ackMask p.deliv (p.early.take k)) nilS).toArray 45 (0, 0)) ∧ Fr (One (w.heap.size + 1)) W0 wr) (fun i _ => p.early.length - (intOf i).toNat)
  case atStart => exact ⟨0, Nat.zero_le _, rfl, hW0, Fr.refl _ _⟩
  case round =>
    obtain ⟨k, hk, rfl, hm, hfr⟩ := hrel
    have hqW : q < W0.heap.size := by omega
    have hbw : w.heap.size + 1 < wr.heap.size := by have := hfr.size; omega
    have g7' : wr.cell? ⟨q, 7, none⟩ = some (.int .u8 p.to) := by rw [hfr.cell hqW (by unfold One; omega), hf0.cell hlt (fun h => h)]; exact g7
    have g9' : wr.cell? ⟨q, 9, none⟩ = some (.int .u64 p.deliv) := by rw [hfr.cell hqW (by unfold One; omega), hf0.cell hlt (fun h => h)]; exact g9
    have hqlt : q < wr.heap.size := by have := hfr.size; omega
    have hm12 : wr.cell? ⟨w.heap.size + 1, 12, none⟩ = some (.int .u64 (PeerD.ackMask p.deliv (p.early.take k))) := by simp [World.cell?, hm, msgCells]
    have hz12 : wr.frozen? ⟨w.heap.size + 1, 12, none⟩ = false := by simp [World.frozen?, hm]
    clear g7 g9
    by_cases hlt2 : k < p.early.length
    · have hk1 : (k : Int) < (p.early.length : Int) := by omega
      obtain ⟨f, hf⟩ : ∃ f, p.early[k]? = some f := ⟨_, List.getElem?_eq_getElem hlt2⟩
      obtain ⟨v, hv, hvB⟩ := hvs.get (show (p.early.map (·.2))[k]? = some f.2 by simp [hf])
      obtain ⟨va, vc, rfl⟩ := hvB.form
      obtain ⟨b, rfl, _, hb, _, hr⟩ := hne (by intro h; have := congrArg List.length h; rw [cellsOf_length frameCells_length _ _ (by rw [hvs.length, List.length_map])] at this; simp at this; omega)
      have hblt := lt_of_range hr (by intro h; have := congrArg List.length h; rw [cellsOf_length frameCells_length _ _ (by rw [hvs.length, List.length_map])] at this; simp at this; omega)
      obtain ⟨c0, c1⟩ := frame_cells hr hf hv
      have c0' : wr.cell? ⟨b, k * 2, none⟩ = some (.int .u64 f.1) := by rw [hfr.cell (by omega) (by unfold One; omega), hf0.cell hblt (fun h => h)]; exact c0
      have c1' : wr.cell? ⟨b, k * 2 + 1, none⟩ = some (.slice va f.2.length vc) := by rw [hfr.cell (by omega) (by unfold One; omega), hf0.cell hblt (fun h => h)]; exact c1
      have hsucc := ackMask_succ p.deliv p.early k f hf
      have hfe := hok.early f (List.mem_of_getElem? hf)
      have hfd : (f.1 : Int) - p.deliv - 2 = ((f.1 - p.deliv - 2 : Nat) : Int) := by omega
      go_wp2_with fail
      generalize hW1 : (wr.alloc (.cells #[.int .u64 f.1, .slice va f.2.length vc] 97)) = W1
      have hf1 : Fr No wr W1 := by rw [← hW1]; exact Fr.alloc0 _ _
      have e0 : W1.cell? ⟨wr.heap.size, 0, none⟩ = some (.int .u64 f.1) := by rw [← hW1]; exact cell_of_row _ _ 0 _ _ _ (heap_alloc_new _ _)
      have hs1 : W1.heap.size = wr.heap.size + 1 := by rw [← hW1]; simp
      have e9 : W1.cell? ⟨q, 9, none⟩ = some (.int .u64 p.deliv) := by rw [hf1.cell hqlt (fun h => h)]; exact g9'
      have e12 : W1.cell? ⟨w.heap.size + 1, 12, none⟩ = some (.int .u64 (PeerD.ackMask p.deliv (p.early.take k))) := by rw [hf1.cell hbw (fun h => h)]; exact hm12
      have z12 : W1.frozen? ⟨w.heap.size + 1, 12, none⟩ = false := by rw [hf1.froz hbw (fun h => h)]; exact hz12
      have hl1 : q < W1.heap.size := by omega
      have hl2 : wr.heap.size < W1.heap.size := by omega
      have hl3 : w.heap.size + 1 < W1.heap.size := by omega
      have hw1 : IntKind.u64.wrap ((f.1 : Int) - p.deliv) = (f.1 : Int) - p.deliv := u64_in (by omega) (by have := hfe.2.2.1; unfold u64max at this; omega)
      have hw2 : IntKind.u64.wrap ((f.1 : Int) - p.deliv - 2) = (f.1 : Int) - p.deliv - 2 := u64_in (by omega) (by have := hfe.2.2.1; unfold u64max at this; omega)
      have Hs1 := Lib.hid hs1
      clear hW1 hW0 hs1
      refine WS.wp_region_seq (Fr No W1) [13] [(0, true), (1, true), (2, true), (3, true), (4, true), (5, true), (6, true), (7, true), (8, true), (9, true), (10, true), (11, true), (12, true), (13, false)] (by kernel_rfl) (by kernel_rfl) (fun c d v a w h => by cases d <;> exact h) ((Fr.refl _ _).drew) ?_
      simp only [WS.pick, List.getElem?_toArray, List.getElem?_cons_succ, List.getElem?_cons_zero]
      repeat (first | (refine WS.wpL_skip rfl ?_; try simp only [Act.put, List.setIfInBounds_toArray, List.set_cons_zero, List.set_cons_succ]) | (refine WS.wpL_q ?_ rfl ?_ ?_; rotate_left 1; (focus (intro w' hw'; have hrr' := hw'.rules; obtain ⟨hrc', _⟩ := hrr'; clear hw'; go_simp; (try with_reducible rfl); done)); try simp only [Act.put, List.setIfInBounds_toArray, List.set_cons_zero, List.set_cons_succ]))
      refine WS.wpL_e rfl (fun K hK => ?_)
      go_simp
      have hbit := ackBit (PeerD.ackMask p.deliv (p.early.take k)) (f.1 - p.deliv - 2) (ackMask_lt _ _ fun g hg => earlyBit hok (List.mem_of_mem_take hg)) (earlyBit hok (List.mem_of_getElem? hf))
      rw [hbit, ← hsucc]
      clear hsucc hbit
      refine hK _ _ (fun h => absurd (by decide) h) ?_
      clear hK K
      try simp only [Act.put, List.setIfInBounds_toArray, List.set_cons_zero, List.set_cons_succ]
      refine WS.wpL_nil ?_
      go_wp2_with fail
      refine ⟨⟨k + 1, by omega, by go_num, ?_, ?_⟩, by simp [intOf]; omega⟩
      · exact heap_set (v := .int .u64 (PeerD.ackMask p.deliv (p.early.take (k + 1)))) (by rw [hf1.block _ hbw (fun h => h)]; exact hm)
      · exact ((hfr.then0 hf1).setCell ⟨w.heap.size + 1, 12, none⟩ _ (.inr rfl)).drew
    · have hkn : k = p.early.length := by omega
      subst hkn
      rw [List.take_length] at *
      have hth : wr.there w.heap.size 0 18 := there_fr hO hfr (by unfold One; omega)
      clear hW0 hO
      go_wp2_with fail
      have hl0 : w.heap.size + 1 < wr.heap.size := hbw
      have kc := fun j v (h : (msgCells 11 p.deliv (PeerD.ackMask p.deliv p.early) nilS)[j]? = some v) => (by rw [cell_of_row _ _ j _ _ _ hm]; simpa using h : wr.cell? ⟨w.heap.size + 1, j, none⟩ = some v)
      have k0 := kc 0 _ rfl
      have k1 := kc 1 _ rfl
      have k2 := kc 2 _ rfl
      have k3 := kc 3 _ rfl
      have k4 := kc 4 _ rfl
      have k5 := kc 5 _ rfl
      have k6 := kc 6 _ rfl
      have k7 := kc 7 _ rfl
      have k8 := kc 8 _ rfl
      have k9 := kc 9 _ rfl
      have k10 := kc 10 _ rfl
      have k11 := kc 11 _ rfl
      have k12 := kc 12 _ rfl
      have k13 := kc 13 _ rfl
      have k14 := kc 14 _ rfl
      have k15 := kc 15 _ rfl
      have k16 := kc 16 _ rfl
      clear kc hm
      refine WS.wp_region_seq (Fr No wr) [6] [(0, true), (1, true), (2, true), (3, true), (4, true), (5, true), (6, false)] (by kernel_rfl) (by kernel_rfl) (fun c d v a w h => by cases d <;> exact h) ((Fr.refl _ _).drew) ?_
      simp only [WS.pick, List.getElem?_toArray, List.getElem?_cons_succ, List.getElem?_cons_zero]
      repeat (first | (refine WS.wpL_skip rfl ?_; try simp only [Act.put, List.setIfInBounds_toArray, List.set_cons_zero, List.set_cons_succ]) | (refine WS.wpL_q ?_ rfl ?_ ?_; rotate_left 1; (focus (intro w' hw'; have hrr' := hw'.rules; obtain ⟨hrc', _⟩ := hrr'; clear hw'; go_simp; (try with_reducible rfl); done)); try simp only [Act.put, List.setIfInBounds_toArray, List.set_cons_zero, List.set_cons_succ]))
      refine WS.wpL_e rfl (fun K hK => ?_)
      refine wp_store_mid 119 (.tmp 2) (.tmp 39) rfl w.heap.size 0 (outCells p.ack nilS).toArray rfl rfl (there_drew hth) (by kernel_rfl) (by simp [Value.oneCell', outCells, msgCells]) ?_
      refine hK _ _ (fun h => absurd (by decide) h) ?_
      clear hK K
      try simp only [Act.put, List.setIfInBounds_toArray, List.set_cons_zero, List.set_cons_succ]
      refine WS.wpL_nil ?_
      go_wp2_with fail
      have hth' : wr.drew.there w.heap.size 0 (outCells p.ack nilS).length := there_drew hth
      refine bodyPost_ret (results_cell1 (p := 2) (ty := 119) (cs := outCells p.ack nilS) rfl rfl (World.rangeAt_setCells_same _ w.heap.size 0 (outCells p.ack nilS) hth') Try.underlying119 rfl (by kernel_rfl)) rfl ?_
      refine ⟨rfl, ?_⟩
      refine Fr.setCells (.inl (Nat.le_refl _)) _ 0 ?_
      exact (hf0.trans' hfr (fun x hx e => by unfold One at e; omega)).drew
end Go.Proofs.Ytplgmcpglbpghaa
