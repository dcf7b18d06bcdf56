/- Part 7 of the proof: Xs10, Lib2. -/
import Derived.Test.YtplgmcpglbpghaaM06
import Derived.Test.YtplgmcpglbpghaaM02
import Derived.Lib.AppendZerosOnto
import Derived.Lib.Overlaps
import Derived.Laws.Externs
import Derived.Laws.CopyRow
import Derived.Deep.DeepMust
set_option linter.all false
set_option linter.unusedVariables false
set_option linter.unusedSimpArgs false

namespace Go.Proofs.Ytplgmcpglbpghaa
open Go.RowKit

def cmpI (a b : Nat) : Int := if a < b then -1 else if b < a then 1 else 0

set_option maxRecDepth 100000 in
set_option maxHeartbeats 1000000 in
theorem f_cmp (w : World) (f : Nat × List Int) (a : Option Addr) (c seq : Nat) :
    Calls Try.prog 61 #[.agg #[.int .u64 f.1, .slice a f.2.length c], .int .u64 seq] w fun e w' => e = .returned (.int .i64 (cmpI f.1 seq)) ∧ Fr No w w' := by
  obtain ⟨g, l⟩ := f
  dsimp only
  rcases Nat.lt_trichotomy g seq with h | h | h
  · have h1 : (g : Int) < (seq : Int) := by omega
    go_enter Try.func61, Try.ntmps61
    go_wp2
    go_ret
    refine ⟨?_, Fr.alloc0 _ _⟩
    simp [cmpI, h]
  · subst h
    go_enter Try.func61, Try.ntmps61
    go_wp2
    go_ret
    refine ⟨?_, Fr.alloc0 _ _⟩
    simp [cmpI]
  · have h1 : ¬ (g : Int) < (seq : Int) := by omega
    have h2 : (seq : Int) < (g : Int) := by omega
    go_enter Try.func61, Try.ntmps61
    go_wp2
    go_ret
    refine ⟨?_, Fr.alloc0 _ _⟩
    have : ¬ g < seq := by omega
    simp [cmpI, h, this]

/-- The place of a number in a sorted list. -/
def place (l : List (Nat × List Int)) (seq : Nat) : Nat := (l.takeWhile fun f => decide (f.1 < seq)).length

theorem place_of {l : List (Nat × List Int)} {seq i : Nat} (hi : i ≤ l.length) (h1 : ∀ j f, l[j]? = some f → j < i → f.1 < seq) (h2 : ∀ j f, l[j]? = some f → i ≤ j → seq ≤ f.1) : place l seq = i := by
  unfold place
  induction l generalizing i with
  | nil => simp at hi; simp [hi]
  | cons f l ih =>
    cases i with
    | zero =>
      have := h2 0 f rfl (Nat.le_refl _)
      simp [List.takeWhile_cons, show ¬ f.1 < seq by omega]
    | succ i =>
      have := h1 0 f rfl (by omega)
      simp only [List.takeWhile_cons, decide_eq_true this, if_true, List.length_cons]
      rw [ih (i := i) (by simpa using hi) (fun j g hg hj => h1 (j + 1) g (by simpa using hg) (by omega)) (fun j g hg hj => h2 (j + 1) g (by simpa using hg) (by omega))]

theorem any_of {l : List (Nat × List Int)} {seq i : Nat} (h1 : ∀ j f, l[j]? = some f → j < i → f.1 < seq) (h2 : ∀ j f, l[j]? = some f → i ≤ j → seq ≤ f.1) (hs : l.Pairwise fun f g => f.1 < g.1) : (l.any fun f => f.1 == seq) = (match l[i]? with | some f => f.1 == seq | none => false) := by
  rw [Bool.eq_iff_iff, List.any_eq_true]
  constructor
  · rintro ⟨f, hf, e⟩
    obtain ⟨j, hj⟩ := List.mem_iff_getElem?.1 hf
    have e' : f.1 = seq := by simpa using e
    have hij : i ≤ j := by
      rcases Nat.lt_or_ge j i with h | h
      · have := h1 j f hj h; omega
      · exact h
    rcases Nat.eq_or_lt_of_le hij with rfl | hlt
    · rw [hj]; exact e
    · have hjl := (List.getElem?_eq_some_iff.1 hj).1
      have hil : i < l.length := by omega
      have := List.pairwise_iff_getElem.1 hs i j hil hjl hlt
      have h3 := h2 i _ (List.getElem?_eq_getElem hil) (Nat.le_refl _)
      have h4 : l[j] = f := by have := (List.getElem?_eq_some_iff.1 hj).2; exact this
      rw [h4] at this
      omega
  · intro h
    cases hl : l[i]? with
    | none => rw [hl] at h; cases h
    | some f => rw [hl] at h; exact ⟨f, List.mem_of_getElem? hl, h⟩

theorem sorted_le {l : List (Nat × List Int)} (hs : l.Pairwise fun f g => f.1 < g.1) {k h : Nat} {g f : Nat × List Int} (hk : l[k]? = some g) (hh : l[h]? = some f) (hle : k ≤ h) : g.1 ≤ f.1 := by
  rcases Nat.eq_or_lt_of_le hle with rfl | hlt
  · rw [hk] at hh; cases hh; exact Nat.le_refl _
  · obtain ⟨a1, rfl⟩ := List.getElem?_eq_some_iff.1 hk
    obtain ⟨a2, rfl⟩ := List.getElem?_eq_some_iff.1 hh
    exact Nat.le_of_lt (List.pairwise_iff_getElem.1 hs k h a1 a2 hlt)

def SearchPost (w : World) (l : List (Nat × List Int)) (seq : Nat) (e : Ending) (w' : World) : Prop := e = .returned (.tuple #[.int .i64 (place l seq), .bool (l.any fun f => f.1 == seq)]) ∧ Fr No w w'

/-- The frames of a list, as facts for the walk. -/
def FramesAt (w : World) (b : Nat) (l : List (Nat × List Int)) : Prop := ∀ (k : Nat) (f : Nat × List Int), l[k]? = some f → ∃ a c, w.cell? ⟨b, k * 2, none⟩ = some (.int .u64 f.1) ∧ w.cell? ⟨b, k * 2 + 1, none⟩ = some (.slice a f.2.length c)

theorem FramesAt.mk' {B base : Nat} {w w' : World} {b n c : Nat} {l : List (Nat × List Int)} {vs : List Value} (hvs : All2 (Bytes B w') vs (l.map (·.2))) (h : w.ownsRow base 97 2 (.slice (some ⟨b, 0, none⟩) n c) l.length (cellsOf frameCells l vs)) : FramesAt w b l := fun k f hf => by
  obtain ⟨v, hv, hvB⟩ := hvs.get (show (l.map (·.2))[k]? = some f.2 by simp [hf])
  obtain ⟨va, vc, rfl⟩ := hvB.form
  obtain ⟨_, a, c', he, _, _, hne⟩ := range_of_owns h
  obtain ⟨b', rfl, _, _, _, hr⟩ := hne (by
    intro h0
    have h1 := congrArg List.length h0
    rw [cellsOf_length frameCells_length _ _ (by rw [hvs.length, List.length_map])] at h1
    have := (List.getElem?_eq_some_iff.1 hf).1
    simp at h1
    omega)
  cases he
  exact ⟨va, vc, frame_cells hr hf hv⟩
theorem FramesAt.fr {S : Nat → Prop} {w w' : World} {b : Nat} {l : List (Nat × List Int)} (h : FramesAt w b l) (hf : Fr S w w') (hS : ¬ S b) : FramesAt w' b l := fun k f hk => by
  obtain ⟨a, c, h1, h2⟩ := h k f hk
  have hb := World.block_lt_of_cell? w _ h1
  exact ⟨a, c, by rw [hf.cell hb hS]; exact h1, by rw [hf.cell hb hS]; exact h2⟩

set_option maxRecDepth 100000 in
set_option maxHeartbeats 2000000 in
theorem f_search (w : World) (b c : Nat) (l : List (Nat × List Int)) (seq : Nat) (ao : Option Addr) (hao : l ≠ [] → ao = some ⟨b, 0, none⟩ ∧ FramesAt w b l) (hs : l.Pairwise fun f g => f.1 < g.1) (hn : l.length ≤ 1000) (hc : l.length ≤ c) :
    Calls Try.prog 60 #[.slice ao l.length c, .int .u64 seq, .func (.func 61) #[] #[]] w (SearchPost w l seq) := by
  go_enter Try.func60, Try.ntmps60
  go_wp2_with fail
  go_loopw [9, 10] (fun vi vj wr => ∃ i j : Nat, i ≤ j ∧ j ≤ l.length ∧ vi = .int .i64 i ∧ vj = .int .i64 j ∧ (∀ k f, l[k]? = some f → k < i → f.1 < seq) ∧ (∀ k f, l[k]? = some f → j ≤ k → seq ≤ f.1) ∧ Fr No w wr) (fun vi vj _ => (intOf vj - intOf vi).toNat)
  case atStart => exact ⟨0, l.length, Nat.zero_le _, Nat.le_refl _, rfl, rfl, fun _ _ _ h => by omega, fun k f hk h => by have := (List.getElem?_eq_some_iff.1 hk).1; omega, Fr.refl _ _⟩
  case round =>
    obtain ⟨i, j, hij, hj, rfl, rfl, h1, h2, hfr⟩ := hrel
    have H1 := Lib.hid h1
    have H2 := Lib.hid h2
    clear h1 h2
    by_cases hlt : i < j
    · have hk1 : (i : Int) < (j : Int) := by omega
      obtain ⟨rfl, hfa⟩ := hao (by rintro rfl; simp at hj; omega)
      generalize hh : (i + j) / 2 = h
      have hd : ((i : Int) + j) / 2 = (h : Int) := by omega
      have hlh : h < l.length := by omega
      obtain ⟨f, hf⟩ : ∃ f, l[h]? = some f := ⟨_, List.getElem?_eq_getElem hlh⟩
      obtain ⟨va, vc, c0, c1⟩ := (hfa.fr hfr (fun h => h)) h f hf
      have Hh := Lib.hid hh
      clear hh
      by_cases hc1 : f.1 < seq
      · have hcm : cmpI f.1 seq = -1 := by simp [cmpI, hc1]
        go_wp2_with ((refine (f_cmp wr f va vc seq).mono ?_); rintro e w7 ⟨rfl, hf7⟩; rw [hcm])
        refine ⟨⟨h + 1, j, by have := Hh.out; omega, hj, by go_num, rfl, ?_, H2.out, hfr.then0 hf7⟩, by have := Hh.out; simp [intOf]; omega⟩
        intro k g hg hk
        exact Nat.lt_of_le_of_lt (sorted_le hs hg hf (by omega)) hc1
      · have hcm : (cmpI f.1 seq = 0 ∨ cmpI f.1 seq = 1) := by unfold cmpI; rw [if_neg hc1]; split <;> simp
        rcases hcm with hcm | hcm
        all_goals
          go_wp2_with ((refine (f_cmp wr f va vc seq).mono ?_); rintro e w7 ⟨rfl, hf7⟩; rw [hcm])
          refine ⟨⟨i, h, by have := Hh.out; omega, by omega, rfl, rfl, H1.out, ?_, hfr.then0 hf7⟩, by have := Hh.out; simp [intOf]; omega⟩
          intro k g hg hk
          exact Nat.le_trans (by omega) (sorted_le hs hf hg hk)
    · have he : i = j := by omega
      subst he
      have hpl := place_of hj H1.out H2.out
      have hany := any_of H1.out H2.out hs
      by_cases hl : i < l.length
      · obtain ⟨rfl, hfa⟩ := hao (by rintro rfl; simp at hl)
        obtain ⟨f, hf⟩ : ∃ f, l[i]? = some f := ⟨_, List.getElem?_eq_getElem hl⟩
        obtain ⟨va, vc, c0, c1⟩ := (hfa.fr hfr (fun h => h)) i f hf
        rw [hf] at hany
        have hc0 : (cmpI f.1 seq == 0) = (f.1 == seq) := by
          have := H2.out i f hf (Nat.le_refl _)
          rw [Bool.eq_iff_iff, beq_iff_eq, beq_iff_eq]
          unfold cmpI
          repeat' split
          all_goals omega
        have Hany := Lib.hid hany
        have Hpl := Lib.hid hpl
        clear hany hpl
        go_wp2_with ((refine (f_cmp wr f va vc seq).mono ?_); rintro e w7 ⟨rfl, hf7⟩)
        go_ret2
        exact ⟨by rw [Hpl.out, Hany.out]; rfl, hfr.then0 hf7⟩
      · rw [List.getElem?_eq_none (by omega)] at hany
        have hl2 : ¬ (i : Int) < (l.length : Int) := by omega
        have Hany := Lib.hid hany
        have Hpl := Lib.hid hpl
        clear hany hpl
        go_wp2_with fail
        go_ret2
        exact ⟨by rw [Hpl.out, Hany.out]; rfl, hfr⟩
end Go.Proofs.Ytplgmcpglbpghaa

/- Slices of frames: cut, copied, cleared. -/
namespace Go.Proofs.Ytplgmcpglbpghaa
open Go.RowKit

/-- xs laid over l from place o on. -/
def put {α : Type} (l : List α) (o : Nat) (xs : List α) : List α := l.take o ++ xs ++ l.drop (o + xs.length)
theorem put_length {α : Type} {l xs : List α} {o : Nat} (h : o + xs.length ≤ l.length) : (put l o xs).length = l.length := by simp [put]; omega
theorem put_take {α : Type} {l xs : List α} {o k : Nat} (h : o + xs.length ≤ l.length) (hk : k ≤ o) : (put l o xs).take k = l.take k := by
  unfold put
  rw [List.append_assoc, List.take_append_of_le_length (by simp; omega), List.take_take, Nat.min_eq_left hk]
theorem put_take' {α : Type} {l xs : List α} {o k : Nat} (h : o + xs.length ≤ l.length) (hk : k = o + xs.length) : (put l o xs).take k = l.take o ++ xs := by
  unfold put
  rw [List.take_append_of_le_length (by simp; omega), List.take_of_length_le (by simp; omega)]
theorem put_drop {α : Type} {l xs : List α} {o k : Nat} (h : o + xs.length ≤ l.length) (hk : k = o + xs.length) : (put l o xs).drop k = l.drop k := by
  unfold put
  have hl : (l.take o ++ xs).length = k := by simp; omega
  rw [← hl, List.drop_left, hl, hk]

/-- Insert in place: the tail moves up by one, the new element is laid in. -/
theorem ins_room {α : Type} {L xs news : List α} {i n : Nat} (hxs : L.take (n * 2) = xs) (hi : i ≤ n) (hL : (n + 1) * 2 ≤ L.length) (hn : news.length = 2) :
    (put (put L ((i + 1) * 2) (xs.drop (i * 2))) (i * 2) news).take ((n + 1) * 2) = xs.take (i * 2) ++ news ++ xs.drop (i * 2) := by
  have hxl : xs.length = n * 2 := by rw [← hxs]; simp; omega
  have hd : (xs.drop (i * 2)).length = n * 2 - i * 2 := by rw [List.length_drop, hxl]
  have h1 : (i + 1) * 2 + (xs.drop (i * 2)).length ≤ L.length := by rw [hd]; omega
  have h2 : i * 2 + news.length ≤ (put L ((i + 1) * 2) (xs.drop (i * 2))).length := by rw [put_length h1]; omega
  have e0 : xs.take (i * 2) = L.take (i * 2) := by rw [← hxs, List.take_take, Nat.min_eq_left (by omega)]
  rw [show put (put L ((i + 1) * 2) (xs.drop (i * 2))) (i * 2) news = (put L ((i + 1) * 2) (xs.drop (i * 2))).take (i * 2) ++ news ++ (put L ((i + 1) * 2) (xs.drop (i * 2))).drop (i * 2 + news.length) from rfl,
    put_take h1 (by omega), hn, e0]
  rw [show (put L ((i + 1) * 2) (xs.drop (i * 2))).drop (i * 2 + 2) = xs.drop (i * 2) ++ L.drop ((i + 1) * 2 + (xs.drop (i * 2)).length) by
    have hl : (L.take ((i + 1) * 2)).length = i * 2 + 2 := by simp; omega
    unfold put
    rw [List.append_assoc, ← hl, List.drop_left]]
  rw [← List.append_assoc, List.take_append_of_le_length (by simp only [List.length_append, List.length_take, hn, hd]; omega), List.take_of_length_le (by simp only [List.length_append, List.length_take, hn, hd]; omega)]

/-- Insert into a new row. -/
theorem ins_grow {α : Type} {L xs news : List α} {i n : Nat} (hxl : xs.length = n * 2) (h0 : L.take (i * 2) = xs.take (i * 2)) (hi : i ≤ n) (hL : (n + 1) * 2 ≤ L.length) (hn : news.length = 2) :
    (put (put L (i * 2) news) ((i + 1) * 2) (xs.drop (i * 2))).take ((n + 1) * 2) = xs.take (i * 2) ++ news ++ xs.drop (i * 2) := by
  have hd : (xs.drop (i * 2)).length = n * 2 - i * 2 := by rw [List.length_drop, hxl]
  have h1 : i * 2 + news.length ≤ L.length := by omega
  rw [put_take' (by rw [put_length h1, hd]; omega) (by rw [hd]; omega), put_take' h1 (by omega), h0]

/-- Delete of one at the front. -/
theorem del_front {α : Type} {L xs : List α} {n : Nat} (hxs : L.take (n * 2) = xs) (hn : 1 ≤ n) (hL : n * 2 ≤ L.length) (zs : List α) (hz : zs.length = 2) :
    (put (put L 0 (xs.drop 2)) ((n - 1) * 2) zs).take ((n - 1) * 2) = xs.drop 2 := by
  have hxl : xs.length = n * 2 := by rw [← hxs]; simp; omega
  have hd : (xs.drop 2).length = (n - 1) * 2 := by rw [List.length_drop, hxl]; omega
  have h1 : 0 + (xs.drop 2).length ≤ L.length := by rw [hd]; omega
  rw [put_take (by rw [put_length h1, hz]; omega) (Nat.le_refl _), put_take' h1 (by rw [hd]; omega)]
  simp

theorem sizeFrame (W : World) : (sizeOf 97).run Try.prog W = .ok 2 W := by go_simp

/-- copy, of elements of any size, into a plain row. -/
theorem run_copyS (w : World) (dT sT ty elem : TypeId) (sz g o dLen dCap : Nat) (a : Addr) (sLen sCap : Nat) (cur : Array Value) (t : TypeId) (cs : List Value) (m : Nat) (hm : min sLen dLen = m)
    (hu : Try.prog.underlying dT = some (.slice elem)) (hs : (Try.prog.info? elem).map (·.size) = some sz)
    (hg : w.heap[g]? = some (.cells cur t (0, 0))) (hn : cs.length = m * sz)
    (hsrc : ∀ j v, cs[j]? = some v → w.cell? (a.add j) = some v) (hfit : o + cs.length ≤ cur.size) (h1 : ∀ v ∈ cs, v.oneCell' = true) :
    (Builtin.copy_ #[dT, sT] ty #[.slice (some ⟨g, o, none⟩) dLen dCap, .slice (some a) sLen sCap]).run Try.prog w =
      .ok (goInt m) (w.setRow g (put cur.toList o cs).toArray) := by
  have hm : Nat.min sLen dLen = m := hm
  have hl := run_loadCells_list (P := Try.prog) w a cs hsrc
  have hst := run_storeCells_at Try.prog g o t cs 0 cur w hg (by simpa using hfit) h1
  cases hq : Try.prog.info? elem with
  | none => simp [hq] at hs
  | some i =>
    have hi : i.size = sz := by simpa [hq] using hs
    simp [Builtin.copy_, run_underlying hu, Builtin.lenOf, Builtin.firstCells, sizeOf, typeInfo, hq, hi, hm, ← hn, hl, hst, put]

theorem Fr.setRow0 {w : World} {g : Nat} {cur new : Array Value} {e : TypeId} {f : Nat × Nat} (hg : w.heap[g]? = some (.cells cur e f)) : Fr (One g) w (w.setRow g new) :=
  ⟨rfl, rfl, rfl, by simp [World.setRow], fun k _ hn => setRow_other w g k new (fun h => hn h), fun k t ht => typ_setRow hg k t ht⟩
theorem setRow_own {w : World} {g : Nat} {cur new : Array Value} {e : TypeId} (hg : w.heap[g]? = some (.cells cur e (0, 0))) : (w.setRow g new).heap[g]? = some (.cells new e (0, 0)) := setRow_heap w g cur new e (0, 0) hg

/-- s[i:] -/
theorem fr_from (g n c i : Nat) (hi : i ≤ n) (hn : n ≤ c) : ∃ a2, (∀ W, (Instr.slice 86 (.slice (some ⟨g, 0, none⟩) n c) (some (.int .i64 i)) none none).run Try.prog W = .ok (.slice a2 (n - i) (c - i)) W) ∧ (i < c → a2 = some ⟨g, i * 2, none⟩) := by
  have hgi : (i : Int) ≤ (n : Int) := by omega
  by_cases hc : c = i
  · exact ⟨some ⟨g, 0, none⟩, fun W => by go_simp, fun h => by omega⟩
  · exact ⟨some ⟨g, i * 2, none⟩, fun W => by go_simp, fun _ => rfl⟩
/-- s[:k] -/
theorem fr_to (g n c k : Nat) (hk : k ≤ c) : ∀ W, (Instr.slice 86 (.slice (some ⟨g, 0, none⟩) n c) none (some (.int .i64 k)) none).run Try.prog W = .ok (.slice (some ⟨g, 0, none⟩) k c) W := by
  have hgi : (k : Int) ≤ (c : Int) := by omega
  intro W
  by_cases hc : c = 0
  · subst hc
    have : k = 0 := by omega
    subst this
    go_simp
  · go_simp
end Go.Proofs.Ytplgmcpglbpghaa
