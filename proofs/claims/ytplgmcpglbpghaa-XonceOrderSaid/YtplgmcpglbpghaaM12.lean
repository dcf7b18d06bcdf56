/- Part 12 of the proof: Xg1, Mk. -/
import Derived.Test.YtplgmcpglbpghaaM11
import Derived.Laws.MakeOwn
set_option linter.all false
set_option linter.unusedVariables false
set_option linter.unusedSimpArgs false

/- States: lists that are only read, in a set G of blocks; copies, frames. -/
namespace Go.Proofs.Ytplgmcpglbpghaa
open Go.RowKit

/-- v is a slice of n elements of sz cells each, that lies in G. -/
def SlG (G : Nat → Prop) (w : World) (v : Value) (n sz : Nat) (cs : List Value) : Prop :=
  cs.length = n * sz ∧ ∃ a c, v = .slice a n c ∧ n ≤ c ∧ c ≤ maxLen ∧ (cs ≠ [] → ∃ b o, a = some ⟨b, o, none⟩ ∧ G b ∧ w.rangeAt b o cs)
theorem SlG.fr {G S : Nat → Prop} {w w' : World} {v : Value} {n sz : Nat} {cs : List Value} (h : SlG G w v n sz cs) (hf : Fr S w w') (hn : ∀ k, G k → ¬ S k) : SlG G w' v n sz cs := by
  obtain ⟨hl, a, c, hv, h1, h2, h3⟩ := h
  refine ⟨hl, a, c, hv, h1, h2, fun hne => ?_⟩
  obtain ⟨b, o, ha, hg, hr⟩ := h3 hne
  exact ⟨b, o, ha, hg, hf.range (hn b hg) hr⟩
theorem SlG.mono {G G' : Nat → Prop} {w : World} {v : Value} {n sz : Nat} {cs : List Value} (h : SlG G w v n sz cs) (hg : ∀ k, G k → G' k) : SlG G' w v n sz cs := by
  obtain ⟨hl, a, c, hv, h1, h2, h3⟩ := h
  refine ⟨hl, a, c, hv, h1, h2, fun hne => ?_⟩
  obtain ⟨b, o, ha, hg', hr⟩ := h3 hne
  exact ⟨b, o, ha, hg b hg', hr⟩
theorem SlG.form {G : Nat → Prop} {w : World} {v : Value} {n sz : Nat} {cs : List Value} (h : SlG G w v n sz cs) : ∃ a c, v = .slice a n c := let ⟨_, a, c, hv, _⟩ := h; ⟨a, c, hv⟩
theorem SlG.nil (G : Nat → Prop) (w : World) (sz : Nat) : SlG G w nilS 0 sz [] := ⟨by simp, none, 0, rfl, by simp, by simp [maxLen], fun h => absurd rfl h⟩
theorem SlG.of_owns {G : Nat → Prop} {base : Nat} {w : World} {v : Value} {e : TypeId} {n sz : Nat} {xs : List Value} (h : w.ownsRow base e sz v n xs) (hg : ∀ k, v.ownBlock = some k → G k) : SlG G w v n sz xs := by
  obtain ⟨h1, a, c, hv, h2, h3, h4⟩ := range_of_owns h
  refine ⟨h1, a, c, hv, h2, h3, fun hne => ?_⟩
  obtain ⟨b, ha, hb, _, ht, hr⟩ := h4 hne
  exact ⟨b, 0, ha, hg b hb, hr⟩

def QueueG (B : Nat) (G : Nat → Prop) (w : World) (v : Value) (q : List (List Int)) : Prop := ∃ vs, All2 (Bytes B w) vs q ∧ SlG G w v q.length 1 vs
def EarlyG (B : Nat) (G : Nat → Prop) (w : World) (v : Value) (l : List (Nat × List Int)) : Prop := ∃ vs, All2 (Bytes B w) vs (l.map (·.2)) ∧ SlG G w v l.length 2 (cellsOf frameCells l vs)
theorem QueueG.fr {B : Nat} {G S : Nat → Prop} {w w' : World} {v : Value} {q : List (List Int)} (h : QueueG B G w v q) (hf : Fr S w w') (hS : FreeT [5] B w S) (hn : ∀ k, G k → ¬ S k) : QueueG B G w' v q :=
  let ⟨vs, h1, h2⟩ := h
  ⟨vs, h1.mono fun _ _ h => h.fr hf hS, h2.fr hf hn⟩
theorem EarlyG.fr {B : Nat} {G S : Nat → Prop} {w w' : World} {v : Value} {l : List (Nat × List Int)} (h : EarlyG B G w v l) (hf : Fr S w w') (hS : FreeT [5] B w S) (hn : ∀ k, G k → ¬ S k) : EarlyG B G w' v l :=
  let ⟨vs, h1, h2⟩ := h
  ⟨vs, h1.mono fun _ _ h => h.fr hf hS, h2.fr hf hn⟩
theorem QueueG.fr0 {B : Nat} {G : Nat → Prop} {w w' : World} {v : Value} {q : List (List Int)} (h : QueueG B G w v q) (hf : Fr No w w') : QueueG B G w' v q := h.fr hf FreeT.no (fun _ _ h => h)
theorem EarlyG.fr0 {B : Nat} {G : Nat → Prop} {w w' : World} {v : Value} {l : List (Nat × List Int)} (h : EarlyG B G w v l) (hf : Fr No w w') : EarlyG B G w' v l := h.fr hf FreeT.no (fun _ _ h => h)
theorem QueueG.mono {B : Nat} {G G' : Nat → Prop} {w : World} {v : Value} {q : List (List Int)} (h : QueueG B G w v q) (hg : ∀ k, G k → G' k) : QueueG B G' w v q := let ⟨vs, h1, h2⟩ := h; ⟨vs, h1, h2.mono hg⟩
theorem EarlyG.mono {B : Nat} {G G' : Nat → Prop} {w : World} {v : Value} {l : List (Nat × List Int)} (h : EarlyG B G w v l) (hg : ∀ k, G k → G' k) : EarlyG B G' w v l := let ⟨vs, h1, h2⟩ := h; ⟨vs, h1, h2.mono hg⟩
theorem QueueAt.toG {B : Nat} {w : World} {v : Value} {q : List (List Int)} {F : Nat → Prop} (h : QueueAt B w v q F) : QueueG B F w v q := let ⟨vs, h1, h2, h3⟩ := h; ⟨vs, h1, SlG.of_owns h2 h3⟩
theorem EarlyAt.toG {B : Nat} {w : World} {v : Value} {l : List (Nat × List Int)} {F : Nat → Prop} (h : EarlyAt B w v l F) : EarlyG B F w v l := let ⟨vs, h1, h2, h3⟩ := h; ⟨vs, h1, SlG.of_owns h2 h3⟩
theorem QueueG.form {B : Nat} {G : Nat → Prop} {w : World} {v : Value} {q : List (List Int)} (h : QueueG B G w v q) : ∃ a c, v = .slice a q.length c := let ⟨_, _, h⟩ := h; h.form
theorem EarlyG.form {B : Nat} {G : Nat → Prop} {w : World} {v : Value} {l : List (Nat × List Int)} (h : EarlyG B G w v l) : ∃ a c, v = .slice a l.length c := let ⟨_, _, h⟩ := h; h.form

def bytesEnc (_ : List Int) (v : Value) : List Value := [v]
theorem bytesEnc_len (x : List Int) (v : Value) : (bytesEnc x v).length = 1 := rfl
theorem cellsOf_bytes : ∀ (l : List (List Int)) (vs : List Value), l.length = vs.length → cellsOf bytesEnc l vs = vs
  | [], [], _ => rfl
  | a :: l, v :: vs, h => by
    simp only [cellsOf, bytesEnc, List.cons_append, List.nil_append]
    rw [cellsOf_bytes l vs (by simpa using h)]
  | [], _ :: _, h => by simp at h
  | _ :: _, [], h => by simp at h
abbrev QOwn (B base : Nat) (w : World) (v : Value) (q : List (List Int)) : Prop := OwnL bytesEnc id 33 1 B base w v q
abbrev EOwn (B base : Nat) (w : World) (v : Value) (l : List (Nat × List Int)) : Prop := OwnL frameCells (·.2) 97 2 B base w v l
theorem OwnL.toQ {B base : Nat} {w : World} {v : Value} {q : List (List Int)} {G : Nat → Prop} (h : QOwn B base w v q) (hg : ∀ k, v.ownBlock = some k → G k) : QueueG B G w v q := by
  obtain ⟨vs, h1, h2⟩ := h
  rw [List.map_id] at h1
  rw [cellsOf_bytes _ _ h1.length.symm] at h2
  exact ⟨vs, h1, SlG.of_owns h2 hg⟩
theorem OwnL.toQA {B base : Nat} {w : World} {v : Value} {q : List (List Int)} {F : Nat → Prop} (h : QOwn B base w v q) (hB : B ≤ base) (hg : ∀ k, v.ownBlock = some k → F k) : QueueAt B w v q F := by
  obtain ⟨vs, h1, h2⟩ := h
  rw [List.map_id] at h1
  rw [cellsOf_bytes _ _ h1.length.symm] at h2
  exact ⟨vs, h1, owns_base h2 hB, hg⟩
theorem OwnL.toE {B base : Nat} {w : World} {v : Value} {l : List (Nat × List Int)} {G : Nat → Prop} (h : EOwn B base w v l) (hg : ∀ k, v.ownBlock = some k → G k) : EarlyG B G w v l := by
  obtain ⟨vs, h1, h2⟩ := h
  exact ⟨vs, h1, SlG.of_owns h2 hg⟩
theorem OwnL.toEA {B base : Nat} {w : World} {v : Value} {l : List (Nat × List Int)} {F : Nat → Prop} (h : EOwn B base w v l) (hB : B ≤ base) (hg : ∀ k, v.ownBlock = some k → F k) : EarlyAt B w v l F := by
  obtain ⟨vs, h1, h2⟩ := h
  exact ⟨vs, h1, owns_base h2 hB, hg⟩

def CopiesPost (B : Nat) (w : World) (q : List (List Int)) (e : Ending) (w' : World) : Prop := ∃ v, e = .returned v ∧ QOwn B w.heap.size w' v q ∧ Fr No w w'
def FramesPost (B : Nat) (w : World) (l : List (Nat × List Int)) (e : Ending) (w' : World) : Prop := ∃ v, e = .returned v ∧ EOwn B w.heap.size w' v l ∧ Fr No w w'

/-- Element k of a queue: where it lies, and what it is. -/
theorem QueueG.at {B : Nat} {G : Nat → Prop} {w : World} {a : Option Addr} {c : Nat} {q : List (List Int)} (h : QueueG B G w (.slice a q.length c) q) {k : Nat} {l : List Int} (hl : q[k]? = some l) :
    ∃ b o va vc, a = some ⟨b, o, none⟩ ∧ b < w.heap.size ∧ G b ∧ w.cell? ⟨b, o + k, none⟩ = some (.slice va l.length vc) ∧ Bytes B w (.slice va l.length vc) l := by
  obtain ⟨vs, hvs, hcl, a', c', he, _, _, hne⟩ := h
  cases he
  obtain ⟨v, hv, hb⟩ := hvs.get hl
  obtain ⟨b, o, rfl, hg, hr⟩ := hne (fun h => by rw [h] at hv; cases hv)
  obtain ⟨va, vc, rfl⟩ := hb.form
  have := hr k _ hv
  exact ⟨b, o, va, vc, rfl, World.block_lt_of_cell? w _ this, hg, this, hb⟩
theorem EarlyG.at {B : Nat} {G : Nat → Prop} {w : World} {a : Option Addr} {c : Nat} {q : List (Nat × List Int)} (h : EarlyG B G w (.slice a q.length c) q) {k : Nat} {f : Nat × List Int} (hl : q[k]? = some f) :
    ∃ b o va vc, a = some ⟨b, o, none⟩ ∧ b < w.heap.size ∧ G b ∧ w.cell? ⟨b, o + k * 2, none⟩ = some (.int .u64 f.1) ∧ w.cell? ⟨b, o + k * 2 + 1, none⟩ = some (.slice va f.2.length vc) ∧ Bytes B w (.slice va f.2.length vc) f.2 := by
  obtain ⟨vs, hvs, hcl, a', c', he, _, _, hne⟩ := h
  cases he
  obtain ⟨v, hv, hb⟩ := hvs.get (show (q.map (·.2))[k]? = some f.2 by simp [hl])
  have hk := (List.getElem?_eq_some_iff.1 hl).1
  obtain ⟨b, o, rfl, hg, hr⟩ := hne (fun h => by rw [h] at hcl; simp at hcl; omega)
  obtain ⟨va, vc, rfl⟩ := hb.form
  have h0 := hr (k * 2 + 0) _ (cellsOf_get frameCells_length q vs k f _ hl hv 0 (by omega))
  have h1 := hr (k * 2 + 1) _ (cellsOf_get frameCells_length q vs k f _ hl hv 1 (by omega))
  exact ⟨b, o, va, vc, rfl, World.block_lt_of_cell? w _ h0, hg, h0, h1, hb⟩

set_option maxRecDepth 100000 in
set_option maxHeartbeats 1000000 in
theorem f_copies (B : Nat) (G : Nat → Prop) (w : World) (v : Value) (q : List (List Int)) (h : QueueG B G w v q) (hB : B ≤ w.heap.size) (hn : q.length ≤ 1000) :
    Calls Try.prog 38 #[v] w (CopiesPost B w q) := by
  obtain ⟨a, c, rfl⟩ := h.form
  have H := Lib.hid h
  clear h
  go_enter Try.func38, Try.ntmps38
  go_wp2
  go_loopw [3, 8] (fun v i wr => ∃ k : Nat, k ≤ q.length ∧ i = .int .i64 k ∧ QOwn B w.heap.size wr v (q.take k) ∧ Fr No w wr) (fun _ i _ => 1000 - (intOf i).toNat)
  case atStart => exact ⟨0, Nat.zero_le _, rfl, OwnL.nil _ _ _ _ _ _ _, Fr.refl _ _⟩
  case round =>
    obtain ⟨k, hk, rfl, hv, hfr⟩ := hrel
    obtain ⟨va, vc, rfl⟩ := hv.form
    have htk : (q.take k).length = k := by rw [List.length_take]; omega
    rw [htk] at hv ⊢
    have Hv := Lib.hid hv
    have Htk := Lib.hid htk
    clear hv htk
    by_cases hlt : k < q.length
    · have hk1 : (k : Int) < (q.length : Int) := by omega
      obtain ⟨l, hl⟩ : ∃ l, q[k]? = some l := ⟨_, List.getElem?_eq_getElem hlt⟩
      obtain ⟨b, o, xa, xc, rfl, hb, _, hc, hB2⟩ := H.out.at hl
      have hc' : wr.cell? ⟨b, o + k, none⟩ = some (.slice xa l.length xc) := by rw [hfr.cell hb (fun h => h)]; exact hc
      have Hsucc := Lib.hid (show q.take (k + 1) = q.take k ++ [l] by rw [List.take_add_one, hl]; rfl)
      have HB2 := Lib.hid (hB2.fr hfr FreeT.no)
      clear hl hc hB2
      go_wp2_with (first | (go_at_call 57; refine (cloneB B wr _ l HB2.out).mono ?_; rintro en w7 ⟨pv, rfl, hpv, hf7⟩; obtain ⟨oa, oc, rfl⟩ := hpv.form) | (at_builtin; refine wpList_snoc (x := l) (pv := .slice oa l.length oc) elBytess bytesEnc_len (by decide) rfl (.tmp 12) (.tmp 15) rfl rfl (Hv.out.fr0 (hf7.alloc _)) rfl ⟨w7.heap.size, 0, rfl, range_new (cs := bytesEnc l (.slice oa l.length oc))⟩ (by simp [bytesEnc, Value.oneCell']) (hpv.fr (Fr.alloc0 _ _) FreeT.no) hB (by rw [Htk.out]; simp only [maxLen]; omega) (by rw [Htk.out]; omega) (by have := hfr.size; have := hf7.size; simp; omega) ?_; intro ao' c' w8 hown8 hf8))
      refine ⟨⟨k + 1, by omega, by go_num, by rw [Hsucc.out]; rw [Htk.out] at hown8; exact hown8, ((hfr.then0 hf7).alloc _).trans' hf8 (fun x hx h => by unfold From at h; omega)⟩, by simp [intOf]; omega⟩
    · have hkn : k = q.length := by omega
      have hk1 : ¬ (k : Int) < (q.length : Int) := by omega
      have Hkn := Lib.hid hkn
      clear hkn
      go_wp2_with fail
      go_ret
      refine ⟨_, rfl, ?_, hfr⟩
      have := Hv.out
      rw [Hkn.out, List.take_length] at this
      rw [Hkn.out]
      exact this

theorem frameCells_one (x : Nat × List Int) (v : Value) (h : v.oneCell' = true) : ∀ u ∈ frameCells x v, u.oneCell' = true := by
  intro u hu
  simp only [frameCells, List.mem_cons, List.not_mem_nil, or_false] at hu
  rcases hu with rfl | rfl
  · rfl
  · exact h

set_option maxRecDepth 100000 in
set_option maxHeartbeats 1000000 in
theorem f_frames (B : Nat) (G : Nat → Prop) (w : World) (v : Value) (q : List (Nat × List Int)) (h : EarlyG B G w v q) (hB : B ≤ w.heap.size) (hn : q.length ≤ 1000) :
    Calls Try.prog 39 #[v] w (FramesPost B w q) := by
  obtain ⟨a, c, rfl⟩ := h.form
  have H := Lib.hid h
  clear h
  go_enter Try.func39, Try.ntmps39
  go_wp2
  go_loopw [3, 8] (fun v i wr => ∃ k : Nat, k ≤ q.length ∧ i = .int .i64 k ∧ EOwn B w.heap.size wr v (q.take k) ∧ Fr No w wr) (fun _ i _ => 1000 - (intOf i).toNat)
  case atStart => exact ⟨0, Nat.zero_le _, rfl, OwnL.nil _ _ _ _ _ _ _, Fr.refl _ _⟩
  case round =>
    obtain ⟨k, hk, rfl, hv, hfr⟩ := hrel
    obtain ⟨va, vc, rfl⟩ := hv.form
    have htk : (q.take k).length = k := by rw [List.length_take]; omega
    rw [htk] at hv ⊢
    have Hv := Lib.hid hv
    have Htk := Lib.hid htk
    clear hv htk
    by_cases hlt : k < q.length
    · have hk1 : (k : Int) < (q.length : Int) := by omega
      obtain ⟨l, hl⟩ : ∃ l, q[k]? = some l := ⟨_, List.getElem?_eq_getElem hlt⟩
      obtain ⟨b, o, xa, xc, rfl, hb, _, hc0, hc1, hB2⟩ := H.out.at hl
      have hc0' : wr.cell? ⟨b, o + k * 2, none⟩ = some (.int .u64 l.1) := by rw [hfr.cell hb (fun h => h)]; exact hc0
      have hc1' : wr.cell? ⟨b, o + k * 2 + 1, none⟩ = some (.slice xa l.2.length xc) := by rw [hfr.cell hb (fun h => h)]; exact hc1
      have Hsucc := Lib.hid (show q.take (k + 1) = q.take k ++ [l] by rw [List.take_add_one, hl]; rfl)
      have HB2 := Lib.hid (hB2.fr hfr FreeT.no)
      clear hl hc0 hc1 hB2
      go_wp2_with fail
      have hfr1 : Fr No wr (wr.alloc (.cells #[.int .u64 l.1, .slice xa l.2.length xc] 97)) := Fr.alloc0 _ _
      have hs1 : (wr.alloc (.cells #[.int .u64 l.1, .slice xa l.2.length xc] 97)).heap.size = wr.heap.size + 1 := by simp
      have hb1 : (wr.alloc (.cells #[.int .u64 l.1, .slice xa l.2.length xc] 97)).heap[wr.heap.size]? = some (.cells #[.int .u64 l.1, .slice xa l.2.length xc] 97 (0, 0)) := heap_alloc_new _ _
      generalize wr.alloc (.cells #[.int .u64 l.1, .slice xa l.2.length xc] 97) = W1 at *
      have m0 : W1.cell? ⟨wr.heap.size, 0, none⟩ = some (.int .u64 l.1) := by rw [cell_of_row _ _ 0 _ _ _ hb1]; rfl
      have m1 : W1.cell? ⟨wr.heap.size, 1, none⟩ = some (.slice xa l.2.length xc) := by rw [cell_of_row _ _ 1 _ _ _ hb1]; rfl
      generalize hSd : (fun b => (Value.slice va k vc).ownBlock = some b) = S
      have hSb : ∀ b, S b → w.heap.size ≤ b ∧ b < wr.heap.size := by
        rw [← hSd]; intro b hb
        have := Hv.out.block hb
        exact ⟨this.2, typ_lt this.1⟩
      have hqlt : wr.heap.size < W1.heap.size := by omega
      have hqS : ¬ S wr.heap.size := fun e => by have := hSb _ e; omega
      have Hs1 := Lib.hid hs1
      clear hs1 hc0' hc1'
      refine WS.wp_region_seq (Fr S W1) [] [(0, true), (1, true), (2, true), (3, true), (4, true), (5, false), (6, true), (7, false), (8, false), (9, true)] (by kernel_rfl) (by kernel_rfl) (fun c d v a w h => by cases d <;> exact h) ((Fr.refl _ _).drew) ?_
      simp only [WS.pick, List.getElem?_toArray, List.getElem?_cons_succ, List.getElem?_cons_zero]
      repeat (first | (refine WS.wpL_skip rfl ?_; try simp only [Act.put, List.setIfInBounds_toArray, List.set_cons_zero, List.set_cons_succ]) | (refine WS.wpL_q ?_ rfl ?_ ?_; rotate_left 1; (focus (intro w' hw'; have hrc' := Fr.rules1 hw' hqlt hqS; clear hw'; go_simp; (try with_reducible rfl); done)); try simp only [Act.put, List.setIfInBounds_toArray, List.set_cons_zero, List.set_cons_succ]))
      refine WS.wpL_e rfl (fun K hK => ?_)
      go_simp
      refine (cloneB B _ _ l.2 ((HB2.out.fr hfr1 FreeT.no).fr ((Fr.refl No _).drew) FreeT.no)).mono ?_
      rintro en w7 ⟨pv, rfl, hpv, hf7⟩
      obtain ⟨oa, oc, rfl⟩ := hpv.form
      have hf7' : Fr No W1 w7 := hf7.ofDrew
      refine hK _ _ (fun _ => hf7'.mono (fun _ _ h => h.elim)) ?_
      clear hK K
      try simp only [Act.put, List.setIfInBounds_toArray, List.set_cons_zero, List.set_cons_succ]
      repeat (first | (refine WS.wpL_skip rfl ?_; try simp only [Act.put, List.setIfInBounds_toArray, List.set_cons_zero, List.set_cons_succ]) | (refine WS.wpL_q ?_ rfl ?_ ?_; rotate_left 1; (focus (intro w' hw'; have hrc' := Fr.rules1 hw' hqlt hqS; clear hw'; go_simp; (try with_reducible rfl); done)); try simp only [Act.put, List.setIfInBounds_toArray, List.set_cons_zero, List.set_cons_succ]))
      refine WS.wpL_e rfl (fun K hK => ?_)
      go_simp
      have hf8 := hf7'.alloc (.cells (frameCells l (.slice oa l.2.length oc)).toArray 97)
      refine hK _ _ (fun _ => hf8.mono (fun _ _ h => h.elim)) ?_
      clear hK K
      try simp only [Act.put, List.setIfInBounds_toArray, List.set_cons_zero, List.set_cons_succ]
      repeat (first | (refine WS.wpL_skip rfl ?_; try simp only [Act.put, List.setIfInBounds_toArray, List.set_cons_zero, List.set_cons_succ]) | (refine WS.wpL_q ?_ rfl ?_ ?_; rotate_left 1; (focus (intro w' hw'; have hrc' := Fr.rules1 hw' hqlt hqS; clear hw'; go_simp; (try with_reducible rfl); done)); try simp only [Act.put, List.setIfInBounds_toArray, List.set_cons_zero, List.set_cons_succ]))
      refine WS.wpL_e rfl (fun K hK => ?_)
      have hvW : EOwn B w.heap.size (w7.alloc (.cells (frameCells l (.slice oa l.2.length oc)).toArray 97)) (.slice va k vc) (q.take k) := (Hv.out.fr0 hfr1).fr0 hf8
      refine wp_snoc (x := l) (pv := .slice oa l.2.length oc) elFrames frameCells_length (by decide) (.tmp 12) (.tmp 19) rfl rfl hvW rfl ⟨w7.heap.size, 0, rfl, range_new (cs := frameCells l (.slice oa l.2.length oc))⟩ (by simp [frameCells, Value.oneCell']) (hpv.fr (Fr.alloc0 _ _) FreeT.no) hB (by rw [Htk.out]; simp only [maxLen]; omega) (by rw [Htk.out]; omega) (by have := hfr.size; have := hfr1.size; have := hf7'.size; simp; omega) ?_
      intro ao' c' w8 hown9 hf9 _
      have hf9' : Fr S W1 w8 := (hf8.mono (fun _ _ h => h.elim)).trans (by rw [← hSd]; exact hf9)
      refine hK _ _ (fun _ => hf9') ?_
      clear hK K
      try simp only [Act.put, List.setIfInBounds_toArray, List.set_cons_zero, List.set_cons_succ]
      repeat (first | (refine WS.wpL_skip rfl ?_; try simp only [Act.put, List.setIfInBounds_toArray, List.set_cons_zero, List.set_cons_succ]) | (refine WS.wpL_q ?_ rfl ?_ ?_; rotate_left 1; (focus (intro w' hw'; have hrc' := Fr.rules1 hw' hqlt hqS; clear hw'; go_simp; (try with_reducible rfl); done)); try simp only [Act.put, List.setIfInBounds_toArray, List.set_cons_zero, List.set_cons_succ]))
      refine WS.wpL_nil ?_
      go_wp2_with fail
      refine ⟨⟨k + 1, by omega, by go_num, by rw [Hsucc.out]; rw [Htk.out] at hown9; exact hown9, (hfr.then0 hfr1).trans' hf9' (fun x hx h => by have := hSb x h; omega)⟩, by simp [intOf]; omega⟩
    · have hkn : k = q.length := by omega
      have hk1 : ¬ (k : Int) < (q.length : Int) := by omega
      have Hkn := Lib.hid hkn
      clear hkn
      go_wp2_with fail
      go_ret
      refine ⟨_, rfl, ?_, hfr⟩
      have := Hv.out
      rw [Hkn.out, List.take_length] at this
      rw [Hkn.out]
      exact this
end Go.Proofs.Ytplgmcpglbpghaa

/- make([]T, n): a row of n zeros. -/
namespace Go.Proofs.Ytplgmcpglbpghaa
open Go.RowKit

theorem madeCells_eq (z : Array Value) (hz : 0 < z.size) : ∀ n, (madeCells z (n * z.size)).toList = (List.replicate n z.toList).flatten
  | 0 => by simp [madeCells]
  | n + 1 => by
    have ih := madeCells_eq z hz n
    unfold madeCells at *
    rw [List.replicate_succ', List.flatten_append, ← ih]
    simp only [Array.toList_map, Array.toList_range]
    rw [Nat.succ_mul, List.range_add, List.map_append]
    congr 1
    rw [List.map_map]
    apply List.ext_getElem
    · simp
    · intro i h1 h2
      have hi : i < z.size := by simpa using h1
      simp [Nat.mod_eq_of_lt hi, hi]

/-- The rows of n zeros. -/
def zeros (z : Value) (n : Nat) : List Value := (List.replicate n z.cells.toList).flatten
theorem zeros_len (z : Value) (n : Nat) : (zeros z n).length = n * z.cells.size := by simp [zeros]

theorem run_mk (w : World) {t e : TypeId} {z : Value} {sz by' : Nat} (hu : Try.prog.underlying t = some (.slice e)) (hi : (Try.prog.info? e).map (fun i => (i.zero, i.size, i.bytes)) = some (some z, sz, by')) (hz : z.cells.size = sz) (hs : 0 < sz)
    (kl kc : IntKind) (n : Nat) (hb : by' * n ≤ 281474976710656) (hn : n ≤ maxLen) :
    (Instr.makeSlice t (.int kl n) (.int kc n)).run Try.prog w = .ok (.slice (some ⟨w.heap.size, 0, none⟩) n n) (w.alloc (.cells (zeros z n).toArray e)) := by
  obtain ⟨i, hi, h1, h2, h3⟩ := info_parts hi
  have key : madeCells z.cells (n * sz) = (zeros z n).toArray := by
    unfold zeros
    rw [← madeCells_eq _ (by omega), hz]
  have hn' : (n : Int) ≤ 9223372036854775807 := by unfold maxLen at hn; omega
  have hb' : (i.bytes : Int) * (n : Int) ≤ 281474976710656 := by
    have h' : ((by' * n : Nat) : Int) ≤ 281474976710656 := Int.ofNat_le.2 hb
    rw [h3]; rwa [Int.natCast_mul] at h'
  have := run_make (P := Try.prog) w t e i z hu hi h1 kl kc n n (Int.natCast_nonneg n) (Int.le_refl _) hb' hn'
  rw [h2, Int.toNat_natCast, key] at this
  exact this

theorem wp_mk {w : World} {t e : TypeId} {z : Value} {sz by' : Nat} (hu : Try.prog.underlying t = some (.slice e)) (hi : (Try.prog.info? e).map (fun i => (i.zero, i.size, i.bytes)) = some (some z, sz, by')) (hz : z.cells.size = sz) (hs : 0 < sz)
    {o : Oper} {a : Act} {K : Act → World → Prop} {Q : Exit → Act → World → Prop} (l c : Operand) (ho : o.op = .makeSlice t l c) (n : Nat) (hl : a.eval l = .int .i64 n) (hc : a.eval c = .int .i64 n) (hb : by' * n ≤ 281474976710656) (hn : n ≤ maxLen)
    (h : K (a.put o.dst (.slice (some ⟨w.heap.size, 0, none⟩) n n)) (w.alloc (.cells (zeros z n).toArray e))) : o.wp Try.prog a w K Q := by
  unfold Oper.wp execOp
  simp only [ho, hl, hc, run_mk w hu hi hz hs .i64 .i64 n hb hn, Sem.run_bind, Sem.run_pure, Result.andThen_ok]
  exact h
theorem wpList_mk {w : World} {t e : TypeId} {z : Value} {sz by' : Nat} (hu : Try.prog.underlying t = some (.slice e)) (hi : (Try.prog.info? e).map (fun i => (i.zero, i.size, i.bytes)) = some (some z, sz, by')) (hz : z.cells.size = sz) (hs : 0 < sz)
    {ops : Array Oper} {rest : List Oper} {o : Oper} {a : Act} {Q : Exit → Act → World → Prop} (hgd : o.guard = none) (l c : Operand) (ho : o.op = .makeSlice t l c) (n : Nat) (hl : a.eval l = .int .i64 n) (hc : a.eval c = .int .i64 n) (hb : by' * n ≤ 281474976710656) (hn : n ≤ maxLen)
    (h : wpList Try.prog ops Q rest (a.put o.dst (.slice (some ⟨w.heap.size, 0, none⟩) n n)) (w.alloc (.cells (zeros z n).toArray e))) : wpList Try.prog ops Q (o :: rest) a w :=
  wpList_plain hgd fun _ hK => wp_mk hu hi hz hs l c ho n hl hc hb hn (hK _ _ h)
end Go.Proofs.Ytplgmcpglbpghaa
