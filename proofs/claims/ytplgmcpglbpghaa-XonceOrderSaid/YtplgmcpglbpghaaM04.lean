/- Part 4 of the proof: Xs4, Msg, Xs5, Xs6. -/
import Derived.Test.YtplgmcpglbpghaaM03
set_option linter.all false
set_option linter.unusedVariables false
set_option linter.unusedSimpArgs false

namespace Go.Proofs.Ytplgmcpglbpghaa
open Go.RowKit

theorem bit_and (m i : Nat) (hm : m ≤ 18446744073709551615) : bits BinOp.and IntKind.u64 ((m : Int) / 2 ^ i) 1 = if m.testBit i then 1 else 0 := by
  have e : (m : Int) / 2 ^ i = ((m / 2 ^ i : Nat) : Int) := by rw [Int.natCast_ediv, Int.natCast_pow]; rfl
  have hle : m / 2 ^ i ≤ m := Nat.div_le_self _ _
  rw [e, show (1 : Int) = ((1 : Nat) : Int) from rfl, u64_and_nat _ _ (by omega) (by omega), Nat.and_one_is_mod, Nat.testBit_eq_decide_div_mod_eq]
  by_cases h : m / 2 ^ i % 2 = 1
  · simp [h]
  · have : m / 2 ^ i % 2 = 0 := by omega
    simp [this]

def AgainPost (B : Nat) (w : World) (p : PeerD) (e : Ending) (w' : World) : Prop := ∃ v, e = .returned v ∧ OutsOwn B w.heap.size w' v p.again ∧ Fr No w w'

set_option maxRecDepth 100000 in
set_option maxHeartbeats 1000000 in
theorem f_again (B : Nat) (w : World) (q : Nat) (p : PeerD) (F : Nat → Prop) (hp : PeerAt B w q p F) (hok : p.Ok) (hB : B ≤ w.heap.size) :
    Calls Try.prog 49 #[.pointer (some ⟨q, 0, none⟩)] w (AgainPost B w p) := by
  have hlt := hp.lt
  have hp0 := Lib.hid hp
  obtain ⟨_, _, vq, ve, hh, ⟨vs, hvs, hown, _⟩, _⟩ := hp
  obtain ⟨⟨g0, g1, g2, g3⟩, ⟨g4, g5, g6, g7⟩, g8, g9, g10⟩ := peerCells_get hh
  clear hh
  obtain ⟨_, a, c, rfl, _, _, _⟩ := range_of_owns hown
  clear hown hvs
  have hq16 : p.queue.length ≤ 16 := by have := hok.qroom; have := hok.room16; omega
  have hw16 : p.window ≤ 16 := by have := hok.win; have := hok.room16; omega
  go_enter Try.func49, Try.ntmps49
  go_wp2
  go_loopw [3, 4] (fun v i wr => ∃ k : Nat, k ≤ min p.queue.length p.window ∧ i = .int .i64 k ∧ OutsOwn B w.heap.size wr v (p.againTo k) ∧ Fr No w wr) (fun _ i _ => 16 - (intOf i).toNat)
  case atStart => exact ⟨0, Nat.zero_le _, rfl, OwnL.nil _ _ _ _ _ _ _, Fr.refl _ _⟩
  case round =>
    obtain ⟨k, hk, rfl, hv, hfr⟩ := hrel
    obtain ⟨va, vc, rfl⟩ := hv.form
    have Hv := Lib.hid hv
    clear hv
    by_cases hlt : k < min p.queue.length p.window
    · have hk1 : (k : Int) < (p.queue.length : Int) := by omega
      have hk2 : (k : Int) < (p.window : Int) := by omega
      go_wp2_with fail
      refine WS.wp_region_seq (Fr No w) [] [(0, true), (1, true), (2, true), (3, true), (4, true), (5, true), (6, true), (7, true), (8, true), (9, true), (10, true), (11, true)] (by kernel_rfl) (by kernel_rfl) (fun c d v a w h => by cases d <;> exact h) (hfr.drew) ?_
      simp only [WS.pick, List.getElem?_toArray, List.getElem?_cons_succ, List.getElem?_cons_zero]
      repeat (first | (refine WS.wpL_skip rfl ?_; try simp only [Act.put, List.setIfInBounds_toArray, List.set_cons_zero, List.set_cons_succ]) | (refine WS.wpL_q ?_ rfl ?_ ?_; rotate_left 1; (focus (intro w' hw'; have hrr' := hw'.rules; obtain ⟨hrc', _⟩ := hrr'; clear hw'; go_simp; (try with_reducible rfl); done)); try simp only [Act.put, List.setIfInBounds_toArray, List.set_cons_zero, List.set_cons_succ]))
      refine WS.wpL_nil ?_
      obtain ⟨hrc, _⟩ := hfr.rules
      have hmask : p.mask ≤ 18446744073709551615 := hok.mask64
      have hbit := fun (hk0 : k ≠ 0) => bit_and p.mask (k - 1) hmask
      have Hbit := Lib.hid hbit
      clear hbit
      have hsucc := p.againTo_succ k
      have hlen := p.againTo_len k
      have Hs := Lib.hid hsucc
      clear hsucc
      by_cases hd : p.due k = true
      · have hgo : ((k : Int) == 0) = true ∨ (((k : Int) == 0) = false ∧ (bits BinOp.and IntKind.u64 ((p.mask : Int) / 2 ^ (k - 1)) 1 == 0) = true) := by
          by_cases hk0 : k = 0
          · exact .inl (by simp [hk0])
          · refine .inr ⟨by rw [beq_eq_false_iff_ne]; omega, ?_⟩
            rw [Hbit.out hk0]
            simp [PeerD.due, hk0] at hd
            simp [hd]
        have Hd := Lib.hid hd
        clear hd
        rcases hgo with h0 | ⟨h0, h1⟩
        all_goals
          go_wp2_with (first | (go_at_call 67; refine (sdata B _ q p F k (hp0.out.fr hfr.drew FreeT.no (fun _ _ h => h)) (by have := hfr.size; simp; omega) (by omega) hq16 (by have := hok.qlen; have := hok.acked; have := hok.sent; unfold u64max at *; omega)).mono ?_; rintro e w7 ⟨pv, rfl, hpv, hf7⟩; obtain ⟨oa, oc, rfl⟩ := hpv.form; simp only [outCells, msgCells]) | (at_builtin; refine wpList_snoc (x := p.data k) (pv := .slice oa (p.queue.getD k []).length oc) elOuts outCells_length (by decide) rfl (.tmp 32) (.tmp 36) rfl rfl (Hv.out.fr0 ((hf7.ofDrew).alloc _)) rfl ⟨w7.heap.size, 0, rfl, range_new (cs := outCells (p.data k) (.slice oa (p.queue.getD k []).length oc))⟩ (by simp [outCells, msgCells, Value.oneCell']) (hpv.fr (Fr.alloc0 _ _) FreeT.no) hB (by simp only [maxLen]; omega) (by omega) (by have := hfr.size; have := hf7.size; simp at this; simp; omega) ?_; intro ao' c' w8 hown8 hf8))
          refine ⟨⟨k + 1, by omega, by go_num, by rw [Hs.out, if_pos Hd.out]; exact hown8, ((hfr.drew.then0 hf7).alloc _).trans' hf8 (fun x hx h => by unfold From at h; omega)⟩, by simp [intOf]; omega⟩
      · have hk0 : k ≠ 0 := fun h => hd (by simp [PeerD.due, h])
        have h0 : ((k : Int) == 0) = false := by rw [beq_eq_false_iff_ne]; omega
        have h1 : (bits BinOp.and IntKind.u64 ((p.mask : Int) / 2 ^ (k - 1)) 1 == 0) = false := by
          rw [Hbit.out hk0]
          simp [PeerD.due, hk0] at hd
          simp [hd]
        have Hd := Lib.hid hd
        clear hd
        go_wp2_with fail
        refine ⟨⟨k + 1, by omega, by go_num, by rw [Hs.out, if_neg Hd.out, List.append_nil]; exact Hv.out.fr0 ((Fr.refl _ _).drew), hfr.drew⟩, by simp [intOf]; omega⟩
    · have hkn : k = min p.queue.length p.window := by omega
      have hk1 : ¬ (k : Int) < min (p.queue.length : Int) (p.window : Int) := by omega
      go_wp2_with fail
      refine WS.wp_region_seq (Fr No w) [] [(0, true), (1, true), (2, true), (3, true), (4, true), (5, true), (6, true), (7, true), (8, true), (9, true), (10, true), (11, true)] (by kernel_rfl) (by kernel_rfl) (fun c d v a w h => by cases d <;> exact h) (hfr.drew) ?_
      simp only [WS.pick, List.getElem?_toArray, List.getElem?_cons_succ, List.getElem?_cons_zero]
      repeat (first | (refine WS.wpL_skip rfl ?_; try simp only [Act.put, List.setIfInBounds_toArray, List.set_cons_zero, List.set_cons_succ]) | (refine WS.wpL_q ?_ rfl ?_ ?_; rotate_left 1; (focus (intro w' hw'; have hrr' := hw'.rules; obtain ⟨hrc', _⟩ := hrr'; clear hw'; go_simp; (try with_reducible rfl); done)); try simp only [Act.put, List.setIfInBounds_toArray, List.set_cons_zero, List.set_cons_succ]))
      refine WS.wpL_nil ?_
      go_wp2
      go_ret
      refine ⟨_, rfl, ?_, hfr.drew⟩
      have := Hv.out.fr0 ((Fr.refl No wr).drew)
      rw [hkn] at this
      exact this
end Go.Proofs.Ytplgmcpglbpghaa

/- Whole messages, and the tests on them. -/
namespace Go.Proofs.Ytplgmcpglbpghaa
open Go.RowKit

/-- A message: its lists but the payload by their lengths alone. -/
structure MsgD where
  kind : Int
  seq : Int
  key : Int
  hi : Int
  vl : Nat
  ol : Nat
  has : Bool
  of : Int
  status : Int
  host : Int
  grant : Int
  bounds : Int
  mask : Int
  limit : Int
  pl : Nat
  sl : Nat
  payload : List Int

/-- The addresses and capacities of a message's lists. -/
structure MsgA where
  va : Option Addr
  vc : Nat
  oa : Option Addr
  oc : Nat
  pa : Option Addr
  pc : Nat
  sa : Option Addr
  sc : Nat

def msgVals (m : MsgD) (x : MsgA) (pv : Value) : List Value :=
  [.int .u8 m.kind, .int .u64 m.seq, .int .u64 m.key, .int .u64 m.hi, .slice x.va m.vl x.vc, .slice x.oa m.ol x.oc, .bool m.has, .int .u8 m.of, .int .u8 m.status, .int .u8 m.host, .int .u32 m.grant, .int .u32 m.bounds, .int .u64 m.mask, .int .u8 m.limit, .slice x.pa m.pl x.pc, .slice x.sa m.sl x.sc, pv]

/-- A message as it may come: each number is one of its kind. -/
structure MsgD.Ok (m : MsgD) : Prop where
  kind : 0 ≤ m.kind ∧ m.kind ≤ 255
  seq : 0 ≤ m.seq ∧ m.seq ≤ 18446744073709551615
  key : 0 ≤ m.key ∧ m.key ≤ 18446744073709551615
  hi : 0 ≤ m.hi ∧ m.hi ≤ 18446744073709551615
  vl : m.vl ≤ 140737488351232
  ol : m.ol ≤ 140737488351232
  of : 0 ≤ m.of ∧ m.of ≤ 255
  status : 0 ≤ m.status ∧ m.status ≤ 255
  host : 0 ≤ m.host ∧ m.host ≤ 255
  grant : 0 ≤ m.grant ∧ m.grant ≤ 4294967295
  bounds : 0 ≤ m.bounds ∧ m.bounds ≤ 4294967295
  mask : 0 ≤ m.mask ∧ m.mask ≤ 18446744073709551615
  limit : 0 ≤ m.limit ∧ m.limit ≤ 255
  pl : m.pl ≤ 140737488351232
  sl : m.sl ≤ 140737488351232

def MsgD.bare (m : MsgD) : Bool :=
  m.vl == 0 && m.ol == 0 && m.pl == 0 && m.sl == 0 && !m.has && m.key == 0 && m.hi == 0 && m.of == 0 && m.status == 0 && m.host == 0 && m.grant == 0 && m.bounds == 0 && m.limit == 0
def MsgD.plain (m : MsgD) : Bool := m.bare && ((m.kind == 10 && m.mask == 0) || (m.kind == 11 && m.payload.length == 0))

set_option maxRecDepth 100000 in
set_option maxHeartbeats 1000000 in
theorem f_bare (w : World) (m : MsgD) (x : MsgA) (pa : Option Addr) (pc : Nat) (hm : m.Ok) (hp : m.payload.length ≤ maxLen) :
    Calls Try.prog 36 #[.agg (msgVals m x (.slice pa m.payload.length pc)).toArray] w fun e w' => e = .returned (.bool m.bare) ∧ Fr No w w' := by
  obtain ⟨kind, seq, key, hi, vl, ol, has, of, status, host, grant, bounds, mask, limit, pl, sl, payload⟩ := m
  obtain ⟨va, vc, oa, oc, xpa, xpc, sa, sc⟩ := x
  obtain ⟨h1, h2, h3, h4, h5, h6, h7, h8, h9, h10, h11, h12, h13, h14, h15⟩ := hm
  dsimp only at *
  simp only [msgVals]
  unfold maxLen at hp
  go_enter Try.func36, Try.ntmps36
  go_wp2
  all_goals (go_ret; refine ⟨ret_b ?_, Fr.alloc0 _ _⟩; simp_all [MsgD.bare])

theorem or64_zero {a b : Int} (ha : 0 ≤ a ∧ a ≤ 18446744073709551615) (hb : 0 ≤ b ∧ b ≤ 18446744073709551615) : bits BinOp.or IntKind.u64 a b = 0 ↔ a = 0 ∧ b = 0 := by
  rw [u64_or a b ha.1 (by omega) hb.1 (by omega)]
  have : ((a.toNat ||| b.toNat : Nat) : Int) = 0 ↔ a.toNat ||| b.toNat = 0 := by omega
  rw [this, Nat.or_eq_zero_iff]
  omega
theorem or32_zero {a b : Int} (ha : 0 ≤ a ∧ a ≤ 4294967295) (hb : 0 ≤ b ∧ b ≤ 4294967295) : bits BinOp.or IntKind.u32 a b = 0 ↔ a = 0 ∧ b = 0 := by
  rw [u32_or a b ha.1 (by omega) hb.1 (by omega)]
  have : ((a.toNat ||| b.toNat : Nat) : Int) = 0 ↔ a.toNat ||| b.toNat = 0 := by omega
  rw [this, Nat.or_eq_zero_iff]
  omega
theorem or32_ne {a b : Int} (ha : 0 ≤ a ∧ a ≤ 4294967295) (hb : 0 ≤ b ∧ b ≤ 4294967295) : (bits BinOp.or IntKind.u32 a b != 0) = true ↔ ¬ (a = 0 ∧ b = 0) := by rw [bne_iff_ne, Ne, or32_zero ha hb]
theorem or32_ne' {a b : Int} (ha : 0 ≤ a ∧ a ≤ 4294967295) (hb : 0 ≤ b ∧ b ≤ 4294967295) : (bits BinOp.or IntKind.u32 a b != 0) = false ↔ (a = 0 ∧ b = 0) := by rw [bne_eq_false_iff_eq, or32_zero ha hb]
theorem len4_le {a b c d : Nat} : (a : Int) + b + c + d ≤ 0 ↔ a = 0 ∧ b = 0 ∧ c = 0 ∧ d = 0 := by omega
theorem len4_lt {a b c d : Nat} : 0 < (a : Int) + b + c + d ↔ ¬ (a = 0 ∧ b = 0 ∧ c = 0 ∧ d = 0) := by omega

set_option maxRecDepth 100000 in
set_option maxHeartbeats 1000000 in
theorem f_plain (w : World) (m : MsgD) (x : MsgA) (pa : Option Addr) (pc : Nat) (hm : m.Ok) (hp : m.payload.length ≤ maxLen) :
    Calls Try.prog 42 #[.agg (msgVals m x (.slice pa m.payload.length pc)).toArray] w fun e w' => e = .returned (.bool m.plain) ∧ Fr No w w' := by
  obtain ⟨kind, seq, key, hi, vl, ol, has, of, status, host, grant, bounds, mask, limit, pl, sl, payload⟩ := m
  obtain ⟨va, vc, oa, oc, xpa, xpc, sa, sc⟩ := x
  obtain ⟨h1, h2, h3, h4, h5, h6, h7, h8, h9, h10, h11, h12, h13, h14, h15⟩ := hm
  dsimp only at *
  simp only [msgVals]
  unfold maxLen at hp
  go_enter Try.func42, Try.ntmps42
  go_wp2
  all_goals (go_ret; refine ⟨ret_b ?_, Fr.alloc0 _ _⟩; clear h1 h2 h5 h6 h7 h8 h9 h12 h13 h14 h15)
  all_goals (simp only [or64_zero h3 h4, or32_ne h10 h11, or32_ne' h10 h11, len4_le, len4_lt] at *)
  all_goals (simp_all [MsgD.plain, MsgD.bare]; try (rw [Bool.eq_iff_iff]; simp))
end Go.Proofs.Ytplgmcpglbpghaa

namespace Go.Proofs.Ytplgmcpglbpghaa
open Go.RowKit

def CloneBBPost (w : World) (n : Nat) (vs : List Value) (e : Ending) (w' : World) : Prop := ∃ a c, e = .returned (.slice a n c) ∧ w'.ownsRow w.heap.size 33 1 (.slice a n c) n vs ∧ Fr No w w'

set_option maxRecDepth 100000 in
set_option maxHeartbeats 400000 in
theorem cloneBB (w : World) (a : Option Addr) (n c : Nat) (vs : List Value) (hl : vs.length = n) (hn : n ≤ 1048576) (ha : vs ≠ [] → ∃ b o, a = some ⟨b, o, none⟩ ∧ w.rangeAt b o vs) (h1 : ∀ u ∈ vs, u.oneCell' = true) :
    Calls Try.prog 66 #[.slice a n c] w (CloneBBPost w n vs) := by
  have qT : ∀ (w : World) (a : Option Addr) (n c n' c' : Nat), (binOp .eql 85 (.slice a n c) (.slice none n' c')).run Try.prog w = .ok (.bool a.isNone) w := fun w a n c n' c' => Lib.run_eql_slice_nil w _ _ a n c n' c' Try.underlying85
  cases a with
  | none =>
    have hv : vs = [] := Classical.byContradiction fun h => by obtain ⟨_, _, h2, _⟩ := ha h; cases h2
    subst hv
    have hn0 : n = 0 := by simpa using hl.symm
    subst hn0
    go_enter Try.func66, Try.ntmps66
    go_wp2
    go_ret
    exact ⟨none, 0, rfl, World.ownsRow_nil _ _ _ _, Fr.refl _ _⟩
  | some ad =>
    have hown := World.ownsRow_made w (e := 33) (size := 1) (base := w.heap.size) #[] 0 (Nat.le_refl _) (by simp) rfl
    go_enter Try.func66, Try.ntmps66
    go_wp2_with (at_builtin; refine wpList_app elBytess rfl (.tmp 5) (.tmp 6) rfl rfl hown (m := n) (news := vs) rfl (by omega) (fun hne => by obtain ⟨b, o, hb, hr⟩ := ha hne; exact ⟨b, o, hb, World.rangeAt_alloc hr _⟩) h1 (by simp only [maxLen]; omega) (by omega) (by simp) ?_; intro ao' c' w' hown' hf' _)
    go_ret
    refine ⟨ao', c', by simp, by simpa using hown', (Fr.alloc0 w _).trans' hf' (fun x hx h => ?_)⟩
    have h' : some w.heap.size = some x := h
    cases h'; omega

def takenV (vu vm : Value) (ch : Bool) : Value := .agg #[vu, vm, .bool ch]
/-- What Take answers, and the peer behind it. -/
def TakePost (B : Nat) (w : World) (q : Nat) (F : Nat → Prop) (p' : PeerD) (us : List UpD) (os : List OutD) (ch : Bool) (err : Int) (e : Ending) (w' : World) : Prop :=
  ∃ vu vm, e = .returned (.tuple #[takenV vu vm ch, .int .i64 err]) ∧ Ups B w' vu us ∧ Outs B w' vm os ∧ PeerAt B w' q p' (grow F w w') ∧ Fr F w w'

theorem TakePost.same {B : Nat} {w : World} {q : Nat} {F : Nat → Prop} {p : PeerD} {err : Int} {w' : World} (hp : PeerAt B w q p F) (hf : Fr No w w') : TakePost B w q F p [] [] false err (.returned (.tuple #[takenV nilS nilS false, .int .i64 err])) w' :=
  ⟨nilS, nilS, rfl, Ups.nil _ _, Outs.nil _ _, (hp.fr hf FreeT.no (fun _ _ h => h)).mono (fun _ h => .inl h), hf.mono (fun _ _ h => h.elim)⟩

/-- The world behind the box of the message and the variable of the answer. -/
def inW (w : World) (A : Array Value) : World := (w.alloc (.cells A 45)).alloc (.cells #[nilS, nilS, .bool false] 68)

structure InW (w : World) (A : Array Value) (W : World) : Prop where
  fr : Fr No w W
  size : W.heap.size = w.heap.size + 2
  msg : ∀ j, W.cell? ⟨w.heap.size, j, none⟩ = A[j]?
  res : W.heap[w.heap.size + 1]? = some (.cells #[nilS, nilS, .bool false] 68 (0, 0))

theorem InW.mk' (w : World) (A : Array Value) : InW w A (inW w A) := by
  refine ⟨((Fr.refl No w).alloc _).alloc _, by simp [inW], fun j => ?_, ?_⟩
  · have h1 : (inW w A).heap[w.heap.size]? = some (.cells A 45 (0, 0)) := by
      unfold inW
      rw [heap_alloc_old _ _ (by simp)]
      exact heap_alloc_new w _
    simp [World.cell?, h1]
  · have := heap_alloc_new (w.alloc (.cells A 45)) (.cells #[nilS, nilS, .bool false] 68)
    simpa [inW] using this

theorem InW.there {w W : World} {A : Array Value} (h : InW w A W) : W.there (w.heap.size + 1) 0 3 := fun j hj => by
  rw [Nat.zero_add]
  simp only [World.cell?, World.frozen?, h.res]
  simp
  omega
/-- The answer is laid into its variable. -/
theorem takeRet {B : Nat} {w W : World} {q : Nat} {F : Nat → Prop} {p' : PeerD} {us : List UpD} {os : List OutD} {ch : Bool} {err : Int} {vu vm : Value} (hth : W.there (w.heap.size + 1) 0 3) (hB : B ≤ w.heap.size) (hT : typ W (w.heap.size + 1) = some 68)
    (hu : Ups B W vu us) (ho : Outs B W vm os) (hp : PeerAt B W q p' (grow F w W)) (hf : Fr F w W) (hR : Reg B w F) :
    TakePost B w q F p' us os ch err (.returned (.tuple #[takenV vu vm ch, .int .i64 err])) (W.setCells (w.heap.size + 1) 0 [vu, vm, .bool ch]) := by
  have hfr : Fr (One (w.heap.size + 1)) W (W.setCells (w.heap.size + 1) 0 [vu, vm, .bool ch]) := Fr.setCells (S := One (w.heap.size + 1)) (.inr rfl) _ _ (Fr.refl _ _)
  have hfree : Free B W (One (w.heap.size + 1)) := FreeT.one (by omega) hT (by decide)
  refine ⟨vu, vm, rfl, hu.fr hfr hfree, ho.fr hfr hfree, (hp.fr hfr hfree ?_).mono (grow_mono' hfr), hf.trans' hfr (fun x hx e => by unfold One at e; omega)⟩
  rintro k (hk | ⟨h1, h2, h3⟩) e
  · have := hR.lt k hk; unfold One at e; omega
  · unfold One at e; subst e; rcases h3 with h3 | h3 <;> (rw [hT] at h3; cases h3)

theorem InW.answer {w W : World} {A : Array Value} (h : InW w A W) : (W.cell? ⟨w.heap.size + 1, 0, none⟩ = some nilS ∧ W.cell? ⟨w.heap.size + 1, 1, none⟩ = some nilS ∧ W.cell? ⟨w.heap.size + 1, 2, none⟩ = some (.bool false)) ∧ ∀ o, W.frozen? ⟨w.heap.size + 1, o, none⟩ = false := by
  refine ⟨?_, fun o => ?_⟩
  · simp [World.cell?, h.res]
  · simp [World.frozen?, h.res]

theorem msg_get (m : MsgD) (x : MsgA) (pv : Value) : (msgVals m x pv).toArray[0]? = some (.int .u8 m.kind) ∧ (msgVals m x pv).toArray[1]? = some (.int .u64 m.seq) ∧ (msgVals m x pv).toArray[12]? = some (.int .u64 m.mask) ∧ (msgVals m x pv).toArray[16]? = some pv := ⟨rfl, rfl, rfl, rfl⟩

set_option maxRecDepth 100000 in
set_option maxHeartbeats 1000000 in
theorem heard_bad (B : Nat) (w : World) (q : Nat) (p : PeerD) (F : Nat → Prop) (m : MsgD) (x : MsgA) (pa : Option Addr) (pc seq mask : Nat) (hp : PeerAt B w q p F) (hR : Reg B w F) (hB : B ≤ w.heap.size) (hok : p.Ok) (hs : m.seq = seq) (hk : m.mask = mask) (hseq : seq ≤ u64max) (hmask : mask ≤ u64max)
    (h : p.sent < seq ∨ (seq ≤ p.sent ∧ p.beyond seq mask = true)) :
    Calls Try.prog 44 #[.pointer (some ⟨q, 0, none⟩), .agg (msgVals m x (.slice pa m.payload.length pc)).toArray] w (TakePost B w q F p [] [] false 85) := by
  have hlt := hp.lt
  have hp0 := Lib.hid hp
  obtain ⟨_, _, vq, ve, hh, _, _⟩ := hp
  obtain ⟨⟨g0, g1, g2, g3⟩, ⟨g4, g5, g6, g7⟩, g8, g9, g10⟩ := peerCells_get hh
  clear hh
  obtain ⟨_, mg1, mg12, _⟩ := msg_get m x (.slice pa m.payload.length pc)
  rw [hs] at mg1
  rw [hk] at mg12
  generalize (msgVals m x (.slice pa m.payload.length pc)).toArray = A at *
  have hW := InW.mk' w A
  have c1 := hW.msg 1
  have c12 := hW.msg 12
  rw [mg1] at c1
  rw [mg12] at c12
  have hth := hW.there
  have hT := typ_of_heap hW.res
  have hfr := hW.fr
  have hsz := hW.size
  obtain ⟨hrc, hrf⟩ := hfr.rules
  have hlW : w.heap.size < (inW w A).heap.size := by omega
  have hlW1 : w.heap.size + 1 < (inW w A).heap.size := by omega
  have hqW : q < (inW w A).heap.size := by omega
  have g3W : (inW w A).cell? ⟨q, 3, none⟩ = some (.int .u64 p.sent) := by rw [hrc _ _ hlt]; exact g3
  clear hs hk mg1 mg12 g0 g1 g2 g3 g4 g5 g6 g7 g8 g9 g10 hW hsz hrc hrf
  rcases h with h | ⟨h, hb⟩
  · have h1 : (p.sent : Int) < (seq : Int) := by omega
    go_enter Try.func44, Try.ntmps44
    go_wp2_with fail
    rw [show (w.alloc (.cells A 45)).alloc (.cells #[nilS, nilS, .bool false] 68) = inW w A from rfl]
    generalize inW w A = W at *
    refine WS.wp_region_seq (Fr No W) [] [(0, true), (1, true), (2, true), (3, true), (4, true), (5, true), (6, true), (7, true), (8, true), (9, true), (10, true), (11, true), (12, true), (13, false), (14, true)] (by kernel_rfl) (by kernel_rfl) (fun c d v a w h => by cases d <;> exact h) ((Fr.refl _ _).drew) ?_
    simp only [WS.pick, List.getElem?_toArray, List.getElem?_cons_succ, List.getElem?_cons_zero]
    repeat (first | (refine WS.wpL_skip rfl ?_; try simp only [Act.put, List.setIfInBounds_toArray, List.set_cons_zero, List.set_cons_succ]) | (refine WS.wpL_q ?_ rfl ?_ ?_; rotate_left 1; (focus (intro w' hw'; have hrr' := hw'.rules; obtain ⟨hrc', _⟩ := hrr'; clear hw'; go_simp; (try with_reducible rfl); done)); try simp only [Act.put, List.setIfInBounds_toArray, List.set_cons_zero, List.set_cons_succ]))
    refine WS.wpL_eskip rfl (fun _ => (Fr.refl _ _).drew) ?_
    try simp only [Act.put, List.setIfInBounds_toArray, List.set_cons_zero, List.set_cons_succ]
    repeat (first | (refine WS.wpL_skip rfl ?_; try simp only [Act.put, List.setIfInBounds_toArray, List.set_cons_zero, List.set_cons_succ]) | (refine WS.wpL_q ?_ rfl ?_ ?_; rotate_left 1; (focus (intro w' hw'; have hrr' := hw'.rules; obtain ⟨hrc', _⟩ := hrr'; clear hw'; go_simp; (try with_reducible rfl); done)); try simp only [Act.put, List.setIfInBounds_toArray, List.set_cons_zero, List.set_cons_succ]))
    refine WS.wpL_nil ?_
    go_wp2_with (refine wpList_store_mid rfl _ _ _ rfl _ _ _ rfl rfl (there_drew hth) (by kernel_rfl) (by simp [Value.oneCell']) ?_)
    refine bodyPost_ret (results_cell2 (p := 4) (u := 5) (ty := 68) rfl rfl (World.rangeAt_setCells_same _ (w.heap.size + 1) 0 [nilS, nilS, .bool false] (there_drew hth)) Try.underlying68 rfl (by kernel_rfl)) rfl ?_
    exact takeRet (there_drew hth) hB hT (Ups.nil _ _) (Outs.nil _ _) ((hp0.out.fr hfr.drew FreeT.no (fun _ _ h => h)).mono (fun _ h => .inl h)) (hfr.drew.mono (fun _ _ h => h.elim)) hR
  · have h1 : ¬ (p.sent : Int) < (seq : Int) := by omega
    have hd1 : decide (p.sent < seq) = false := by simp; omega
    have hb' : beyondB p.sent seq mask = true := hb
    have Hb := Lib.hid hb'
    clear hb hb'
    go_enter Try.func44, Try.ntmps44
    go_wp2_with fail
    rw [show (w.alloc (.cells A 45)).alloc (.cells #[nilS, nilS, .bool false] 68) = inW w A from rfl]
    generalize inW w A = W at *
    refine WS.wp_region_seq (Fr No W) [] [(0, true), (1, true), (2, true), (3, true), (4, true), (5, true), (6, true), (7, true), (8, true), (9, true), (10, true), (11, true), (12, true), (13, false), (14, true)] (by kernel_rfl) (by kernel_rfl) (fun c d v a w h => by cases d <;> exact h) ((Fr.refl _ _).drew) ?_
    simp only [WS.pick, List.getElem?_toArray, List.getElem?_cons_succ, List.getElem?_cons_zero]
    repeat (first | (refine WS.wpL_skip rfl ?_; try simp only [Act.put, List.setIfInBounds_toArray, List.set_cons_zero, List.set_cons_succ]) | (refine WS.wpL_q ?_ rfl ?_ ?_; rotate_left 1; (focus (intro w' hw'; have hrr' := hw'.rules; obtain ⟨hrc', _⟩ := hrr'; clear hw'; go_simp; (try with_reducible rfl); done)); try simp only [Act.put, List.setIfInBounds_toArray, List.set_cons_zero, List.set_cons_succ]))
    refine WS.wpL_e rfl (fun K hK => ?_)
    go_simp
    refine (f_beyond W.drew q p.sent seq mask g3W h hok.sent hmask).mono ?_
    rintro e w1 ⟨rfl, hf1⟩
    rw [Hb.out]
    refine hK _ _ (fun _ => hf1.ofDrew) ?_
    clear hK K
    try simp only [Act.put, List.setIfInBounds_toArray, List.set_cons_zero, List.set_cons_succ]
    repeat (first | (refine WS.wpL_skip rfl ?_; try simp only [Act.put, List.setIfInBounds_toArray, List.set_cons_zero, List.set_cons_succ]) | (refine WS.wpL_q ?_ rfl ?_ ?_; rotate_left 1; (focus (intro w' hw'; have hrr' := hw'.rules; obtain ⟨hrc', _⟩ := hrr'; clear hw'; go_simp; (try with_reducible rfl); done)); try simp only [Act.put, List.setIfInBounds_toArray, List.set_cons_zero, List.set_cons_succ]))
    refine WS.wpL_nil ?_
    have hth1 := there_fr hth hf1.ofDrew (fun h => h)
    go_wp2_with (refine wpList_store_mid rfl _ _ _ rfl _ _ _ rfl rfl hth1 (by kernel_rfl) (by simp [Value.oneCell']) ?_)
    refine bodyPost_ret (results_cell2 (p := 4) (u := 5) (ty := 68) rfl rfl (World.rangeAt_setCells_same _ (w.heap.size + 1) 0 [nilS, nilS, .bool false] hth1) Try.underlying68 rfl (by kernel_rfl)) rfl ?_
    have hf2 := hfr.then0 hf1.ofDrew
    exact takeRet hth1 hB (hf1.ofDrew.ty _ _ hT) (Ups.nil _ _) (Outs.nil _ _) ((hp0.out.fr hf2 FreeT.no (fun _ _ h => h)).mono (fun _ h => .inl h)) (hf2.mono (fun _ _ h => h.elim)) hR
end Go.Proofs.Ytplgmcpglbpghaa

namespace Go.Proofs.Ytplgmcpglbpghaa
open Go.RowKit

set_option maxRecDepth 100000 in
set_option maxHeartbeats 1000000 in
theorem heard_old (B : Nat) (w : World) (q : Nat) (p : PeerD) (F : Nat → Prop) (m : MsgD) (x : MsgA) (pa : Option Addr) (pc seq mask : Nat) (hp : PeerAt B w q p F) (hR : Reg B w F) (hB : B ≤ w.heap.size) (hok : p.Ok) (hs : m.seq = seq) (hk : m.mask = mask) (hseq : seq ≤ u64max) (hmask : mask ≤ u64max)
    (h : seq ≤ p.sent) (hb : beyondB p.sent seq mask = false) (hlow : seq < p.acked) :
    Calls Try.prog 44 #[.pointer (some ⟨q, 0, none⟩), .agg (msgVals m x (.slice pa m.payload.length pc)).toArray] w (TakePost B w q F p [] [] false 0) := by
  have hlt := hp.lt
  have hp0 := Lib.hid hp
  obtain ⟨_, _, vq, ve, hh, hQ, _⟩ := hp
  obtain ⟨⟨g0, g1, g2, g3⟩, ⟨g4, g5, g6, g7⟩, g8, g9, g10⟩ := peerCells_get hh
  obtain ⟨_, mg1, mg12, _⟩ := msg_get m x (.slice pa m.payload.length pc)
  rw [hs] at mg1
  rw [hk] at mg12
  generalize (msgVals m x (.slice pa m.payload.length pc)).toArray = A at *
  have hW := InW.mk' w A
  have c1 := hW.msg 1
  have c12 := hW.msg 12
  rw [mg1] at c1
  rw [mg12] at c12
  have hth := hW.there
  have hT := typ_of_heap hW.res
  have hfr := hW.fr
  have hsz := hW.size
  obtain ⟨hrc, hrf⟩ := hfr.rules
  have hlW : w.heap.size < (inW w A).heap.size := by omega
  have hlW1 : w.heap.size + 1 < (inW w A).heap.size := by omega
  have hqW : q < (inW w A).heap.size := by omega
  have g2W : (inW w A).cell? ⟨q, 2, none⟩ = some (.int .i64 p.window) := by rw [hrc _ _ hlt]; exact g2
  have g3W : (inW w A).cell? ⟨q, 3, none⟩ = some (.int .u64 p.sent) := by rw [hrc _ _ hlt]; exact g3
  have g4W : (inW w A).cell? ⟨q, 4, none⟩ = some (.int .u64 p.acked) := by rw [hrc _ _ hlt]; exact g4
  have g5W : (inW w A).cell? ⟨q, 5, none⟩ = some vq := by rw [hrc _ _ hlt]; exact g5
  have g6W : (inW w A).cell? ⟨q, 6, none⟩ = some (.int .u64 p.mask) := by rw [hrc _ _ hlt]; exact g6
  have hz6 : (inW w A).frozen? ⟨q, 6, none⟩ = false := by rw [hrf _ _ hlt]; simp [World.frozen?, hh]
  have hz56 : (inW w A).frozen? ⟨q, 5, none⟩ = (inW w A).frozen? ⟨q, 6, none⟩ := by rw [hrf _ _ hlt, hrf _ _ hlt]; simp [World.frozen?, hh]
  have hpW : PeerAt B (inW w A) q p F := hp0.out.fr hfr FreeT.no (fun _ _ h => h)
  have hRW : Reg B (inW w A) F := hR.fr hfr
  clear hs hk mg1 mg12 g0 g1 g2 g3 g4 g5 g6 g7 g8 g9 g10 hW hrc hrf hh hsz
  have hd1 : decide (p.sent < seq) = false := by simp; omega
  have Hb := Lib.hid hb
  clear hb
  have hd2 : decide (seq < p.acked) = true := by simp; omega
  go_enter Try.func44, Try.ntmps44
  go_wp2_with fail
  rw [show (w.alloc (.cells A 45)).alloc (.cells #[nilS, nilS, .bool false] 68) = inW w A from rfl]
  generalize inW w A = W at *
  refine WS.wp_region_seq (Fr No W) [] [(0, true), (1, true), (2, true), (3, true), (4, true), (5, true), (6, true), (7, true), (8, true), (9, true), (10, true), (11, true), (12, true), (13, false), (14, true)] (by kernel_rfl) (by kernel_rfl) (fun c d v a w h => by cases d <;> exact h) ((Fr.refl _ _).drew) ?_
  simp only [WS.pick, List.getElem?_toArray, List.getElem?_cons_succ, List.getElem?_cons_zero]
  repeat (first | (refine WS.wpL_skip rfl ?_; try simp only [Act.put, List.setIfInBounds_toArray, List.set_cons_zero, List.set_cons_succ]) | (refine WS.wpL_q ?_ rfl ?_ ?_; rotate_left 1; (focus (intro w' hw'; have hrr' := hw'.rules; obtain ⟨hrc', _⟩ := hrr'; clear hw'; go_simp; (try with_reducible rfl); done)); try simp only [Act.put, List.setIfInBounds_toArray, List.set_cons_zero, List.set_cons_succ]))
  refine WS.wpL_e rfl (fun K hK => ?_)
  go_simp
  refine (f_beyond W.drew q p.sent seq mask g3W h hok.sent hmask).mono ?_
  rintro e w1 ⟨rfl, hf1⟩
  rw [Hb.out]
  have hf1' := hf1.ofDrew
  refine hK _ _ (fun _ => hf1') ?_
  clear hK K hf1
  try simp only [Act.put, List.setIfInBounds_toArray, List.set_cons_zero, List.set_cons_succ]
  repeat (first | (refine WS.wpL_skip rfl ?_; try simp only [Act.put, List.setIfInBounds_toArray, List.set_cons_zero, List.set_cons_succ]) | (refine WS.wpL_q ?_ rfl ?_ ?_; rotate_left 1; (focus (intro w' hw'; have hrr' := hw'.rules; obtain ⟨hrc', _⟩ := hrr'; clear hw'; go_simp; (try with_reducible rfl); done)); try simp only [Act.put, List.setIfInBounds_toArray, List.set_cons_zero, List.set_cons_succ]))
  refine WS.wpL_nil ?_
  go_wp2_with fail
  refine WS.wp_region_seq (Fr No W) [] [(0, true), (1, true), (2, true), (3, true), (4, true), (5, true), (6, true), (7, true)] (by kernel_rfl) (by kernel_rfl) (fun c d v a w h => by cases d <;> exact h) (hf1'.drew) ?_
  simp only [WS.pick, List.getElem?_toArray, List.getElem?_cons_succ, List.getElem?_cons_zero]
  repeat (first | (refine WS.wpL_skip rfl ?_; try simp only [Act.put, List.setIfInBounds_toArray, List.set_cons_zero, List.set_cons_succ]) | (refine WS.wpL_q ?_ rfl ?_ ?_; rotate_left 1; (focus (intro w' hw'; have hrr' := hw'.rules; obtain ⟨hrc', _⟩ := hrr'; clear hw'; go_simp; (try with_reducible rfl); done)); try simp only [Act.put, List.setIfInBounds_toArray, List.set_cons_zero, List.set_cons_succ]))
  refine WS.wpL_nil ?_
  have hth1 := there_drew (there_fr hth hf1' (fun h => h))
  go_wp2_with (refine wpList_store_mid rfl _ _ _ rfl _ _ _ rfl rfl hth1 (by kernel_rfl) (by simp [Value.oneCell']) ?_)
  refine bodyPost_ret (results_cell2 (p := 4) (u := 5) (ty := 68) rfl rfl (World.rangeAt_setCells_same _ (w.heap.size + 1) 0 [nilS, nilS, .bool false] hth1) Try.underlying68 rfl (by kernel_rfl)) rfl ?_
  have hf2 := hfr.then0 hf1'.drew
  exact takeRet hth1 hB (hf1'.ty _ _ hT) (Ups.nil _ _) (Outs.nil _ _) ((hp0.out.fr hf2 FreeT.no (fun _ _ h => h)).mono (fun _ h => .inl h)) (hf2.mono (fun _ _ h => h.elim)) hR

set_option maxRecDepth 100000 in
set_option maxHeartbeats 1000000 in
theorem heard_same (B : Nat) (w : World) (q : Nat) (p : PeerD) (F : Nat → Prop) (m : MsgD) (x : MsgA) (pa : Option Addr) (pc seq mask : Nat) (hp : PeerAt B w q p F) (hR : Reg B w F) (hB : B ≤ w.heap.size) (hok : p.Ok) (hs : m.seq = seq) (hk : m.mask = mask) (hseq : seq ≤ u64max) (hmask : mask ≤ u64max)
    (h : seq ≤ p.sent) (hb : beyondB p.sent seq mask = false) (hlow : seq = p.acked) :
    Calls Try.prog 44 #[.pointer (some ⟨q, 0, none⟩), .agg (msgVals m x (.slice pa m.payload.length pc)).toArray] w (TakePost B w q F { p with mask := p.mask ||| mask } [] [] (p.mask ||| mask != p.mask) 0) := by
  have hlt := hp.lt
  have hp0 := Lib.hid hp
  obtain ⟨_, _, vq, ve, hh, hQ, _⟩ := hp
  obtain ⟨⟨g0, g1, g2, g3⟩, ⟨g4, g5, g6, g7⟩, g8, g9, g10⟩ := peerCells_get hh
  obtain ⟨_, mg1, mg12, _⟩ := msg_get m x (.slice pa m.payload.length pc)
  rw [hs] at mg1
  rw [hk] at mg12
  generalize (msgVals m x (.slice pa m.payload.length pc)).toArray = A at *
  have hW := InW.mk' w A
  have c1 := hW.msg 1
  have c12 := hW.msg 12
  rw [mg1] at c1
  rw [mg12] at c12
  have hth := hW.there
  have hT := typ_of_heap hW.res
  have hfr := hW.fr
  have hsz := hW.size
  obtain ⟨hrc, hrf⟩ := hfr.rules
  have hlW : w.heap.size < (inW w A).heap.size := by omega
  have hlW1 : w.heap.size + 1 < (inW w A).heap.size := by omega
  have hqW : q < (inW w A).heap.size := by omega
  have g2W : (inW w A).cell? ⟨q, 2, none⟩ = some (.int .i64 p.window) := by rw [hrc _ _ hlt]; exact g2
  have g3W : (inW w A).cell? ⟨q, 3, none⟩ = some (.int .u64 p.sent) := by rw [hrc _ _ hlt]; exact g3
  have g4W : (inW w A).cell? ⟨q, 4, none⟩ = some (.int .u64 p.acked) := by rw [hrc _ _ hlt]; exact g4
  have g5W : (inW w A).cell? ⟨q, 5, none⟩ = some vq := by rw [hrc _ _ hlt]; exact g5
  have g6W : (inW w A).cell? ⟨q, 6, none⟩ = some (.int .u64 p.mask) := by rw [hrc _ _ hlt]; exact g6
  have hz6 : (inW w A).frozen? ⟨q, 6, none⟩ = false := by rw [hrf _ _ hlt]; simp [World.frozen?, hh]
  have hz56 : (inW w A).frozen? ⟨q, 5, none⟩ = (inW w A).frozen? ⟨q, 6, none⟩ := by rw [hrf _ _ hlt, hrf _ _ hlt]; simp [World.frozen?, hh]
  have hpW : PeerAt B (inW w A) q p F := hp0.out.fr hfr FreeT.no (fun _ _ h => h)
  have hRW : Reg B (inW w A) F := hR.fr hfr
  clear hs hk mg1 mg12 g0 g1 g2 g3 g4 g5 g6 g7 g8 g9 g10 hW hrc hrf hh hsz
  have hd1 : decide (p.sent < seq) = false := by simp; omega
  have Hb := Lib.hid hb
  clear hb
  have hd2 : decide (seq < p.acked) = false := by simp; omega
  have hd3 : ((seq : Int) == (p.acked : Int)) = true := by rw [beq_iff_eq]; omega
  have e1 : bits BinOp.or IntKind.u64 (p.mask : Int) (mask : Int) = ((p.mask ||| mask : Nat) : Int) := u64_or_nat _ _ (by have := hok.mask64; unfold u64max at this; omega) (by unfold u64max at hmask; omega)
  obtain ⟨ch, hch⟩ : ∃ ch, ch = (p.mask ||| mask != p.mask) := ⟨_, rfl⟩
  have hch' : ((((p.mask ||| mask : Nat) : Int) != (p.mask : Int))) = ch := by rw [hch, Bool.eq_iff_iff, bne_iff_ne, bne_iff_ne]; omega
  rw [← hch]
  clear hch hlow
  go_enter Try.func44, Try.ntmps44
  go_wp2_with fail
  rw [show (w.alloc (.cells A 45)).alloc (.cells #[nilS, nilS, .bool false] 68) = inW w A from rfl]
  generalize inW w A = W at *
  refine WS.wp_region_seq (Fr No W) [] [(0, true), (1, true), (2, true), (3, true), (4, true), (5, true), (6, true), (7, true), (8, true), (9, true), (10, true), (11, true), (12, true), (13, false), (14, true)] (by kernel_rfl) (by kernel_rfl) (fun c d v a w h => by cases d <;> exact h) ((Fr.refl _ _).drew) ?_
  simp only [WS.pick, List.getElem?_toArray, List.getElem?_cons_succ, List.getElem?_cons_zero]
  repeat (first | (refine WS.wpL_skip rfl ?_; try simp only [Act.put, List.setIfInBounds_toArray, List.set_cons_zero, List.set_cons_succ]) | (refine WS.wpL_q ?_ rfl ?_ ?_; rotate_left 1; (focus (intro w' hw'; have hrr' := hw'.rules; obtain ⟨hrc', _⟩ := hrr'; clear hw'; go_simp; (try with_reducible rfl); done)); try simp only [Act.put, List.setIfInBounds_toArray, List.set_cons_zero, List.set_cons_succ]))
  refine WS.wpL_e rfl (fun K hK => ?_)
  go_simp
  refine (f_beyond W.drew q p.sent seq mask g3W h hok.sent hmask).mono ?_
  rintro e w1 ⟨rfl, hf1⟩
  rw [Hb.out]
  have hf1' := hf1.ofDrew
  refine hK _ _ (fun _ => hf1') ?_
  clear hK K hf1
  try simp only [Act.put, List.setIfInBounds_toArray, List.set_cons_zero, List.set_cons_succ]
  repeat (first | (refine WS.wpL_skip rfl ?_; try simp only [Act.put, List.setIfInBounds_toArray, List.set_cons_zero, List.set_cons_succ]) | (refine WS.wpL_q ?_ rfl ?_ ?_; rotate_left 1; (focus (intro w' hw'; have hrr' := hw'.rules; obtain ⟨hrc', _⟩ := hrr'; clear hw'; go_simp; (try with_reducible rfl); done)); try simp only [Act.put, List.setIfInBounds_toArray, List.set_cons_zero, List.set_cons_succ]))
  refine WS.wpL_nil ?_
  go_wp2_with fail
  refine WS.wp_region_seq (Fr No W) [] [(0, true), (1, true), (2, true), (3, true), (4, true), (5, true), (6, true), (7, true)] (by kernel_rfl) (by kernel_rfl) (fun c d v a w h => by cases d <;> exact h) (hf1'.drew) ?_
  simp only [WS.pick, List.getElem?_toArray, List.getElem?_cons_succ, List.getElem?_cons_zero]
  repeat (first | (refine WS.wpL_skip rfl ?_; try simp only [Act.put, List.setIfInBounds_toArray, List.set_cons_zero, List.set_cons_succ]) | (refine WS.wpL_q ?_ rfl ?_ ?_; rotate_left 1; (focus (intro w' hw'; have hrr' := hw'.rules; obtain ⟨hrc', _⟩ := hrr'; clear hw'; go_simp; (try with_reducible rfl); done)); try simp only [Act.put, List.setIfInBounds_toArray, List.set_cons_zero, List.set_cons_succ]))
  refine WS.wpL_nil ?_
  go_wp2_with fail
  refine WS.wp_region_seq (Fr No W) [] [(0, true), (1, true), (2, true), (3, true), (4, true), (5, true), (6, true), (7, true)] (by kernel_rfl) (by kernel_rfl) (fun c d v a w h => by cases d <;> exact h) (hf1'.drew.drew) ?_
  simp only [WS.pick, List.getElem?_toArray, List.getElem?_cons_succ, List.getElem?_cons_zero]
  repeat (first | (refine WS.wpL_skip rfl ?_; try simp only [Act.put, List.setIfInBounds_toArray, List.set_cons_zero, List.set_cons_succ]) | (refine WS.wpL_q ?_ rfl ?_ ?_; rotate_left 1; (focus (intro w' hw'; have hrr' := hw'.rules; obtain ⟨hrc', _⟩ := hrr'; clear hw'; go_simp; (try with_reducible rfl); done)); try simp only [Act.put, List.setIfInBounds_toArray, List.set_cons_zero, List.set_cons_succ]))
  refine WS.wpL_nil ?_
  obtain ⟨hrc1, hrf1⟩ := hf1'.rules
  go_wp2_with fail
  refine WS.wp_region_seq (Fr No W) [9] [(0, true), (1, true), (2, true), (3, true), (4, true), (5, true), (6, true), (7, true), (8, true), (9, false)] (by kernel_rfl) (by kernel_rfl) (fun c d v a w h => by cases d <;> exact h) (hf1'.drew.drew.drew) ?_
  simp only [WS.pick, List.getElem?_toArray, List.getElem?_cons_succ, List.getElem?_cons_zero]
  repeat (first | (refine WS.wpL_skip rfl ?_; try simp only [Act.put, List.setIfInBounds_toArray, List.set_cons_zero, List.set_cons_succ]) | (refine WS.wpL_q ?_ rfl ?_ ?_; rotate_left 1; (focus (intro w' hw'; have hrr' := hw'.rules; obtain ⟨hrc', _⟩ := hrr'; clear hw'; go_simp; (try with_reducible rfl); done)); try simp only [Act.put, List.setIfInBounds_toArray, List.set_cons_zero, List.set_cons_succ]))
  refine WS.wpL_e rfl (fun K hK => ?_)
  go_simp
  refine hK _ _ (fun h => absurd (by decide) h) ?_
  clear hK K
  try simp only [Act.put, List.setIfInBounds_toArray, List.set_cons_zero, List.set_cons_succ]
  refine WS.wpL_nil ?_
  have hp2 : PeerAt B (w1.setCell ⟨q, 6, none⟩ (.int .u64 ((p.mask ||| mask : Nat) : Int))).drew.drew.drew q { p with mask := p.mask ||| mask } F :=
    PeerAt.drew (PeerAt.drew (PeerAt.drew (PeerAt.set (hpW.fr hf1' FreeT.no (fun _ _ h => h)) 6 _ (fun _ _ => rfl) rfl rfl (hRW.fr hf1').free)))
  have hfq : Fr (One q) W (w1.setCell ⟨q, 6, none⟩ (.int .u64 ((p.mask ||| mask : Nat) : Int))).drew.drew.drew := (((hf1'.mono (S' := One q) (fun _ _ h => h.elim)).setCell ⟨q, 6, none⟩ _ (.inr rfl)).drew).drew.drew
  generalize (w1.setCell ⟨q, 6, none⟩ (.int .u64 ((p.mask ||| mask : Nat) : Int))).drew.drew.drew = W2 at *
  have hth2 := there_fr hth hfq (fun h => by unfold One at h; omega)
  have hF2 : Fr F w W2 := (hfr.mono (fun _ _ h => h.elim)).trans' hfq (fun b _ e => by rw [e]; exact hpW.here)
  have hp2' := hp2
  obtain ⟨_, _, vq2, ve2, hh2, _, _⟩ := hp2
  have g62 := (peerCells_get hh2).2.1.2.2.1
  clear hh2 hrc1 hrf1
  go_wp2_with (refine wpList_store_mid rfl _ _ _ rfl _ _ _ rfl rfl hth2 (by kernel_rfl) (by simp [Value.oneCell']) ?_)
  refine bodyPost_ret (results_cell2 (p := 4) (u := 5) (ty := 68) rfl rfl (World.rangeAt_setCells_same _ (w.heap.size + 1) 0 [nilS, nilS, .bool ch] hth2) Try.underlying68 rfl (by kernel_rfl)) rfl ?_
  exact takeRet hth2 hB (hfq.ty _ _ hT) (Ups.nil _ _) (Outs.nil _ _) (hp2'.mono (fun _ h => .inl h)) hF2 hR
end Go.Proofs.Ytplgmcpglbpghaa
