/- Part 11 of the proof: Xs14, Ld, Xe3, Cat, Xe4. -/
import Derived.Test.YtplgmcpglbpghaaM10
import Derived.Test.YtplgmcpglbpghaaM02
import Derived.Test.YtplgmcpglbpghaaM06
set_option linter.all false
set_option linter.unusedVariables false
set_option linter.unusedSimpArgs false

namespace Go.Proofs.Ytplgmcpglbpghaa
open Go.RowKit

theorem f_come (B : Nat) (w : World) (q : Nat) (p : PeerD) (F : Nat → Prop) (m : MsgD) (x : MsgA) (pa : Option Addr) (pc seq : Nat) (hp : PeerAt B w q p F) (hR : Reg B w F) (hB : B ≤ w.heap.size) (hok : p.Ok) (hs : m.seq = seq) (hseq : seq ≤ u64max) (hpl : Bytes B w (.slice pa m.payload.length pc) m.payload) :
    Calls Try.prog 43 #[.pointer (some ⟨q, 7, none⟩), .agg (msgVals m x (.slice pa m.payload.length pc)).toArray] w (TakePost B w q F (p.come seq m.payload).1 (p.come seq m.payload).2.1 (p.come seq m.payload).2.2.1 (p.come seq m.payload).2.2.2.1 (p.come seq m.payload).2.2.2.2) := by
  unfold PeerD.come
  by_cases h1 : m.payload.length < 1 ∨ 3072 < m.payload.length
  · rw [if_pos h1]
    exact come_bad B w q p F m x pa pc seq hp hR hB hs hpl (szB_false.2 h1)
  · rw [if_neg h1]
    have hsz : szB m.payload.length = true := szB_true.2 (by omega)
    by_cases h2 : p.deliv < seq ∧ p.reach < seq - p.deliv
    · rw [if_pos h2]
      exact come_far B w q p F m x pa pc seq hp hR hB hok hs hseq hpl hsz h2.1 h2.2
    · rw [if_neg h2]
      have h2' : p.deliv < seq → seq - p.deliv ≤ p.reach := fun h => Nat.le_of_not_lt fun h' => h2 ⟨h, h'⟩
      by_cases h3 : seq ≤ p.deliv ∨ (p.early.any fun f => f.1 == seq) = true
      · rw [if_pos h3]
        exact come_dup B w q p F m x pa pc seq hp hR hB hok hs hseq hpl hsz h2' h3
      · rw [if_neg h3]
        have h4 : p.deliv < seq := Nat.lt_of_not_le fun h => h3 (.inl h)
        have h5 : (p.early.any fun f => f.1 == seq) = false := by
          cases h : p.early.any fun f => f.1 == seq with
          | false => rfl
          | true => exact absurd (.inr h) h3
        exact come_new B w q p F m x pa pc seq hp hR hB hok hs hseq hpl hsz h4 (h2' h4) h5 _ rfl _ rfl
end Go.Proofs.Ytplgmcpglbpghaa

/- Loads of whole structs, known by an equation. -/
namespace Go.Proofs.Ytplgmcpglbpghaa
open Go.RowKit

theorem wp_ld {op : Oper} {a : Act} {w : World} {K : Act → World → Prop} {Q : Exit → Act → World → Prop} (ty : TypeId) (x : Operand) (ho : op.op = .load ty x)
    {p v : Value} (hx : a.eval x = p) (hrun : (Instr.loadAt ty p).run Try.prog w = .ok v w)
    (h : K (a.put op.dst v) w) : op.wp Try.prog a w K Q := by
  unfold Oper.wp execOp
  simp only [ho, hx, hrun, Sem.run_bind, Sem.run_pure, Result.andThen_ok]
  exact h
theorem wpList_ld {ops : Array Oper} {rest : List Oper} {op : Oper} {a : Act} {w : World} {Q : Exit → Act → World → Prop} (hgd : op.guard = none) (ty : TypeId) (x : Operand) (ho : op.op = .load ty x)
    {p v : Value} (hx : a.eval x = p) (hrun : (Instr.loadAt ty p).run Try.prog w = .ok v w)
    (h : wpList Try.prog ops Q rest (a.put op.dst v) w) : wpList Try.prog ops Q (op :: rest) a w :=
  wpList_plain hgd fun _ hK => wp_ld ty x ho hx hrun (hK _ _ h)
/-- In a region that draws: under an S that gives the equation. -/
theorem wpL_ld {ops : Array Oper} {Q : Exit → Act → World → Prop} {S : World → Prop} {late : List Nat} {a : Act} {w : World} {i : Nat} {o : Oper} {rest : List (Nat × Bool × Oper)} (ty : TypeId) (x : Operand) (ho : o.op = .load ty x)
    (hg : Region.wanted o (yielded ops a.tmps) = true) {p v : Value} (hx : a.eval x = p) (hrun : ∀ w, S w → (Instr.loadAt ty p).run Try.prog w = .ok v w)
    (h : WS.wpL Try.prog ops Q S late rest (a.put o.dst v) w) : WS.wpL Try.prog ops Q S late ((i, true, o) :: rest) a w :=
  WS.wpL_q v hg (fun w hw => by
    unfold execOp
    simp only [ho, hx, hrun w hw, Sem.run_bind, Sem.run_pure, Result.andThen_ok]) h
end Go.Proofs.Ytplgmcpglbpghaa

/- (*End).Take. -/
namespace Go.Proofs.Ytplgmcpglbpghaa
open Go.RowKit

def EndD.take (e : EndD) (fr : Nat) (m : MsgD) : EndD × List UpD × List OutD × Bool × Int :=
  if e.has fr = true then
    if m.plain = true then
      if m.kind = 11 then (e.set fr ((e.ps fr).heard m.seq.toNat m.mask.toNat).1, [], ((e.ps fr).heard m.seq.toNat m.mask.toNat).2.1, ((e.ps fr).heard m.seq.toNat m.mask.toNat).2.2.1, ((e.ps fr).heard m.seq.toNat m.mask.toNat).2.2.2)
      else (e.set fr ((e.ps fr).come m.seq.toNat m.payload).1, ((e.ps fr).come m.seq.toNat m.payload).2.1, ((e.ps fr).come m.seq.toNat m.payload).2.2.1, ((e.ps fr).come m.seq.toNat m.payload).2.2.2.1, ((e.ps fr).come m.seq.toNat m.payload).2.2.2.2)
    else (e, [], [], false, 86)
  else (e, [], [], false, 80)

def EndTakePost (B : Nat) (w : World) (a : Nat) (F : Nat → Prop) (r : EndD × List UpD × List OutD × Bool × Int) (en : Ending) (w' : World) : Prop :=
  ∃ vu vm, en = .returned (.tuple #[takenV vu vm r.2.2.2.1, .int .i64 r.2.2.2.2]) ∧ Ups B w' vu r.2.1 ∧ Outs B w' vm r.2.2.1 ∧ EndAt B w' a r.1 (grow F w w') ∧ Fr F w w'

theorem TakePost.toEnd {B : Nat} {w w' : World} {a : Nat} {e : EndD} {F : Nat → Prop} {r : Nat} {q own : Nat → Nat} (h : EndX B w a e F r q own) (hR : Reg B w F) {x : Nat} (hx : x < e.hosts) {p' : PeerD} {us : List UpD} {os : List OutD} {ch : Bool} {err : Int} {en : Ending}
    (ht : TakePost B w (q x) (part F own x) p' us os ch err en w') : EndTakePost B w a F (e.set x p', us, os, ch, err) en w' := by
  obtain ⟨vu, vm, rfl, h1, h2, h3, h4⟩ := ht
  exact ⟨vu, vm, rfl, h1, h2, ⟨r, q, _, h.step hR hx h3 h4⟩, h4.mono (fun _ _ h => h.1)⟩

theorem EndTakePost.same {B : Nat} {w w' : World} {a : Nat} {e : EndD} {F : Nat → Prop} (h : EndAt B w a e F) (hf : Fr No w w') (err : Int) : EndTakePost B w a F (e, [], [], false, err) (.returned (.tuple #[takenV nilS nilS false, .int .i64 err])) w' :=
  ⟨nilS, nilS, rfl, Ups.nil _ _, Outs.nil _ _, (h.fr0 hf).mono (fun _ h => .inl h), hf.mono (fun _ _ h => h.elim)⟩

theorem Sl.form {ts : List Nat} {B : Nat} {w : World} {v : Value} {n sz : Nat} {cs : List Value} (h : Sl ts B w v n sz cs) : ∃ a c, v = .slice a n c := let ⟨_, a, c, hv, _⟩ := h; ⟨a, c, hv⟩
theorem Outs.form {B : Nat} {w : World} {v : Value} {l : List OutD} (h : Outs B w v l) : ∃ a c, v = .slice a l.length c := let ⟨_, _, h⟩ := h; h.form
theorem Ups.form {B : Nat} {w : World} {v : Value} {l : List UpD} (h : Ups B w v l) : ∃ a c, v = .slice a l.length c := let ⟨_, _, h⟩ := h; h.form
theorem grow_base {F : Nat → Prop} {w W w' : World} (h : w.heap.size ≤ W.heap.size) : ∀ b, grow F W w' b → grow F w w' b := by
  rintro b (hb | ⟨h1, h2, h3⟩)
  · exact .inl hb
  · exact .inr ⟨Nat.le_trans h h1, h2, h3⟩

def PlainC (w : World) (A : Array Value) (r : Bool) : Prop := Calls Try.prog 42 #[.agg A] w fun e w' => e = .returned (.bool r) ∧ Fr No w w'
def ComeC (B : Nat) (w : World) (qq : Nat) (S : Nat → Prop) (A : Array Value) (r : PeerD × List UpD × List OutD × Bool × Int) : Prop := Calls Try.prog 43 #[.pointer (some ⟨qq, 7, none⟩), .agg A] w (TakePost B w qq S r.1 r.2.1 r.2.2.1 r.2.2.2.1 r.2.2.2.2)
def HeardC (B : Nat) (w : World) (qq : Nat) (S : Nat → Prop) (A : Array Value) (r : PeerD × List OutD × Bool × Int) : Prop := Calls Try.prog 44 #[.pointer (some ⟨qq, 0, none⟩), .agg A] w (TakePost B w qq S r.1 [] r.2.1 r.2.2.1 r.2.2.2)

set_option maxRecDepth 100000 in
set_option maxHeartbeats 2000000 in
theorem f_take (B : Nat) (w : World) (a : Nat) (e : EndD) (F : Nat → Prop) (fr : Nat) (m : MsgD) (x : MsgA) (pa : Option Addr) (pc : Nat) (he : EndAt B w a e F) (hR : Reg B w F) (hB : B ≤ w.heap.size) (hok : e.Ok) (ht : fr < 256) (hm : m.Ok) (hpl : Bytes B w (.slice pa m.payload.length pc) m.payload) :
    Calls Try.prog 21 #[.pointer (some ⟨a, 0, none⟩), .int .u8 fr, .agg (msgVals m x (.slice pa m.payload.length pc)).toArray] w (EndTakePost B w a F (e.take fr m)) := by
  have He := Lib.hid he
  have halt := he.lt
  obtain ⟨r, q, own, hx⟩ := he
  have hrlt := (Array.getElem?_eq_some_iff.1 hx.hr).1
  obtain ⟨h0, h1⟩ := hx.cells
  have h16 := hok.h16
  have hplm : m.payload.length ≤ maxLen := by have := hpl.1; unfold maxLen; omega
  obtain ⟨A, hAd⟩ : ∃ A, A = (msgVals m x (.slice pa m.payload.length pc)).toArray := ⟨_, rfl⟩
  have hplain : ∀ W, PlainC W A m.plain := fun W => by rw [hAd]; exact f_plain W m x pa pc hm hplm
  have hcome : ∀ W qq p S, PeerAt B W qq p S → Reg B W S → B ≤ W.heap.size → p.Ok → Bytes B W (.slice pa m.payload.length pc) m.payload → ComeC B W qq S A (p.come m.seq.toNat m.payload) := fun W qq p S k1 k2 k3 k4 k5 => by
    rw [hAd]; exact f_come B W qq p S m x pa pc m.seq.toNat k1 k2 k3 k4 (by have := hm.seq; omega) (by have := hm.seq; unfold u64max; omega) k5
  have hheard : ∀ W qq p S, PeerAt B W qq p S → Reg B W S → B ≤ W.heap.size → p.Ok → HeardC B W qq S A (p.heard m.seq.toNat m.mask.toNat) := fun W qq p S k1 k2 k3 k4 => by
    rw [hAd]; exact f_heard B W qq p S m x pa pc m.seq.toNat m.mask.toNat k1 k2 k3 k4 (by have := hm.seq; omega) (by have := hm.mask; omega) (by have := hm.seq; unfold u64max; omega) (by have := hm.mask; unfold u64max; omega)
  have hA : ∀ j (v : Value), (msgVals m x (.slice pa m.payload.length pc))[j]? = some v → A[j]? = some v := fun j v h => by rw [hAd, List.getElem?_toArray]; exact h
  rw [← hAd]
  simp only [PlainC] at hplain
  simp only [ComeC] at hcome
  simp only [HeardC] at hheard
  have Hplain := Lib.hid hplain
  have Hcome := Lib.hid hcome
  have Hheard := Lib.hid hheard
  clear hplain hcome hheard
  have Hpl := Lib.hid hpl
  have Hx := Lib.hid hx
  have HA := Lib.hid hAd
  clear hAd hpl hx
  have hW := InW.mk' w A
  have c0 := (hW.msg 0).trans (hA 0 _ rfl)
  have hmr : (inW w A).rangeAt w.heap.size 0 (msgVals m x (.slice pa m.payload.length pc)) := fun j v hv => by rw [Nat.zero_add, hW.msg j]; exact hA j v hv
  have hldW : ∀ W1, Fr No (inW w A) W1 → (Instr.loadAt 45 (.pointer (some ⟨w.heap.size, 0, none⟩))).run Try.prog W1 = .ok (.agg A) W1 := fun W1 hf => by
    rw [HA.out]
    exact run_loadAt_mid W1 w.heap.size 0 45 _ _ (hf.range (fun h => h) hmr) Try.underlying45 rfl (by kernel_rfl)
  have HldW := Lib.hid hldW
  clear hldW hmr hA
  have hth := hW.there
  have hT := typ_of_heap hW.res
  have hfr := hW.fr
  have hsz := hW.size
  obtain ⟨hrc, hrf⟩ := hfr.rules
  have hlW : w.heap.size < (inW w A).heap.size := by omega
  have hP := f_peer (inW w A) a r e q fr (by rw [hrc _ _ halt]; exact h0) (fun x hx => by rw [hrc _ _ hrlt]; exact h1 x hx) ht h16
  have HP := Lib.hid hP
  have hxW := Hx.out.fr hfr FreeT.no (fun _ _ h => h)
  have HxW := Lib.hid hxW
  have hBW : B ≤ (inW w A).heap.size := by omega
  have hsame : ∀ err W', Fr No (inW w A) W' → EndTakePost B w a F (e, [], [], false, err) (.returned (.tuple #[takenV nilS nilS false, .int .i64 err])) (W'.setCells (w.heap.size + 1) 0 [nilS, nilS, .bool false]) := fun err W' hf => EndTakePost.same He.out (Fr.setCells (.inl (Nat.le_add_right _ _)) _ 0 (hfr.then0 hf)) err
  have Hsame := Lib.hid hsame
  have HhT := Lib.hid hT
  clear h0 h1 hP hxW hsame hW hrc hrf hT
  unfold EndD.take
  by_cases hh : e.has fr = true
  · rw [if_pos hh]
    have hp := HP.out
    rw [endPtr_yes hh] at hp
    have Hp := Lib.hid hp
    have Hh := Lib.hid hh
    have hxlt := (EndD.has_iff.1 hh).1
    clear hp HP hh
    by_cases hpn : m.plain = true
    · rw [if_pos hpn]
      have Hpn := Lib.hid hpn
      clear hpn
      by_cases hk : m.kind = 11
      · rw [if_pos hk]
        have hkb : (m.kind == 11) = true := by rw [beq_iff_eq]; exact hk
        clear hk
        go_enter Try.func21, Try.ntmps21
        go_wp2_with fail
        rw [show (w.alloc (.cells A 45)).alloc (.cells #[nilS, nilS, .bool false] 68) = inW w A from rfl]
        generalize inW w A = W at *
        have hld := HldW.out W (Fr.refl _ _)
        go_wp2_with (first | (go_at_call 41; refine Hp.out.mono ?_; rintro en w' ⟨rfl, rfl⟩) | (refine wpList_ld rfl 45 (.tmp 5) rfl rfl hld ?_) | (refine wpList_ld rfl 45 (.tmp 5) rfl rfl hld1 ?_) | (go_at_call 42; refine (Hplain.out W).mono ?_; rintro en W1 ⟨rfl, hf1⟩; have hth1 := there_fr hth hf1 (fun h => h); rw [Hpn.out]; have hrc1 := hf1.rules; have hld1 := HldW.out W1 hf1))
        refine (Hheard.out W1 (q fr) (e.ps fr) (part F own fr) ((HxW.out.fr hf1 FreeT.no (fun _ _ h => h)).pe fr hxlt (EndD.has_iff.1 Hh.out).2) (((hR.part own fr).fr hfr).fr hf1) (by have := hf1.size; omega) (hok.peer fr hxlt (EndD.has_iff.1 Hh.out).2).1).mono ?_
        rintro en W2 ⟨vu, vm, rfl, hu, ho, hpe, hf2⟩
        obtain ⟨ua, uc, rfl⟩ := hu.form
        obtain ⟨oa, oc, rfl⟩ := ho.form
        have hth2 := there_fr hth1 hf2 (fun h => by have := hR.lt _ h.1; omega)
        simp only [takenV]
        go_wp2_with (refine wpList_store_mid rfl _ _ _ rfl _ _ _ rfl rfl hth2 (by kernel_rfl) (by simp [Value.oneCell']) ?_)
        refine bodyPost_ret (results_cell2 (p := 6) (u := 7) (ty := 68) rfl rfl (World.rangeAt_setCells_same _ (w.heap.size + 1) 0 [.slice ua _ uc, .slice oa _ oc, .bool _] hth2) Try.underlying68 rfl (by kernel_rfl)) rfl ?_
        have hfw := hfr.then0 hf1
        have hT2 := hf2.ty _ _ (hf1.ty _ _ HhT.out)
        exact TakePost.toEnd Hx.out hR hxlt (takeRet hth2 hB hT2 hu ho (hpe.mono (grow_base hfw.size)) ((hfw.mono (fun _ _ h => h.elim)).trans hf2) (hR.part own fr))
      · rw [if_neg hk]
        have hkb : (m.kind == 11) = false := by rw [beq_eq_false_iff_ne]; exact hk
        clear hk
        go_enter Try.func21, Try.ntmps21
        go_wp2_with fail
        rw [show (w.alloc (.cells A 45)).alloc (.cells #[nilS, nilS, .bool false] 68) = inW w A from rfl]
        generalize inW w A = W at *
        have hld := HldW.out W (Fr.refl _ _)
        go_wp2_with (first | (go_at_call 41; refine Hp.out.mono ?_; rintro en w' ⟨rfl, rfl⟩) | (refine wpList_ld rfl 45 (.tmp 5) rfl rfl hld ?_) | (refine wpList_ld rfl 45 (.tmp 5) rfl rfl hld1 ?_) | (go_at_call 42; refine (Hplain.out W).mono ?_; rintro en W1 ⟨rfl, hf1⟩; have hth1 := there_fr hth hf1 (fun h => h); rw [Hpn.out]; have hrc1 := hf1.rules; have hld1 := HldW.out W1 hf1))
        refine (Hcome.out W1 (q fr) (e.ps fr) (part F own fr) ((HxW.out.fr hf1 FreeT.no (fun _ _ h => h)).pe fr hxlt (EndD.has_iff.1 Hh.out).2) (((hR.part own fr).fr hfr).fr hf1) (by have := hf1.size; omega) (hok.peer fr hxlt (EndD.has_iff.1 Hh.out).2).1 (Hpl.out.fr (hfr.then0 hf1) FreeT.no)).mono ?_
        rintro en W2 ⟨vu, vm, rfl, hu, ho, hpe, hf2⟩
        obtain ⟨ua, uc, rfl⟩ := hu.form
        obtain ⟨oa, oc, rfl⟩ := ho.form
        have hth2 := there_fr hth1 hf2 (fun h => by have := hR.lt _ h.1; omega)
        simp only [takenV]
        go_wp2_with (refine wpList_store_mid rfl _ _ _ rfl _ _ _ rfl rfl hth2 (by kernel_rfl) (by simp [Value.oneCell']) ?_)
        refine bodyPost_ret (results_cell2 (p := 6) (u := 7) (ty := 68) rfl rfl (World.rangeAt_setCells_same _ (w.heap.size + 1) 0 [.slice ua _ uc, .slice oa _ oc, .bool _] hth2) Try.underlying68 rfl (by kernel_rfl)) rfl ?_
        have hfw := hfr.then0 hf1
        have hT2 := hf2.ty _ _ (hf1.ty _ _ HhT.out)
        exact TakePost.toEnd Hx.out hR hxlt (takeRet hth2 hB hT2 hu ho (hpe.mono (grow_base hfw.size)) ((hfw.mono (fun _ _ h => h.elim)).trans hf2) (hR.part own fr))
    · rw [if_neg hpn]
      have hpn' : m.plain = false := by simpa using hpn
      have Hpn := Lib.hid hpn'
      clear hpn hpn'
      go_enter Try.func21, Try.ntmps21
      go_wp2_with fail
      rw [show (w.alloc (.cells A 45)).alloc (.cells #[nilS, nilS, .bool false] 68) = inW w A from rfl]
      generalize inW w A = W at *
      have hld := HldW.out W (Fr.refl _ _)
      go_wp2_with (first | (go_at_call 41; refine Hp.out.mono ?_; rintro en w' ⟨rfl, rfl⟩) | (refine wpList_ld rfl 45 (.tmp 5) rfl rfl hld ?_) | (refine wpList_ld rfl 45 (.tmp 5) rfl rfl hld1 ?_) | (go_at_call 42; refine (Hplain.out W).mono ?_; rintro en W1 ⟨rfl, hf1⟩; have hth1 := there_fr hth hf1 (fun h => h); rw [Hpn.out]) | (refine wpList_store_mid rfl _ _ _ rfl _ _ _ rfl rfl hth1 (by kernel_rfl) (by simp [Value.oneCell']) ?_))
      refine bodyPost_ret (results_cell2 (p := 6) (u := 7) (ty := 68) rfl rfl (World.rangeAt_setCells_same _ (w.heap.size + 1) 0 [nilS, nilS, .bool false] hth1) Try.underlying68 rfl (by kernel_rfl)) rfl ?_
      exact Hsame.out _ _ hf1
  · rw [if_neg hh]
    have hp := HP.out
    rw [endPtr_no hh] at hp
    have Hp := Lib.hid hp
    clear hp HP hh
    go_enter Try.func21, Try.ntmps21
    go_wp2_with fail
    rw [show (w.alloc (.cells A 45)).alloc (.cells #[nilS, nilS, .bool false] 68) = inW w A from rfl]
    generalize inW w A = W at *
    go_wp2_with (first | (go_at_call 41; refine Hp.out.mono ?_; rintro en w' ⟨rfl, rfl⟩) | (refine wpList_store_mid rfl _ _ _ rfl _ _ _ rfl rfl hth (by kernel_rfl) (by simp [Value.oneCell']) ?_))
    refine bodyPost_ret (results_cell2 (p := 6) (u := 7) (ty := 68) rfl rfl (World.rangeAt_setCells_same _ (w.heap.size + 1) 0 [nilS, nilS, .bool false] hth) Try.underlying68 rfl (by kernel_rfl)) rfl ?_
    exact Hsame.out _ _ (Fr.refl _ _)
end Go.Proofs.Ytplgmcpglbpghaa

/- append(l, m...): two lists of things. -/
namespace Go.Proofs.Ytplgmcpglbpghaa
open Go.RowKit

theorem cellsOf_one {α : Type} {enc : α → Value → List Value} (h : ∀ x v, v.oneCell' = true → ∀ u ∈ enc x v, u.oneCell' = true) : ∀ {l : List α} {vs : List Value}, (∀ v ∈ vs, v.oneCell' = true) → ∀ u ∈ cellsOf enc l vs, u.oneCell' = true
  | [], [], _, u, hu => by cases hu
  | _ :: _, [], _, u, hu => by cases hu
  | [], _ :: _, _, u, hu => by cases hu
  | f :: l, v :: vs, hv, u, hu => by
    simp only [cellsOf, List.mem_append] at hu
    rcases hu with hu | hu
    · exact h f v (hv v List.mem_cons_self) u hu
    · exact cellsOf_one h (fun v hv' => hv v (List.mem_cons_of_mem _ hv')) u hu
theorem outCells_one (x : OutD) (v : Value) (h : v.oneCell' = true) : ∀ u ∈ outCells x v, u.oneCell' = true := by
  intro u hu
  simp only [outCells, msgCells, List.mem_cons, List.not_mem_nil, or_false] at hu
  rcases hu with rfl | rfl | rfl | rfl | rfl | rfl | rfl | rfl | rfl | rfl | rfl | rfl | rfl | rfl | rfl | rfl | rfl | rfl <;> first | rfl | exact h
theorem bytes_one' {B : Nat} {w : World} {vs : List Value} {ls : List (List Int)} (h : All2 (Bytes B w) vs ls) : ∀ v ∈ vs, v.oneCell' = true := All2.all (fun v l h => by obtain ⟨a, c, rfl⟩ := Bytes.form h; rfl) h

theorem wp_cat {α : Type} {enc : α → Value → List Value} {pay : α → List Int} {t T sz by' B base base2 : Nat} (hel : El t T sz by') (henc : ∀ x v, (enc x v).length = sz) (h1c : ∀ x v, v.oneCell' = true → ∀ u ∈ enc x v, u.oneCell' = true) (hT : T ≠ 5) {w : World} {o : Oper} {a : Act} {K : Act → World → Prop} {Q : Exit → Act → World → Prop} (s y : Operand)
    (ho : o.op = .call { callee := .builtin .append, args := #[s, y], argTypes := #[t, t] }) {v v2 : Value} {l l2 : List α} (hs : a.eval s = v) (hown : OwnL enc pay T sz B base w v l)
    (hy : a.eval y = v2) (hown2 : OwnL enc pay T sz B base2 w v2 l2)
    (hB : B ≤ base) (hnm : l.length + l2.length ≤ maxLen) (hby : (l.length + l2.length) * by' ≤ 140737488355328) (hbase : base ≤ w.heap.size)
    (h : ∀ ao' c' w', OwnL enc pay T sz B base w' (.slice ao' (l.length + l2.length) c') (l ++ l2) → Fr (From base) w w' → K (a.put o.dst (.slice ao' (l.length + l2.length) c')) w') : o.wp Try.prog a w K Q := by
  obtain ⟨pvs, hp, hrow⟩ := hown
  obtain ⟨pvs2, hp2, hrow2⟩ := hown2
  obtain ⟨hl2, a2, c2, rfl, _, _, hne⟩ := range_of_owns hrow2
  refine wp_app hel s y ho hs hrow (m := l2.length) hy hl2 (fun hn => by obtain ⟨b, hb, _, _, _, hr⟩ := hne hn; exact ⟨b, 0, hb, hr⟩) (cellsOf_one h1c (bytes_one' hp2)) hnm hby hbase fun ao' c' w' h2 h3 _ => h ao' c' w' ⟨pvs ++ pvs2, ?_, ?_⟩ (h3.mono fun b _ hb => (owns_typ hrow hb).2)
  · have hfree : FreeT [5] B w (fun k => v.ownBlock = some k) := FreeT.of fun b hb => ⟨Nat.le_trans hB (owns_typ hrow hb).2, _, (owns_typ hrow hb).1, by simpa using hT⟩
    rw [List.map_append]
    exact All2.append (hp.mono fun _ _ h => h.fr h3 hfree) (hp2.mono fun _ _ h => h.fr h3 hfree)
  · rw [cellsOf_append _ _ _ _ _ (by rw [hp.length, List.length_map])]
    simpa using h2

theorem wpList_cat {α : Type} {enc : α → Value → List Value} {pay : α → List Int} {t T sz by' B base base2 : Nat} (hel : El t T sz by') (henc : ∀ x v, (enc x v).length = sz) (h1c : ∀ x v, v.oneCell' = true → ∀ u ∈ enc x v, u.oneCell' = true) (hT : T ≠ 5) {w : World} {ops : Array Oper} {rest : List Oper} {o : Oper} {a : Act} {Q : Exit → Act → World → Prop} (hgd : o.guard = none) (s y : Operand)
    (ho : o.op = .call { callee := .builtin .append, args := #[s, y], argTypes := #[t, t] }) {v v2 : Value} {l l2 : List α} (hs : a.eval s = v) (hown : OwnL enc pay T sz B base w v l)
    (hy : a.eval y = v2) (hown2 : OwnL enc pay T sz B base2 w v2 l2)
    (hB : B ≤ base) (hnm : l.length + l2.length ≤ maxLen) (hby : (l.length + l2.length) * by' ≤ 140737488355328) (hbase : base ≤ w.heap.size)
    (h : ∀ ao' c' w', OwnL enc pay T sz B base w' (.slice ao' (l.length + l2.length) c') (l ++ l2) → Fr (From base) w w' → wpList Try.prog ops Q rest (a.put o.dst (.slice ao' (l.length + l2.length) c')) w') : wpList Try.prog ops Q (o :: rest) a w :=
  wpList_plain hgd fun _ hK => wp_cat hel henc h1c hT s y ho hs hown hy hown2 hB hnm hby hbase fun ao' c' w' h2 h3 => hK _ _ (h ao' c' w' h2 h3)
end Go.Proofs.Ytplgmcpglbpghaa

/- (*End).Tick, Room, Calm. -/
namespace Go.Proofs.Ytplgmcpglbpghaa
open Go.RowKit

def EndD.tickTo (e : EndD) (k : Nat) : List OutD := (List.range k).flatMap fun h => if e.has h = true then (e.ps h).again else []
def EndD.tick (e : EndD) : List OutD := e.tickTo e.hosts
theorem EndD.tickTo_succ (e : EndD) (k : Nat) : e.tickTo (k + 1) = e.tickTo k ++ if e.has k = true then (e.ps k).again else [] := by
  simp [EndD.tickTo, List.range_succ]
theorem again_len {p : PeerD} (h : p.Ok) : p.again.length ≤ 16 := by
  have := p.againTo_len (min p.queue.length p.window)
  have := h.win; have := h.room16
  unfold PeerD.again; omega
theorem EndD.Ok.tick_len {e : EndD} (h : e.Ok) : ∀ k, k ≤ e.hosts → (e.tickTo k).length ≤ 16 * k
  | 0, _ => by simp [EndD.tickTo]
  | k + 1, hk => by
    rw [EndD.tickTo_succ, List.length_append]
    have := h.tick_len k (by omega)
    split
    · rename_i hh
      have h2 := again_len (h.peer k (by omega) (EndD.has_iff.1 hh).2).1
      omega
    · simp; omega

def TickPost (B : Nat) (w : World) (l : List OutD) (e : Ending) (w' : World) : Prop := ∃ v, e = .returned v ∧ OutsOwn B w.heap.size w' v l ∧ Fr No w w'

set_option maxRecDepth 100000 in
set_option maxHeartbeats 1000000 in
theorem f_tick (B : Nat) (w : World) (a : Nat) (e : EndD) (F : Nat → Prop) (he : EndAt B w a e F) (hok : e.Ok) (hB : B ≤ w.heap.size) :
    Calls Try.prog 25 #[.pointer (some ⟨a, 0, none⟩)] w (TickPost B w e.tick) := by
  have halt := he.lt
  obtain ⟨r, q, own, hx⟩ := he
  have hrlt := (Array.getElem?_eq_some_iff.1 hx.hr).1
  obtain ⟨h0, h1⟩ := hx.cells
  have h16 := hok.h16
  have Hx := Lib.hid hx
  have H1 := Lib.hid h1
  clear hx h1
  go_enter Try.func25, Try.ntmps25
  go_wp2
  go_loopw [3, 13] (fun v i wr => ∃ k : Nat, k ≤ e.hosts ∧ i = .int .i64 k ∧ OutsOwn B w.heap.size wr v (e.tickTo k) ∧ Fr No w wr) (fun _ i _ => 16 - (intOf i).toNat)
  case atStart => exact ⟨0, Nat.zero_le _, rfl, OwnL.nil _ _ _ _ _ _ _, Fr.refl _ _⟩
  case round =>
    obtain ⟨k, hk, rfl, hv, hfr⟩ := hrel
    obtain ⟨va, vc, rfl⟩ := hv.form
    have Hv := Lib.hid hv
    clear hv
    by_cases hlt : k < e.hosts
    · have hk1 : (k : Int) < (e.hosts : Int) := by omega
      have hc : wr.cell? ⟨r, k, none⟩ = some (endPtr e q k) := by rw [hfr.cell hrlt (fun h => h)]; exact H1.out k hlt
      have Hs := Lib.hid (e.tickTo_succ k)
      have hlen := hok.tick_len k hk
      by_cases hh : e.has k = true
      · rw [endPtr_yes hh] at hc
        have hpe := Hx.out.pe k hlt (EndD.has_iff.1 hh).2
        have hpok := (hok.peer k hlt (EndD.has_iff.1 hh).2).1
        have hal := again_len hpok
        have Hh := Lib.hid hh
        clear hh
        go_wp2_with (first | (go_at_call 49; refine (f_again B wr (q k) (e.ps k) _ (hpe.fr hfr FreeT.no (fun _ _ h => h)) hpok (by have := hfr.size; omega)).mono ?_; rintro en w7 ⟨v7, rfl, hv7, hf7⟩) | (at_builtin; refine wpList_cat elOuts outCells_length outCells_one (by decide) rfl (.tmp 19) (.tmp 23) rfl rfl (Hv.out.fr0 hf7) rfl hv7 hB (by simp only [maxLen]; omega) (by omega) (by have := hfr.size; have := hf7.size; omega) ?_; intro ao' c' w8 hown8 hf8))
        refine ⟨⟨k + 1, by omega, by go_num, by rw [Hs.out, if_pos Hh.out]; exact hown8, (hfr.then0 hf7).trans' hf8 (fun x hx h => by unfold From at h; omega)⟩, by simp [intOf]; omega⟩
      · rw [endPtr_no hh] at hc
        have Hh := Lib.hid hh
        clear hh
        go_wp2_with fail
        refine ⟨⟨k + 1, by omega, by go_num, by rw [Hs.out, if_neg Hh.out, List.append_nil]; exact Hv.out, hfr⟩, by simp [intOf]; omega⟩
    · have hkn : k = e.hosts := by omega
      have hk1 : ¬ (k : Int) < (e.hosts : Int) := by omega
      have Hkn := Lib.hid hkn
      clear hkn
      go_wp2_with fail
      go_ret
      refine ⟨_, rfl, ?_, hfr⟩
      have := Hv.out
      rw [Hkn.out] at this
      rw [Hkn.out]
      exact this

def EndD.room (e : EndD) (to : Nat) : Nat := if e.has to = true then (e.ps to).left else 0

set_option maxRecDepth 100000 in
set_option maxHeartbeats 1000000 in
theorem f_room (B : Nat) (w : World) (a : Nat) (e : EndD) (F : Nat → Prop) (to : Nat) (he : EndAt B w a e F) (hok : e.Ok) (ht : to < 256) :
    Calls Try.prog 31 #[.pointer (some ⟨a, 0, none⟩), .int .u8 to] w fun en w' => en = .returned (.int .i64 (e.room to)) ∧ Fr No w w' := by
  obtain ⟨r, q, own, hx⟩ := he
  obtain ⟨h0, h1⟩ := hx.cells
  have hP := f_peer w a r e q to h0 h1 ht hok.h16
  have Hx := Lib.hid hx
  clear hx h0 h1
  unfold EndD.room
  by_cases hh : e.has to = true
  · rw [if_pos hh]
    rw [endPtr_yes hh] at hP
    have HP := Lib.hid hP
    have hpe := Hx.out.pe to (EndD.has_iff.1 hh).1 (EndD.has_iff.1 hh).2
    have hpok := (hok.peer to (EndD.has_iff.1 hh).1 (EndD.has_iff.1 hh).2).1
    clear hh hP
    go_enter Try.func31, Try.ntmps31
    go_wp2_with (first | (go_at_call 41; refine HP.out.mono ?_; rintro en w' ⟨rfl, rfl⟩) | (go_at_call 52; refine (f_left B w (q to) (e.ps to) _ hpe hpok).mono ?_; rintro en w2 ⟨rfl, hf2⟩))
    go_ret
    exact ⟨rfl, hf2⟩
  · rw [if_neg hh]
    rw [endPtr_no hh] at hP
    have HP := Lib.hid hP
    clear hh hP
    go_enter Try.func31, Try.ntmps31
    go_wp2_with (go_at_call 41; refine HP.out.mono ?_; rintro en w' ⟨rfl, rfl⟩)
    go_ret
    exact ⟨rfl, Fr.refl _ _⟩

def EndD.calmTo (e : EndD) (k : Nat) : Bool := (List.range k).all fun h => !e.has h || (e.ps h).queue.length == 0
def EndD.calm (e : EndD) : Bool := e.calmTo e.hosts
theorem EndD.calmTo_succ (e : EndD) (k : Nat) : e.calmTo (k + 1) = (e.calmTo k && (!e.has k || (e.ps k).queue.length == 0)) := by
  simp [EndD.calmTo, List.range_succ, List.all_append]
theorem EndD.calmTo_le {e : EndD} {k n : Nat} (h : e.calmTo n = true) (hk : k ≤ n) : e.calmTo k = true := by
  unfold EndD.calmTo at *
  rw [List.all_eq_true] at *
  exact fun x hx => h x (by simp at hx ⊢; omega)

theorem PeerAt.qcell {B : Nat} {w : World} {q : Nat} {p : PeerD} {F : Nat → Prop} (h : PeerAt B w q p F) : ∃ a c, w.cell? ⟨q, 5, none⟩ = some (.slice a p.queue.length c) := by
  obtain ⟨_, _, vq, ve, hh, ⟨vs, hvs, hown, _⟩, _⟩ := h
  have g := (peerCells_get hh).2.1.2.1
  obtain ⟨_, a, c, rfl, _⟩ := range_of_owns hown
  exact ⟨a, c, g⟩

set_option maxRecDepth 100000 in
set_option maxHeartbeats 1000000 in
theorem f_calm (B : Nat) (w : World) (a : Nat) (e : EndD) (F : Nat → Prop) (he : EndAt B w a e F) (hok : e.Ok) :
    Calls Try.prog 32 #[.pointer (some ⟨a, 0, none⟩)] w fun en w' => en = .returned (.bool e.calm) ∧ w = w' := by
  obtain ⟨r, q, own, hx⟩ := he
  obtain ⟨h0, h1⟩ := hx.cells
  have h16 := hok.h16
  have Hx := Lib.hid hx
  have H1 := Lib.hid h1
  clear hx h1
  go_enter Try.func32, Try.ntmps32
  go_wp2
  go_loop [12] (fun i => ∃ k : Nat, k ≤ e.hosts ∧ i = .int .i64 k ∧ Hid (e.calmTo k = true)) (fun i => 16 - (intOf i).toNat)
  case atStart => exact ⟨0, Nat.zero_le _, rfl, Lib.hid rfl⟩
  case round =>
    obtain ⟨k, hk, rfl, Hc⟩ := hrel
    by_cases hlt : k < e.hosts
    · have hk1 : (k : Int) < (e.hosts : Int) := by omega
      have hc := H1.out k hlt
      have Hs := Lib.hid (e.calmTo_succ k)
      by_cases hh : e.has k = true
      · rw [endPtr_yes hh] at hc
        have hpe := Hx.out.pe k hlt (EndD.has_iff.1 hh).2
        have hpok := (hok.peer k hlt (EndD.has_iff.1 hh).2).1
        have hq1 := hpok.qroom
        have hq2 := hpok.room16
        obtain ⟨qa, qc, hqc⟩ := hpe.qcell
        have Hh := Lib.hid hh
        clear hh
        by_cases h0q : (e.ps k).queue.length = 0
        · have hn : ¬ (0 : Int) < ((e.ps k).queue.length : Int) := by omega
          have hn' : decide ((0 : Int) < ((e.ps k).queue.length : Int)) = false := decide_eq_false hn
          have hnn : (((e.ps k).queue.length == 0)) = true := by simp [h0q]
          have H0 := Lib.hid hnn
          clear h0q hnn
          go_wp2
          go_round
          case rel => exact ⟨k + 1, by omega, by go_num, Lib.hid (by rw [Hs.out, Hc.out, H0.out]; simp)⟩
          case measure => simp [intOf]; omega
        · have hn : (0 : Int) < ((e.ps k).queue.length : Int) := by omega
          have hn' : decide ((0 : Int) < ((e.ps k).queue.length : Int)) = true := decide_eq_true hn
          have hnn : (((e.ps k).queue.length == 0)) = false := by simpa using h0q
          have H0 := Lib.hid hnn
          have hcalm : e.calm = false := by
            cases hcc : e.calm with
            | false => rfl
            | true =>
              have := EndD.calmTo_le (e := e) (k := k + 1) (n := e.hosts) hcc (by omega)
              rw [Hs.out, Hc.out, H0.out, Hh.out] at this
              cases this
          have HC := Lib.hid hcalm
          clear h0q hnn hcalm
          go_wp2
          go_ret
          exact ⟨ret_b HC.out.symm, rfl⟩
      · rw [endPtr_no hh] at hc
        have hh' : e.has k = false := by simpa using hh
        have Hh := Lib.hid hh'
        clear hh hh'
        go_wp2
        go_round
        case rel => exact ⟨k + 1, by omega, by go_num, Lib.hid (by rw [Hs.out, Hc.out, Hh.out]; rfl)⟩
        case measure => simp [intOf]; omega
    · have hkn : k = e.hosts := by omega
      have hk1 : ¬ (k : Int) < (e.hosts : Int) := by omega
      have hcalm : e.calm = true := by unfold EndD.calm; rw [← hkn]; exact Hc.out
      have HC := Lib.hid hcalm
      clear hkn hcalm
      go_wp2
      go_ret
      exact ⟨ret_b HC.out.symm, rfl⟩
end Go.Proofs.Ytplgmcpglbpghaa
