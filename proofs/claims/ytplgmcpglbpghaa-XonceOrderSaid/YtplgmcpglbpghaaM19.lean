/- Part 19 of the proof: Yw5, Yb1, Yb2. -/
import Derived.Test.YtplgmcpglbpghaaM18
set_option linter.all false
set_option linter.unusedVariables false
set_option linter.unusedSimpArgs false

/- send. -/
namespace Go.Proofs.Ytplgmcpglbpghaa
open Go.RowKit

/-- A row that is read: where its cells lie. -/
theorem row_cells {base : Nat} {w : World} {v : Value} {e n : Nat} {xs : List Value} (h : w.ownsRow base e 1 v n xs) (hn : 0 < n) :
    ∃ g c, v = .slice (some ⟨g, 0, none⟩) n c ∧ v.ownBlock = some g ∧ g < w.heap.size ∧ ∀ k u, xs[k]? = some u → w.cell? ⟨g, k, none⟩ = some u := by
  obtain ⟨hcl, a, c, rfl, _, _, hne⟩ := range_of_owns h
  obtain ⟨g, rfl, hg, _, hty, hr⟩ := hne (fun h => by rw [h] at hcl; simp at hcl; omega)
  exact ⟨g, c, rfl, hg, typ_lt hty, fun k u hk => by have := hr k u hk; rwa [Nat.zero_add] at this⟩

theorem wp_bcopy {B : Nat} {w : World} {o : Oper} {a : Act} {K : Act → World → Prop} {Q : Exit → Act → World → Prop} (s y : Operand)
    (ho : o.op = .call { callee := .builtin .append, args := #[s, y], argTypes := #[33, 33] }) (hs : a.eval s = nilS) {v : Value} {l : List Int} (hy : a.eval y = v) (hb : Bytes B w v l)
    (h : ∀ ao c w', Bytes B w' (.slice ao l.length c) l → Fr No w w' → K (a.put o.dst (.slice ao l.length c)) w') : o.wp Try.prog a w K Q := by
  obtain ⟨hl, hcs, xa, xc, rfl, h1, h2, h3⟩ := hb
  refine wp_app elBytes s y ho hs (World.ownsRow_nil w w.heap.size 5 1) (m := l.length) (news := u8s l) hy (by simp [u8s]) (fun hne => ?_) (u8s_mem l) (by simp only [maxLen]; omega) (by omega) (Nat.le_refl _) ?_
  · obtain ⟨b, o, hb, _, hr⟩ := h3 hne
    exact ⟨b, o, hb, hr⟩
  · intro ao c w' hown hf _
    rw [Nat.zero_add] at *
    exact h ao c w' ⟨hl, Sl.of_owns (by simpa using hown) (by decide)⟩ (hf.mono (fun _ _ hk => by cases hk))

theorem EndD.send_fst (e : EndD) (b : Nat) (l : List Int) (hb : e.has b = true) : (e.send b l).1 = e.set b (if szB l.length = true then ((e.ps b).push l).1 else e.ps b) := by
  unfold EndD.send
  rw [if_pos hb]
  by_cases h : szB l.length = true
  · rw [if_pos h, if_pos h]
  · rw [if_neg h, if_neg h, EndD.set_self]

theorem WD.endD_has {d : WD} {a b : Nat} (hb : b < d.hosts) (hab : a ≠ b) : (d.endD a).has b = true := by simp [EndD.has, WD.endD, hb, Ne.symm hab]

/-- What an end's Send does to the world. -/
theorem WorldX.sent {B : Nat} {w w' : World} {q : Nat} {d : WD} {F : Nat → Prop} {own : Nat → Tag} {v : WV} (h : WorldX B w q d F own v) (hR : Reg B w F) (hBw : B ≤ w.heap.size) {a b : Nat} {l : List Int} (hb : b < d.hosts) (hab : a ≠ b)
    (he : EndAt B w' (v.ea a) ((d.endD a).send b l).1 (grow (partT F own (.en a)) w w')) (hf : Fr (partT F own (.en a)) w w') :
    WorldX B w' q { d with ps := upd d.ps a b (if szB l.length = true then ((d.ps a b).push l).1 else d.ps a b) } (grow F w w') (fun k => if k < w.heap.size then own k else .en a) v ∧ Reg B w' (grow F w w') ∧ Fr F w w' ∧ Grew F (grow F w w') w := by
  rw [EndD.send_fst _ _ _ (WD.endD_has hb hab)] at he
  exact h.setEnd hR hBw he hf

theorem WD.Ok.send_cases {d : WD} (h : d.Ok) {a b : Nat} (ha : a < d.hosts) (hb : b < d.hosts) (hab : a ≠ b) (l : List Int) :
    (((d.endD a).send b l).2.2 = 0 ∧ szB l.length = true ∧ ((d.endD a).send b l).2.1 = ((d.ps a b).push l).2.1 ∧ d.send a b l = { d with ps := upd d.ps a b ((d.ps a b).push l).1, took := upd d.took a b (d.took a b ++ [l]), bag := d.bag ++ mailsOf a ((d.ps a b).push l).2.1 } ∧ ∀ o ∈ ((d.ps a b).push l).2.1, 0 ≤ o.to ∧ o.to < 256)
    ∨ (((d.endD a).send b l).2.2 ≠ 0 ∧ ((d.endD a).send b l).2.1 = [] ∧ (if szB l.length = true then ((d.ps a b).push l).1 else d.ps a b) = d.ps a b ∧ d.send a b l = d ∧ ¬ ((d.took a b).length < d.queue ∧ 0 < l.length ∧ l.length ≤ 3072)) := by
  obtain ⟨k1, k2, k3, k4⟩ := h.peer a b ha hb hab
  have hP := (h.pair a b ha hb hab).1
  unfold EndD.send WD.send
  rw [if_pos (WD.endD_has hb hab)]
  by_cases hs : szB l.length = true
  · rw [if_pos hs]
    have hl := szB_true.1 hs
    rw [if_neg (by omega)]
    dsimp only
    by_cases he : ((d.ps a b).push l).2.2 = 0
    · refine .inl ⟨he, hs, rfl, by rw [if_pos he], fun o ho => ?_⟩
      have hto : o.to = (b : Int) := by
        have hm := (hP.pushed k1 hl he).mono.to
        obtain ⟨i, _, rfl⟩ := (hP.pushed k1 hl he).outs o ho
        show ((d.ps a b).push l).1.to = _
        rw [hm, k2]
      have := h.h16
      rw [hto]; omega
    · obtain ⟨h1, h2, h3⟩ := push_err he
      refine .inr ⟨he, h2, by rw [if_pos hs]; exact h1, by rw [if_neg he], ?_⟩
      rintro ⟨h4, _⟩
      have q1 := k1.qlen
      have q2 := k1.sent
      have q3 := hP.sent
      have q4 := h.q16
      rw [k3] at h3
      rcases h3 with h3 | h3
      · omega
      · rw [h3] at q3; unfold u64max at q3; omega
  · rw [if_neg hs, if_neg hs]
    have hl : l.length < 1 ∨ 3072 < l.length := szB_false.1 (by simpa using hs)
    refine .inr ⟨by simp, rfl, rfl, by rw [if_pos hl], by omega⟩

theorem f_num2 (w : World) (n : Int) : Calls Try.prog 19 #[.int .i64 n] w fun e w' => e = .returned (.int .i64 n) ∧ w = w' := (f_num w n).mono fun _ _ h => ⟨h.1, h.2.symm⟩

theorem WD.ps_self (d : WD) (a b : Nat) : ({ d with ps := upd d.ps a b (d.ps a b) } : WD) = d := by rw [upd_self]

set_option maxRecDepth 100000 in
set_option maxHeartbeats 4000000 in
theorem f_wsend (B : Nat) (w : World) (q : Nat) (d : WD) (F : Nat → Prop) (a b : Nat) (v : Value) (l : List Int) (h : WorldAt B w q d F) (hR : Reg B w F) (hB : B ≤ w.heap.size) (hok : d.Ok) (ha : a < d.hosts) (hb : b < d.hosts) (hab : a ≠ b) (hv : Bytes B w v l) (hlen : d.bag.length ≤ 100000) (htk : (d.took a b).length ≤ 4398046511104) :
    Calls Try.prog 34 #[.pointer (some ⟨q, 0, none⟩), .int .i64 a, .int .i64 b, v] w fun e w' => e = .returned (.tuple #[]) ∧ WPost B w q F (d.send a b l) w' := by
  obtain ⟨own, wv, hX⟩ := h
  obtain ⟨hqlt, ⟨_, _, hc2, hc3, hc4, _, _⟩, hz⟩ := hX.cells
  obtain ⟨he1, he2⟩ := hX.ends (fun h => h)
  obtain ⟨g, gc, hve, hgo, hglt, hgc⟩ := row_cells he1 hok.h1
  rw [hve] at hc2
  have hga := hgc a _ (ptrs_get ha)
  have h16 := hok.h16
  have e8 : IntKind.u8.wrap (b : Int) = b := by rw [IntKind.wrap_u8]; omega
  have ha1 : (a : Int) < (d.hosts : Int) := by omega
  obtain ⟨va, vc, rfl⟩ := hv.form
  have hsend := f_send B w (wv.ea a) (d.endD a) (partT F own (.en a)) b (.slice va l.length vc) l (hX.en a ha (fun h => h)) (fun k hk => hR k hk.1) hB (hok.endD ha) (by omega) hv
  have Hsend := Lib.hid hsend
  have HX := Lib.hid hX
  have Hv := Lib.hid hv
  clear hX he1 he2 hve hgo hgc hsend
  have hl0 := hv.1
  clear hv
  go_enter Try.func34, Try.ntmps34
  go_wp2_with (go_at_call 22; refine Hsend.out.mono ?_; rintro en w1 ⟨vo, rfl, ho, hE, hf1⟩)
  have hS := HX.out.sent hR hB hb hab hE hf1
  clear hE hga hc2 hc3 hc4 hz
  rcases hok.send_cases ha hb hab l with ⟨c1, c2, c3, c4, c5⟩ | ⟨c1, c2, c3, c4, c5⟩
  · rw [if_pos c2] at hS
    obtain ⟨hX1, hR1, hf1', hg1⟩ := hS
    rw [c3] at ho
    have C1 := Lib.hid c1
    have C4 := Lib.hid c4
    have Ho := Lib.hid ho
    obtain ⟨oa, oc, rfl⟩ := ho.form
    rw [c1]
    clear c1 c2 c3 c4 ho
    have HX1 := Lib.hid hX1
    obtain ⟨hqlt1, ⟨_, _, _, _, hd4, _, _⟩, hz1⟩ := hX1.cells
    obtain ⟨t1, t2⟩ := hX1.took (fun h => h)
    obtain ⟨tg, tc, htv, htgo, htglt, htgc⟩ := row_cells t1 hok.h1
    have htga := htgc a _ (rows_get ha)
    obtain ⟨r1, r2, r3, r4⟩ := hX1.tr a ha (fun h => h)
    have htbl := (Array.getElem?_eq_some_iff.1 r4).1
    have htb : w1.cell? ⟨wv.tb a, b, none⟩ = some (wv.tv a b) := by rw [cell_of_row _ _ b _ _ _ r4]; simpa using vals_get hb
    have hztb : ∀ o, w1.frozen? ⟨wv.tb a, o, none⟩ = false := fun o => by simp [World.frozen?, r4]
    obtain ⟨k1, k2⟩ := hX1.tk a b ha hb (fun h => h)
    obtain ⟨ka, kc, hkv⟩ := k1.form
    obtain ⟨N, hN⟩ : ∃ N, N = (d.took a b).length := ⟨_, rfl⟩
    have hkv' : wv.tv a b = .slice ka N kc := by rw [hN]; exact hkv
    rw [hkv'] at htb k1 k2
    rw [htv] at hd4
    have htb' : (.slice ka N kc : Value) = wv.tv a b := hkv'.symm
    generalize hSd : (fun b' => (Value.slice ka N kc).ownBlock = some b') = S
    have hSk : ∀ k, S k → (grow F w w1) k ∧ (if k < w.heap.size then own k else Tag.en a) = .tk a b := by rw [← hSd]; exact k2
    have hqS : ¬ S q := fun e => by have h1 := (hSk _ e).2; have h2 := (hX1.hq (fun h => h)).2.2.1; rw [h1] at h2; cases h2
    have hmS : ¬ S tg := fun e => by have h1 := (hSk _ e).2; have h2 := (t2 _ htgo).2; rw [h1] at h2; cases h2
    have hnS : ¬ S (wv.tb a) := fun e => by have h1 := (hSk _ e).2; rw [h1] at r3; cases r3
    have hqlt := hqlt1
    have hmlt := htglt
    have hnlt := htbl
    have hb1 : (b : Int) < (d.hosts : Int) := by omega
    have hBw : B ≤ w1.heap.size := Nat.le_trans hB hf1'.size
    have hvB : Bytes B w1.drew (.slice va l.length vc) l := (Hv.out.fr hf1' hR.free8).fr ((Fr.refl No _).drew) FreeT.no
    have HvB := Lib.hid hvB
    have HN := Lib.hid hN
    have Hk1 := Lib.hid k1
    have Htk := Lib.hid htk
    clear hX1 t1 t2 htgo htgc r1 r2 r3 r4 k1 hkv hkv' htv hvB hN htb' htk
    go_wp2_with (go_at_call 19; refine (f_num2 w1 0).mono ?_; rintro en w' ⟨rfl, rfl⟩)
    refine WS.wp_region_seq (Fr S w1) [23] [(0, true), (1, true), (2, true), (3, true), (4, true), (5, true), (6, true), (7, true), (8, true), (9, true), (10, true), (11, true), (12, true), (13, true), (14, true), (15, true), (16, true), (17, true), (18, true), (19, false), (20, false), (21, false), (22, true), (23, false)] (by kernel_rfl) (by kernel_rfl) (fun c d v a w h => by cases d <;> exact h) ((Fr.refl _ _).drew) ?_
    simp only [WS.pick, List.getElem?_toArray, List.getElem?_cons_succ, List.getElem?_cons_zero]
    repeat (first | (refine WS.wpL_skip rfl ?_; try simp only [Act.put, List.setIfInBounds_toArray, List.set_cons_zero, List.set_cons_succ]) | (refine WS.wpL_q ?_ rfl ?_ ?_; rotate_left 1; (focus (intro w' hw'; have hrc' := Fr.rules1 hw' hqlt hqS; have hrm' := Fr.rules1 hw' hmlt hmS; have hrn' := Fr.rules1 hw' hnlt hnS; clear hw'; go_simp; (try with_reducible rfl); done)); try simp only [Act.put, List.setIfInBounds_toArray, List.set_cons_zero, List.set_cons_succ]))
    refine WS.wpL_e rfl (fun K hK => ?_)
    refine wp_bcopy (.const nilS) (.tmp 45) rfl rfl rfl HvB.out ?_
    intro ao c w3 hpB hf3
    have hf3' : Fr No w1 w3 := hf3.ofDrew
    refine hK _ _ (fun _ => hf3'.mono (fun _ _ h => h.elim)) ?_
    clear hK K
    try simp only [Act.put, List.setIfInBounds_toArray, List.set_cons_zero, List.set_cons_succ]
    repeat (first | (refine WS.wpL_skip rfl ?_; try simp only [Act.put, List.setIfInBounds_toArray, List.set_cons_zero, List.set_cons_succ]) | (refine WS.wpL_q ?_ rfl ?_ ?_; rotate_left 1; (focus (intro w' hw'; have hrc' := Fr.rules1 hw' hqlt hqS; have hrm' := Fr.rules1 hw' hmlt hmS; have hrn' := Fr.rules1 hw' hnlt hnS; clear hw'; go_simp; (try with_reducible rfl); done)); try simp only [Act.put, List.setIfInBounds_toArray, List.set_cons_zero, List.set_cons_succ]))
    refine WS.wpL_e rfl (fun K hK => ?_)
    go_simp
    have hf4 : Fr No w1 (w3.alloc (.cells (bytesEnc l (.slice ao l.length c)).toArray 33)) := hf3'.alloc _
    refine hK _ _ (fun _ => hf4.mono (fun _ _ h => h.elim)) ?_
    clear hK K
    try simp only [Act.put, List.setIfInBounds_toArray, List.set_cons_zero, List.set_cons_succ]
    repeat (first | (refine WS.wpL_skip rfl ?_; try simp only [Act.put, List.setIfInBounds_toArray, List.set_cons_zero, List.set_cons_succ]) | (refine WS.wpL_q ?_ rfl ?_ ?_; rotate_left 1; (focus (intro w' hw'; have hrc' := Fr.rules1 hw' hqlt hqS; have hrm' := Fr.rules1 hw' hmlt hmS; have hrn' := Fr.rules1 hw' hnlt hnS; clear hw'; go_simp; (try with_reducible rfl); done)); try simp only [Act.put, List.setIfInBounds_toArray, List.set_cons_zero, List.set_cons_succ]))
    refine WS.wpL_e rfl (fun K hK => ?_)
    refine wp_snoc2 (enc := bytesEnc) (pay := id) (B := B) (base := B) (l := d.took a b) (x := l) (pv := .slice ao l.length c) elBytess bytesEnc_len (by decide) (.tmp 44) (.tmp 47) rfl rfl (Hk1.out.fr0 hf4) rfl ⟨w3.heap.size, 0, rfl, range_new (cs := bytesEnc l (.slice ao l.length c))⟩ (by simp [bytesEnc, Value.oneCell']) (hpB.fr (Fr.alloc0 _ _) FreeT.no) (Nat.le_refl _) (by have := Htk.out; simp only [maxLen]; omega) (by have := Htk.out; omega) (Nat.le_trans hBw hf4.size) ?_
    intro ao' c' w8 hown8 hf8 hat8
    have hf8' : Fr S w1 w8 := (hf4.mono (fun _ _ h => h.elim)).trans (by rw [← hSd]; exact hf8)
    refine hK _ _ (fun _ => hf8') ?_
    clear hK K
    try simp only [Act.put, List.setIfInBounds_toArray, List.set_cons_zero, List.set_cons_succ]
    repeat (first | (refine WS.wpL_skip rfl ?_; try simp only [Act.put, List.setIfInBounds_toArray, List.set_cons_zero, List.set_cons_succ]) | (refine WS.wpL_q ?_ rfl ?_ ?_; rotate_left 1; (focus (intro w' hw'; have hrc' := Fr.rules1 hw' hqlt hqS; have hrm' := Fr.rules1 hw' hmlt hmS; have hrn' := Fr.rules1 hw' hnlt hnS; clear hw'; go_simp; (try with_reducible rfl); done)); try simp only [Act.put, List.setIfInBounds_toArray, List.set_cons_zero, List.set_cons_succ]))
    have hrn8 := hf8'.rules1 hnlt hnS
    refine WS.wpL_e rfl (fun K hK => ?_)
    go_simp
    refine hK _ _ (fun h => absurd (by decide) h) ?_
    clear hK K
    try simp only [Act.put, List.setIfInBounds_toArray, List.set_cons_zero, List.set_cons_succ]
    refine WS.wpL_nil ?_
    obtain ⟨F2, hW2, hR2, hf2, hg2⟩ := HX1.out.setTook hR1 ha hb hf8' hSk hown8 (fun k' hk' => by
      rcases hat8 with h9 | h9
      · rw [h9] at hk'
        exact .inl (k2 k' hk')
      · rw [h9] at hk'
        simp only [Option.some.injEq] at hk'
        refine .inr ?_
        rw [← hk']
        exact hf4.size) rfl
    generalize w8.setCell ⟨wv.tb a, b, none⟩ (.slice ao' ((d.took a b).length + 1) c') = w9 at *
    have hlO : ((d.ps a b).push l).2.1.length ≤ 1 := by
      unfold PeerD.push
      split
      · simp
      · split
        · simp
        · dsimp only; split <;> simp
    have hpost := f_post B w9 q _ F2 a _ _ hW2 hR2 (Nat.le_trans hBw hf2.size) (Ho.out.fr hf2 hR1.free) c5 (by show d.bag.length + _ ≤ _; omega) (by omega)
    have Hpost := Lib.hid hpost
    clear hpost
    go_wp2_with (go_at_call 24; refine Hpost.out.mono ?_; rintro en w10 ⟨rfl, F3, hW3, hR3, hf3, hg3⟩)
    refine bodyPost_ret (results_none rfl _ _ _) rfl ⟨rfl, F3, ?_, hR3, (hf1'.grew hf2 hg1).grew hf3 (hg1.trans hg2 hf1'.size), (hg1.trans hg2 hf1'.size).trans hg3 (hf1'.grew hf2 hg1).size⟩
    rw [C4.out]
    exact hW3
  · rw [c3, WD.ps_self] at hS
    obtain ⟨hX1, hR1, hf1', hg1⟩ := hS
    rw [c2] at ho
    have C4 := Lib.hid c4
    obtain ⟨oa, oc, rfl⟩ := ho.form
    obtain ⟨er, her⟩ : ∃ er, er = ((d.endD a).send b l).2.2 := ⟨_, rfl⟩
    rw [← her] at c1 ⊢
    have herb : (er == 0) = false := by rw [beq_eq_false_iff_ne]; exact c1
    have HX1 := Lib.hid hX1
    obtain ⟨hqlt1, ⟨hd0, _, _, _, hd4, _, _⟩, hz1⟩ := hX1.cells
    obtain ⟨t1, t2⟩ := hX1.took (fun h => h)
    obtain ⟨tg, tc, htv, htgo, htglt, htgc⟩ := row_cells t1 hok.h1
    have htga := htgc a _ (rows_get ha)
    obtain ⟨r1, r2, r3, r4⟩ := hX1.tr a ha (fun h => h)
    have htbl := (Array.getElem?_eq_some_iff.1 r4).1
    have htb : w1.cell? ⟨wv.tb a, b, none⟩ = some (wv.tv a b) := by rw [cell_of_row _ _ b _ _ _ r4]; simpa using vals_get hb
    obtain ⟨k1, k2⟩ := hX1.tk a b ha hb (fun h => h)
    obtain ⟨ka, kc, hkv⟩ := k1.form
    rw [hkv] at htb
    rw [htv] at hd4
    have hb1 : (b : Int) < (d.hosts : Int) := by omega
    have hb0 : ((0 : Int) != 0) = false := rfl
    clear c1 c2 c3 c4 her ho hX1 t1 t2 htgo htgc r1 r2 r3 r4 k1 k2 hkv htv
    generalize (d.took a b).length = T at *
    have fin : WPost B w q F (d.send a b l) w1.drew := by
      rw [C4.out]
      exact ⟨_, ⟨_, _, HX1.out.fr0 ((Fr.refl _ _).drew)⟩, hR1.fr ((Fr.refl No w1).drew), hf1'.drew, hg1⟩
    have Fin := Lib.hid fin
    clear fin
    by_cases q1 : T < d.queue
    · have d1 : decide (T < d.queue) = true := decide_eq_true q1
      by_cases q2 : 0 < l.length
      · have q3 : ¬ l.length ≤ 3072 := fun h => c5 ⟨q1, q2, h⟩
        have d2 : decide (0 < l.length) = true := decide_eq_true q2
        have d3 : decide ((l.length : Int) ≤ 3072) = false := decide_eq_false (by omega)
        go_wp2_with (go_at_call 19; refine (f_num2 w1 er).mono ?_; rintro en w' ⟨rfl, rfl⟩)
        refine WS.wp_region_seq (Fr No w1) [] [(0, true), (1, true), (2, true), (3, true), (4, true), (5, true), (6, true), (7, true), (8, true), (9, true), (10, true), (11, true), (12, true), (13, true), (14, true), (15, true), (16, true), (17, true), (18, true), (19, true), (20, true), (21, true), (22, true), (23, true), (24, true), (25, true), (26, true), (27, true), (28, true), (29, true), (30, true)] (by kernel_rfl) (by kernel_rfl) (fun c d v a w h => by cases d <;> exact h) ((Fr.refl _ _).drew) ?_
        simp only [WS.pick, List.getElem?_toArray, List.getElem?_cons_succ, List.getElem?_cons_zero]
        repeat (first | (refine WS.wpL_skip rfl ?_; try simp only [Act.put, List.setIfInBounds_toArray, List.set_cons_zero, List.set_cons_succ]) | (refine WS.wpL_q ?_ rfl ?_ ?_; rotate_left 1; (focus (intro w' hw'; have hrr' := hw'.rules; obtain ⟨hrc', _⟩ := hrr'; clear hw'; go_simp; (try with_reducible rfl); done)); try simp only [Act.put, List.setIfInBounds_toArray, List.set_cons_zero, List.set_cons_succ]))
        refine WS.wpL_nil ?_
        go_wp2_with fail
        go_end0
        exact ⟨rfl, Fin.out⟩
      · have d2 : decide (0 < l.length) = false := decide_eq_false q2
        go_wp2_with (go_at_call 19; refine (f_num2 w1 er).mono ?_; rintro en w' ⟨rfl, rfl⟩)
        refine WS.wp_region_seq (Fr No w1) [] [(0, true), (1, true), (2, true), (3, true), (4, true), (5, true), (6, true), (7, true), (8, true), (9, true), (10, true), (11, true), (12, true), (13, true), (14, true), (15, true), (16, true), (17, true), (18, true), (19, true), (20, true), (21, true), (22, true), (23, true), (24, true), (25, true), (26, true), (27, true), (28, true), (29, true), (30, true)] (by kernel_rfl) (by kernel_rfl) (fun c d v a w h => by cases d <;> exact h) ((Fr.refl _ _).drew) ?_
        simp only [WS.pick, List.getElem?_toArray, List.getElem?_cons_succ, List.getElem?_cons_zero]
        repeat (first | (refine WS.wpL_skip rfl ?_; try simp only [Act.put, List.setIfInBounds_toArray, List.set_cons_zero, List.set_cons_succ]) | (refine WS.wpL_q ?_ rfl ?_ ?_; rotate_left 1; (focus (intro w' hw'; have hrr' := hw'.rules; obtain ⟨hrc', _⟩ := hrr'; clear hw'; go_simp; (try with_reducible rfl); done)); try simp only [Act.put, List.setIfInBounds_toArray, List.set_cons_zero, List.set_cons_succ]))
        refine WS.wpL_nil ?_
        go_wp2_with fail
        go_end0
        exact ⟨rfl, Fin.out⟩
    · have d1 : decide (T < d.queue) = false := decide_eq_false q1
      go_wp2_with (go_at_call 19; refine (f_num2 w1 er).mono ?_; rintro en w' ⟨rfl, rfl⟩)
      refine WS.wp_region_seq (Fr No w1) [] [(0, true), (1, true), (2, true), (3, true), (4, true), (5, true), (6, true), (7, true), (8, true), (9, true), (10, true), (11, true), (12, true), (13, true), (14, true), (15, true), (16, true), (17, true), (18, true), (19, true), (20, true), (21, true), (22, true), (23, true), (24, true), (25, true), (26, true), (27, true), (28, true), (29, true), (30, true)] (by kernel_rfl) (by kernel_rfl) (fun c d v a w h => by cases d <;> exact h) ((Fr.refl _ _).drew) ?_
      simp only [WS.pick, List.getElem?_toArray, List.getElem?_cons_succ, List.getElem?_cons_zero]
      repeat (first | (refine WS.wpL_skip rfl ?_; try simp only [Act.put, List.setIfInBounds_toArray, List.set_cons_zero, List.set_cons_succ]) | (refine WS.wpL_q ?_ rfl ?_ ?_; rotate_left 1; (focus (intro w' hw'; have hrr' := hw'.rules; obtain ⟨hrc', _⟩ := hrr'; clear hw'; go_simp; (try with_reducible rfl); done)); try simp only [Act.put, List.setIfInBounds_toArray, List.set_cons_zero, List.set_cons_succ]))
      refine WS.wpL_nil ?_
      go_wp2_with fail
      go_end0
      exact ⟨rfl, Fin.out⟩
end Go.Proofs.Ytplgmcpglbpghaa

/- begun: the world while it is made. -/
namespace Go.Proofs.Ytplgmcpglbpghaa
open Go.RowKit

def rowsN (n m : Nat) (f : Nat → Nat) : List Value := (List.range n).map fun a => .slice (some ⟨f a, 0, none⟩) m m
theorem rowsN_self (n : Nat) (f : Nat → Nat) : rowsN n n f = rows n f := rfl
def wcellsN (d : WD) (v : WV) : List Value := [.int .i64 d.queue, .int .i64 d.window, v.ve, v.vb, v.vt, v.vu, .bool false]

/-- The world while it is made: ne ends, nt rows of what was taken, nu rows of numbers are there. -/
structure BPart (T : Tag → Prop) (B : Nat) (w : World) (q : Nat) (d : WD) (ne nt nu : Nat) (F : Nat → Prop) (own : Nat → Tag) (v : WV) : Prop where
  hq : ¬ T .q → F q ∧ B ≤ q ∧ own q = .q ∧ w.heap[q]? = some (.cells (wcells d v).toArray 31 (0, 0))
  vb : v.vb = nilS
  ends : ¬ T .re → w.ownsRow B 53 1 v.ve ne (ptrs ne v.ea) ∧ ∀ k, v.ve.ownBlock = some k → F k ∧ own k = .re
  took : ¬ T .rt → w.ownsRow B 92 1 v.vt nt (rowsN nt d.hosts v.tb) ∧ ∀ k, v.vt.ownBlock = some k → F k ∧ own k = .rt
  tr : ∀ a, a < nt → ¬ T (.tr a) → F (v.tb a) ∧ B ≤ v.tb a ∧ own (v.tb a) = .tr a ∧ w.heap[v.tb a]? = some (.cells (vals d.hosts (fun _ => nilS)).toArray 85 (0, 0))
  up : ¬ T .ru → w.ownsRow B 75 1 v.vu nu (rowsN nu d.hosts v.ub) ∧ ∀ k, v.vu.ownBlock = some k → F k ∧ own k = .ru
  ur : ∀ a, a < nu → ¬ T (.ur a) → F (v.ub a) ∧ B ≤ v.ub a ∧ own (v.ub a) = .ur a ∧ w.heap[v.ub a]? = some (.cells (nums d.hosts (fun _ => 0)).toArray 3 (0, 0))
  en : ∀ a, a < ne → ¬ T (.en a) → EndAt B w (v.ea a) (d.endD a) (fun b => F b ∧ own b = .en a)

abbrev BX (B : Nat) (w : World) (q : Nat) (d : WD) (ne nt nu : Nat) (F : Nat → Prop) (own : Nat → Tag) (v : WV) : Prop := BPart (fun _ => False) B w q d ne nt nu F own v

theorem BPart.frame {T T' : Tag → Prop} {B : Nat} {w w' : World} {q : Nat} {d : WD} {ne nt nu : Nat} {F F' : Nat → Prop} {own own' : Nat → Tag} {v : WV} (h : BPart T B w q d ne nt nu F own v) {S : Nat → Prop} (hf : Fr S w w') (hS : Free B w S)
    (hT : ∀ k, F k → S k → T' (own k)) (hF : ∀ k, F k → F' k ∧ own' k = own k) : BPart (fun t => T t ∨ T' t) B w' q d ne nt nu F' own' v := by
  have keep : ∀ {k : Nat} {t : Tag}, F k → own k = t → ¬ (T t ∨ T' t) → ¬ S k := fun hk ho hn hs => hn (.inr (ho ▸ hT _ hk hs))
  have tag : ∀ {k : Nat} {t : Tag}, F k → own k = t → F' k ∧ own' k = t := fun hk ho => ⟨(hF _ hk).1, by rw [(hF _ hk).2]; exact ho⟩
  have hb : ∀ {k : Nat} {o : Obj}, w.heap[k]? = some o → ¬ S k → w'.heap[k]? = some o := fun h1 h2 => by rw [hf.block _ (Array.getElem?_eq_some_iff.1 h1).1 h2]; exact h1
  refine ⟨fun hn => ?_, h.vb, fun hn => ?_, fun hn => ?_, fun a ha hn => ?_, fun hn => ?_, fun a ha hn => ?_, fun a ha hn => ?_⟩
  · obtain ⟨h1, h2, h3, h4⟩ := h.hq (fun h => hn (.inl h))
    exact ⟨(tag h1 h3).1, h2, (tag h1 h3).2, hb h4 (keep h1 h3 hn)⟩
  · obtain ⟨h1, h2⟩ := h.ends (fun h => hn (.inl h))
    exact ⟨owns_fr h1 hf (fun k hk => keep (h2 k hk).1 (h2 k hk).2 hn), fun k hk => tag (h2 k hk).1 (h2 k hk).2⟩
  · obtain ⟨h1, h2⟩ := h.took (fun h => hn (.inl h))
    exact ⟨owns_fr h1 hf (fun k hk => keep (h2 k hk).1 (h2 k hk).2 hn), fun k hk => tag (h2 k hk).1 (h2 k hk).2⟩
  · obtain ⟨h1, h2, h3, h4⟩ := h.tr a ha (fun h => hn (.inl h))
    exact ⟨(tag h1 h3).1, h2, (tag h1 h3).2, hb h4 (keep h1 h3 hn)⟩
  · obtain ⟨h1, h2⟩ := h.up (fun h => hn (.inl h))
    exact ⟨owns_fr h1 hf (fun k hk => keep (h2 k hk).1 (h2 k hk).2 hn), fun k hk => tag (h2 k hk).1 (h2 k hk).2⟩
  · obtain ⟨h1, h2, h3, h4⟩ := h.ur a ha (fun h => hn (.inl h))
    exact ⟨(tag h1 h3).1, h2, (tag h1 h3).2, hb h4 (keep h1 h3 hn)⟩
  · have h1 := h.en a ha (fun h => hn (.inl h))
    exact (h1.fr hf hS (fun k hk => keep hk.1 hk.2 hn)).mono fun k hk => tag hk.1 hk.2

theorem BX.fr0 {B : Nat} {w w' : World} {q : Nat} {d : WD} {ne nt nu : Nat} {F : Nat → Prop} {own : Nat → Tag} {v : WV} (h : BX B w q d ne nt nu F own v) (hf : Fr No w w') : BX B w' q d ne nt nu F own v := by
  have hp := h.frame (T' := fun _ => False) (F' := F) (own' := own) hf FreeT.no (fun _ _ hs => hs.elim) (fun k hk => ⟨hk, rfl⟩)
  have no : ∀ t : Tag, ¬ (False ∨ False) := fun _ h => h.elim id id
  exact ⟨fun _ => hp.hq (no .q), hp.vb, fun _ => hp.ends (no .q), fun _ => hp.took (no .q), fun a ha _ => hp.tr a ha (no .q), fun _ => hp.up (no .q), fun a ha _ => hp.ur a ha (no .q), fun a ha _ => hp.en a ha (no .q)⟩

theorem BX.cells {B : Nat} {w : World} {q : Nat} {d : WD} {ne nt nu : Nat} {F : Nat → Prop} {own : Nat → Tag} {v : WV} (h : BX B w q d ne nt nu F own v) :
    q < w.heap.size ∧ (w.cell? ⟨q, 2, none⟩ = some v.ve ∧ w.cell? ⟨q, 4, none⟩ = some v.vt ∧ w.cell? ⟨q, 5, none⟩ = some v.vu) ∧ ∀ o, w.frozen? ⟨q, o, none⟩ = false := by
  obtain ⟨_, _, _, hh⟩ := h.hq (fun h => h)
  have hc := fun j u (hj : (wcells d v)[j]? = some u) => (show w.cell? ⟨q, j, none⟩ = some u by rw [cell_of_row _ _ j _ _ _ hh]; simpa using hj)
  exact ⟨(Array.getElem?_eq_some_iff.1 hh).1, ⟨hc 2 _ rfl, hc 4 _ rfl, hc 5 _ rfl⟩, fun o => by simp [World.frozen?, hh]⟩

/-- What is common to the three steps. -/
structure BStep (B : Nat) (w w1 w' : World) (q : Nat) (d : WD) (ne nt nu : Nat) (F : Nat → Prop) (own : Nat → Tag) (v : WV) (S G : Nat → Prop) (t t' : Tag) (u : Value) (F' : Nat → Prop) (own' : Nat → Tag) : Prop where
  part : BPart (fun x => x = t ∨ x = .q) B w' q d ne nt nu F' own' v
  q' : F' q ∧ B ≤ q ∧ own' q = .q ∧ q < w.heap.size ∧ w1.heap[q]? = some (.cells (wcells d v).toArray 31 (0, 0))
  fr : Fr F w w'
  reg : Reg B w' F'
  row : ∀ k, u.ownBlock = some k → F' k ∧ own' k = t
  new : ∀ k, G k → F' k ∧ own' k = t'
  gr : Grew F F' w

theorem BX.step {B : Nat} {w w1 w' : World} {q : Nat} {d : WD} {ne nt nu : Nat} {F : Nat → Prop} {own : Nat → Tag} {v : WV} (h : BX B w q d ne nt nu F own v) (hR : Reg B w F) {S G : Nat → Prop} {t t' : Tag} (htq : t ≠ .q) {u : Value} {off : Nat}
    (hf : Fr S w w1) (hS : ∀ k, S k → F k ∧ own k = t) (hw' : w' = w1.setCell ⟨q, off, none⟩ u)
    (hu : ∀ k, u.ownBlock = some k → ((F k ∧ own k = t) ∨ (w.heap.size ≤ k ∧ ¬ G k)) ∧ B ≤ k ∧ ∃ ty, typ w1 k = some ty ∧ ty ∉ ([5, 119, 121] : List Nat)) (hG : ∀ k, G k → w.heap.size ≤ k ∧ B ≤ k ∧ (∃ ty, typ w1 k = some ty ∧ ty ∉ ([5, 119, 121] : List Nat)) ∧ u.ownBlock ≠ some k) :
    ∃ F' own', BStep B w w1 w' q d ne nt nu F own v S G t t' u F' own' := by
  obtain ⟨hq1, hq2, hq3, hq4⟩ := h.hq (fun h => h)
  have hqlt := (Array.getElem?_eq_some_iff.1 hq4).1
  have hqS : ¬ S q := fun e => by have := (hS q e).2; rw [hq3] at this; exact htq this.symm
  have hh1 : w1.heap[q]? = some (.cells (wcells d v).toArray 31 (0, 0)) := by rw [hf.block q hqlt hqS]; exact hq4
  have hf2 : Fr (One q) w1 w' := by rw [hw']; exact Fr.setCell0 w1 ⟨q, off, none⟩ u
  have hfS : Fr (fun k => S k ∨ k = q) w w' := (hf.mono (fun _ _ h => .inl h)).trans' hf2 (fun _ _ e => .inr e)
  have hfF : Fr F w w' := hfS.mono (fun k _ hk => hk.elim (fun h => (hS k h).1) (fun e => by rw [e]; exact hq1))
  have hfree : Free B w (fun k => S k ∨ k = q) := fun k hk => hR.free k (hk.elim (fun h => (hS k h).1) (fun e => by rw [e]; exact hq1))
  have hlt : ∀ k, F k → k < w.heap.size := hR.lt
  classical
  refine ⟨fun k => F k ∨ u.ownBlock = some k ∨ G k, fun k => if k < w.heap.size then own k else if u.ownBlock = some k then t else t', ⟨?_, ⟨.inl hq1, hq2, by rw [if_pos hqlt]; exact hq3, hqlt, hh1⟩, hfF, ?_, ?_, ?_, ?_⟩⟩
  · refine ⟨fun hn => absurd (.inr rfl) hn, h.vb, ?_, ?_, ?_, ?_, ?_, ?_⟩
    all_goals
      have hp := h.frame (T' := fun x => x = t ∨ x = .q) (F' := fun k => F k ∨ u.ownBlock = some k ∨ G k) (own' := fun k => if k < w.heap.size then own k else if u.ownBlock = some k then t else t') hfS hfree
        (fun k hk hs => hs.elim (fun h => .inl (hS k h).2) (fun e => .inr (by rw [e]; exact hq3))) (fun k hk => ⟨.inl hk, by rw [if_pos (hlt k hk)]⟩)
    · exact fun hn => hp.ends (fun e => e.elim id hn)
    · exact fun hn => hp.took (fun e => e.elim id hn)
    · exact fun a ha hn => hp.tr a ha (fun e => e.elim id hn)
    · exact fun hn => hp.up (fun e => e.elim id hn)
    · exact fun a ha hn => hp.ur a ha (fun e => e.elim id hn)
    · exact fun a ha hn => hp.en a ha (fun e => e.elim id hn)
  · rintro k (hk | hk | hk)
    · exact hR.fr hfF k hk
    · obtain ⟨_, h1, ty, h2, h3⟩ := hu k hk
      exact ⟨h1, ty, hf2.ty _ _ h2, h3⟩
    · obtain ⟨_, h1, ⟨ty, h2, h3⟩, _⟩ := hG k hk
      exact ⟨h1, ty, hf2.ty _ _ h2, h3⟩
  · intro k hk
    refine ⟨.inr (.inl hk), ?_⟩
    rcases (hu k hk).1 with h1 | h1
    · rw [if_pos (hlt k h1.1)]; exact h1.2
    · rw [if_neg (by omega), if_pos hk]
  · intro k hk
    obtain ⟨h1, _, _, h4⟩ := hG k hk
    exact ⟨.inr (.inr hk), by rw [if_neg (by omega), if_neg h4]⟩
  · rintro k (hk | hk | hk)
    · exact .inl hk
    · rcases (hu k hk).1 with h1 | h1
      · exact .inl h1.1
      · exact .inr h1.1
    · exact .inr (hG k hk).1
end Go.Proofs.Ytplgmcpglbpghaa

/- begun: the three steps of a round. -/
namespace Go.Proofs.Ytplgmcpglbpghaa
open Go.RowKit

theorem zeros_one {v : Value} (h : v.cells.toList = [v]) : ∀ n, zeros v n = List.replicate n v
  | 0 => rfl
  | n + 1 => by
    have ih := zeros_one h n
    unfold zeros at *
    rw [List.replicate_succ, List.flatten_cons, ih, h, List.replicate_succ]; rfl
theorem zeros_nil (n : Nat) : zeros nilS n = vals n (fun _ => nilS) := by
  rw [zeros_one rfl]
  apply List.ext_getElem <;> simp [vals]
theorem zeros_int (n : Nat) : zeros (.int .i64 0) n = nums n (fun _ => 0) := by
  rw [zeros_one rfl]
  apply List.ext_getElem <;> simp [nums]

theorem ptrs_snoc (n : Nat) (f : Nat → Nat) (m : Nat) : ptrs n f ++ [.pointer (some ⟨m, 0, none⟩)] = ptrs (n + 1) (fun x => if x = n then m else f x) := by
  unfold ptrs
  rw [List.range_succ, List.map_append]
  simp only [List.map_cons, List.map_nil, if_true]
  congr 1
  refine List.map_congr_left fun x hx => ?_
  have : x < n := by simpa using hx
  rw [if_neg (by omega)]
theorem rowsN_snoc (n l : Nat) (f : Nat → Nat) (m : Nat) : rowsN n l f ++ [.slice (some ⟨m, 0, none⟩) l l] = rowsN (n + 1) l (fun x => if x = n then m else f x) := by
  unfold rowsN
  rw [List.range_succ, List.map_append]
  simp only [List.map_cons, List.map_nil, if_true]
  congr 1
  refine List.map_congr_left fun x hx => ?_
  have : x < n := by simpa using hx
  rw [if_neg (by omega)]

def BPost (B : Nat) (w : World) (q : Nat) (d : WD) (ne nt nu : Nat) (F : Nat → Prop) (w' : World) : Prop := ∃ F' own' v', BX B w' q d ne nt nu F' own' v' ∧ Reg B w' F' ∧ Fr F w w' ∧ Grew F F' w

theorem row_typ {base : Nat} {w : World} {v : Value} {e : TypeId} {n : Nat} {xs : List Value} (h : w.ownsRow base e 1 v n xs) (he : e ∉ ([5, 119, 121] : List Nat)) : ∀ k, v.ownBlock = some k → base ≤ k ∧ ∃ ty, typ w k = some ty ∧ ty ∉ ([5, 119, 121] : List Nat) := fun k hk => ⟨(owns_typ h hk).2, e, (owns_typ h hk).1, he⟩

theorem BX.stepEnd {B : Nat} {w w3 w' : World} {q : Nat} {d : WD} {n nt nu : Nat} {F : Nat → Prop} {own : Nat → Tag} {v : WV} (h : BX B w q d n nt nu F own v) (hR : Reg B w F) (hB : B ≤ w.heap.size) {u : Value} {na : Nat} {G : Nat → Prop}
    (hf : Fr (fun k => v.ve.ownBlock = some k) w w3) (hu : w3.ownsRow B 53 1 u (n + 1) (ptrs n v.ea ++ [.pointer (some ⟨na, 0, none⟩)])) (hat : ∀ k, u.ownBlock = some k → v.ve.ownBlock = some k ∨ (w.heap.size ≤ k ∧ ¬ G k))
    (hE : EndAt B w3 na (d.endD n) G) (hG : Reg B w3 G) (hGb : ∀ k, G k → w.heap.size ≤ k) (hw' : w' = w3.setCell ⟨q, 2, none⟩ u) : BPost B w q d (n + 1) nt nu F w' := by
  have hown := (h.ends (fun h => h)).2
  have huG : ∀ k, G k → u.ownBlock ≠ some k := fun k hk e => by
    rcases hat k e with h1 | h1
    · have := hR.lt k (hown k h1).1; have := hGb k hk; omega
    · exact h1.2 hk
  obtain ⟨F', own', hs⟩ := h.step hR (t := .re) (t' := .en n) (by intro e; cases e) (G := G) hf hown hw'
    (fun k hk => ⟨(hat k hk).imp (hown k) id, row_typ hu (by decide) k hk⟩) (fun k hk => ⟨hGb k hk, (hG k hk).1, (hG k hk).2, huG k hk⟩)
  obtain ⟨q1, q2, q3, q4, q5⟩ := hs.q'
  have hf2 : Fr (One q) w3 w' := by rw [hw']; exact Fr.setCell0 w3 ⟨q, 2, none⟩ u
  have hfree : Free B w3 (One q) := FreeT.one q2 (typ_of_heap q5) (by decide)
  have hp := hs.part
  refine ⟨F', own', { v with ve := u, ea := fun x => if x = n then na else v.ea x }, ⟨fun _ => ⟨q1, q2, q3, by rw [hw', heap_set q5]; rfl⟩, h.vb, fun _ => ⟨?_, hs.row⟩, fun _ => hp.took (by rintro (h | h) <;> cases h), fun a ha _ => hp.tr a ha (by rintro (h | h) <;> cases h), fun _ => hp.up (by rintro (h | h) <;> cases h), fun a ha _ => hp.ur a ha (by rintro (h | h) <;> cases h), fun a ha _ => ?_⟩, hs.reg, hs.fr, hs.gr⟩
  · rw [← ptrs_snoc]
    exact owns_fr hu hf2 (fun k hk e => by have := (owns_typ hu hk).1; rw [show k = q from e, typ_of_heap q5] at this; exact absurd this (by decide))
  · show EndAt B w' (if a = n then na else v.ea a) (d.endD a) _
    by_cases han : a = n
    · subst han
      rw [if_pos rfl]
      exact (hE.fr hf2 hfree (fun k hk e => by unfold One at e; have := hGb k hk; omega)).mono hs.new
    · rw [if_neg han]
      exact hp.en a (by omega) (by rintro (h | h) <;> cases h)

theorem BX.stepTook {B : Nat} {w w3 w' : World} {q : Nat} {d : WD} {ne n nu : Nat} {F : Nat → Prop} {own : Nat → Tag} {v : WV} (h : BX B w q d ne n nu F own v) (hR : Reg B w F) {u : Value} {nb : Nat} (hBn : B ≤ nb)
    (hf : Fr (fun k => v.vt.ownBlock = some k) w w3) (hu : w3.ownsRow B 92 1 u (n + 1) (rowsN n d.hosts v.tb ++ [.slice (some ⟨nb, 0, none⟩) d.hosts d.hosts])) (hat : ∀ k, u.ownBlock = some k → v.vt.ownBlock = some k ∨ (w.heap.size ≤ k ∧ k ≠ nb))
    (hE : w3.heap[nb]? = some (.cells (vals d.hosts (fun _ => nilS)).toArray 85 (0, 0))) (hGb : w.heap.size ≤ nb) (hw' : w' = w3.setCell ⟨q, 4, none⟩ u) : BPost B w q d ne (n + 1) nu F w' := by
  have hown := (h.took (fun h => h)).2
  obtain ⟨F', own', hs⟩ := h.step hR (t := .rt) (t' := .tr n) (by intro e; cases e) (G := One nb) hf hown hw'
    (fun k hk => ⟨(hat k hk).imp (hown k) (fun h => ⟨h.1, h.2⟩), row_typ hu (by decide) k hk⟩) (fun k hk => by
      rw [show k = nb from hk]
      exact ⟨hGb, hBn, ⟨_, typ_of_heap hE, by decide⟩, fun e => by
        rcases hat nb e with h1 | h1
        · have := hR.lt _ (hown _ h1).1; omega
        · exact h1.2 rfl⟩)
  obtain ⟨q1, q2, q3, q4, q5⟩ := hs.q'
  have hf2 : Fr (One q) w3 w' := by rw [hw']; exact Fr.setCell0 w3 ⟨q, 4, none⟩ u
  have hp := hs.part
  refine ⟨F', own', { v with vt := u, tb := fun x => if x = n then nb else v.tb x }, ⟨fun _ => ⟨q1, q2, q3, by rw [hw', heap_set q5]; rfl⟩, h.vb, fun _ => hp.ends (by rintro (h | h) <;> cases h), fun _ => ⟨?_, hs.row⟩, fun a ha _ => ?_, fun _ => hp.up (by rintro (h | h) <;> cases h), fun a ha _ => hp.ur a ha (by rintro (h | h) <;> cases h), fun a ha _ => hp.en a ha (by rintro (h | h) <;> cases h)⟩, hs.reg, hs.fr, hs.gr⟩
  · rw [← rowsN_snoc]
    exact owns_fr hu hf2 (fun k hk e => by have := (owns_typ hu hk).1; rw [show k = q from e, typ_of_heap q5] at this; exact absurd this (by decide))
  · show F' (if a = n then nb else v.tb a) ∧ B ≤ (if a = n then nb else v.tb a) ∧ own' (if a = n then nb else v.tb a) = .tr a ∧ w'.heap[if a = n then nb else v.tb a]? = _
    by_cases han : a = n
    · subst han
      rw [if_pos rfl]
      exact ⟨(hs.new nb rfl).1, hBn, (hs.new nb rfl).2, by rw [hf2.block _ (Array.getElem?_eq_some_iff.1 hE).1 (fun e => by unfold One at e; omega)]; exact hE⟩
    · rw [if_neg han]
      exact hp.tr a (by omega) (by rintro (h | h) <;> cases h)

theorem BX.stepUp {B : Nat} {w w3 w' : World} {q : Nat} {d : WD} {ne nt n : Nat} {F : Nat → Prop} {own : Nat → Tag} {v : WV} (h : BX B w q d ne nt n F own v) (hR : Reg B w F) {u : Value} {nb : Nat} (hBn : B ≤ nb)
    (hf : Fr (fun k => v.vu.ownBlock = some k) w w3) (hu : w3.ownsRow B 75 1 u (n + 1) (rowsN n d.hosts v.ub ++ [.slice (some ⟨nb, 0, none⟩) d.hosts d.hosts])) (hat : ∀ k, u.ownBlock = some k → v.vu.ownBlock = some k ∨ (w.heap.size ≤ k ∧ k ≠ nb))
    (hE : w3.heap[nb]? = some (.cells (nums d.hosts (fun _ => 0)).toArray 3 (0, 0))) (hGb : w.heap.size ≤ nb) (hw' : w' = w3.setCell ⟨q, 5, none⟩ u) : BPost B w q d ne nt (n + 1) F w' := by
  have hown := (h.up (fun h => h)).2
  obtain ⟨F', own', hs⟩ := h.step hR (t := .ru) (t' := .ur n) (by intro e; cases e) (G := One nb) hf hown hw'
    (fun k hk => ⟨(hat k hk).imp (hown k) (fun h => ⟨h.1, h.2⟩), row_typ hu (by decide) k hk⟩) (fun k hk => by
      rw [show k = nb from hk]
      exact ⟨hGb, hBn, ⟨_, typ_of_heap hE, by decide⟩, fun e => by
        rcases hat nb e with h1 | h1
        · have := hR.lt _ (hown _ h1).1; omega
        · exact h1.2 rfl⟩)
  obtain ⟨q1, q2, q3, q4, q5⟩ := hs.q'
  have hf2 : Fr (One q) w3 w' := by rw [hw']; exact Fr.setCell0 w3 ⟨q, 5, none⟩ u
  have hp := hs.part
  refine ⟨F', own', { v with vu := u, ub := fun x => if x = n then nb else v.ub x }, ⟨fun _ => ⟨q1, q2, q3, by rw [hw', heap_set q5]; rfl⟩, h.vb, fun _ => hp.ends (by rintro (h | h) <;> cases h), fun _ => hp.took (by rintro (h | h) <;> cases h), fun a ha _ => hp.tr a ha (by rintro (h | h) <;> cases h), fun _ => ⟨?_, hs.row⟩, fun a ha _ => ?_, fun a ha _ => hp.en a ha (by rintro (h | h) <;> cases h)⟩, hs.reg, hs.fr, hs.gr⟩
  · rw [← rowsN_snoc]
    exact owns_fr hu hf2 (fun k hk e => by have := (owns_typ hu hk).1; rw [show k = q from e, typ_of_heap q5] at this; exact absurd this (by decide))
  · show F' (if a = n then nb else v.ub a) ∧ B ≤ (if a = n then nb else v.ub a) ∧ own' (if a = n then nb else v.ub a) = .ur a ∧ w'.heap[if a = n then nb else v.ub a]? = _
    by_cases han : a = n
    · subst han
      rw [if_pos rfl]
      exact ⟨(hs.new nb rfl).1, hBn, (hs.new nb rfl).2, by rw [hf2.block _ (Array.getElem?_eq_some_iff.1 hE).1 (fun e => by unfold One at e; omega)]; exact hE⟩
    · rw [if_neg han]
      exact hp.ur a (by omega) (by rintro (h | h) <;> cases h)

/-- The world at its beginning. -/
def WD.begin (hosts queue window : Nat) : WD := { hosts := hosts, queue := queue, window := window, ps := fun _ b => newPeer b queue window, bag := [], took := fun _ _ => [], up := fun _ _ => 0 }
theorem WD.begin_endD (hosts queue window a : Nat) : (WD.begin hosts queue window).endD a = newEnd a hosts queue window := rfl
theorem BX.done {B : Nat} {w : World} {q : Nat} {hosts queue window : Nat} {F : Nat → Prop} {own : Nat → Tag} {v : WV} (h : BX B w q (WD.begin hosts queue window) hosts hosts hosts F own v) : WorldX B w q (WD.begin hosts queue window) F own { v with tv := fun _ _ => nilS } :=
  ⟨fun _ => h.hq (fun h => h), fun _ => h.ends (fun h => h), fun _ => ⟨by rw [show ({ v with tv := fun _ _ => nilS } : WV).vb = nilS from h.vb]; exact OwnL.nil _ _ _ _ _ _ _, fun k hk => by rw [show ({ v with tv := fun _ _ => nilS } : WV).vb = nilS from h.vb] at hk; cases hk⟩, fun _ => h.took (fun h => h), fun a ha _ => h.tr a ha (fun h => h), fun a b ha hb _ => ⟨OwnL.nil _ _ _ _ _ _ _, fun k hk => by cases hk⟩, fun _ => h.up (fun h => h), fun a ha _ => h.ur a ha (fun h => h), fun a ha _ => h.en a ha (fun h => h)⟩

theorem WD.begin_ok {hosts queue window : Nat} (h1 : 1 ≤ hosts) (h2 : hosts ≤ 16) (h3 : 1 ≤ queue) (h4 : queue ≤ 16) (h5 : 1 ≤ window) (h6 : window ≤ queue) : (WD.begin hosts queue window).Ok :=
  ⟨h1, h2, h3, h4, h5, h6, fun a b ha hb _ => ⟨newPeer_ok (by have : b < hosts := hb; omega) h3 h4 h5 h6, rfl, rfl, rfl⟩,
   fun a b _ _ _ => ⟨⟨rfl, Nat.le_refl _, Nat.le_refl _, rfl, fun f hf => by simp [WD.begin, newPeer] at hf, fun i hi => by simp [WD.begin, newPeer] at hi, fun l hl => by simp [WD.begin] at hl, rfl⟩, rfl⟩,
   fun x hx => by simp [WD.begin] at hx⟩
end Go.Proofs.Ytplgmcpglbpghaa
