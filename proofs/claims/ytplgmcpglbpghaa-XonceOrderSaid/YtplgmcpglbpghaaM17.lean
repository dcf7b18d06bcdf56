/- Part 17 of the proof: Yworld, Yw1. -/
import Derived.Test.YtplgmcpglbpghaaM16
set_option linter.all false
set_option linter.unusedVariables false
set_option linter.unusedSimpArgs false

/- All ends of a cluster and what is on the way, as plain data. -/
namespace Go.Proofs.Ytplgmcpglbpghaa

structure MailD where
  src : Nat
  out : OutD

structure WD where
  hosts : Nat
  queue : Nat
  window : Nat
  ps : Nat → Nat → PeerD
  bag : List MailD
  took : Nat → Nat → List (List Int)
  up : Nat → Nat → Nat

def upd {α : Type} (f : Nat → Nat → α) (a b : Nat) (v : α) : Nat → Nat → α := fun x y => if x = a ∧ y = b then v else f x y
theorem upd_same {α : Type} (f : Nat → Nat → α) (a b : Nat) (v : α) : upd f a b v a b = v := by simp [upd]
theorem upd_ne {α : Type} (f : Nat → Nat → α) (a b : Nat) (v : α) {x y : Nat} (h : ¬ (x = a ∧ y = b)) : upd f a b v x y = f x y := by simp [upd, h]

/-- A Data from src to b. -/
def DataOk (w : WD) (s b : Nat) (o : OutD) : Prop := o.kind = 10 ∧ o.mask = 0 ∧ DataIn (w.ps s b) (w.took s b) o.seq o.payload
def AckOk (w : WD) (s b : Nat) (o : OutD) : Prop := o.kind = 11 ∧ o.payload = [] ∧ AckIn (w.ps s b) o.seq o.mask
def MailOk (w : WD) (x : MailD) : Prop := x.src < w.hosts ∧ ∃ b, b < w.hosts ∧ b ≠ x.src ∧ x.out.to = (b : Int) ∧ (DataOk w x.src b x.out ∨ AckOk w x.src b x.out)

structure WD.Ok (w : WD) : Prop where
  h1 : 1 ≤ w.hosts
  h16 : w.hosts ≤ 16
  q1 : 1 ≤ w.queue
  q16 : w.queue ≤ 16
  w1 : 1 ≤ w.window
  wq : w.window ≤ w.queue
  peer : ∀ a b, a < w.hosts → b < w.hosts → a ≠ b → (w.ps a b).Ok ∧ (w.ps a b).to = (b : Int) ∧ (w.ps a b).room = w.queue ∧ (w.ps a b).window = w.window
  pair : ∀ a b, a < w.hosts → b < w.hosts → a ≠ b → Pair (w.ps a b) (w.ps b a) (w.took a b) ∧ w.up a b = (w.ps b a).deliv
  bag : ∀ x ∈ w.bag, MailOk w x

theorem DataOk.ofData {w : WD} (h : w.Ok) {a b i : Nat} (ha : a < w.hosts) (hb : b < w.hosts) (hab : a ≠ b) (hi : i < min (w.ps a b).queue.length (w.ps a b).window) : MailOk w ⟨a, (w.ps a b).data i⟩ := by
  obtain ⟨h1, h2, h3, h4⟩ := h.peer a b ha hb hab
  exact ⟨ha, b, hb, Ne.symm hab, h2, .inl ⟨rfl, rfl, (h.pair a b ha hb hab).1.dataIn h1 hi⟩⟩
theorem AckOk.ofAck {w : WD} (h : w.Ok) {a b : Nat} (ha : a < w.hosts) (hb : b < w.hosts) (hab : a ≠ b) : MailOk w ⟨a, (w.ps a b).ack⟩ := by
  obtain ⟨h1, h2, h3, h4⟩ := h.peer a b ha hb hab
  exact ⟨ha, b, hb, Ne.symm hab, h2, .inr ⟨rfl, rfl, ack_in h1⟩⟩

/-- One peer turns, and nothing goes back. -/
theorem MailOk.mono {w w' : WD} {x : MailD} (h : MailOk w x) (hh : w'.hosts = w.hosts) (hp : ∀ a b, Mono (w.ps a b) (w'.ps a b)) (ht : ∀ a b (i : Nat) l, (w.took a b)[i]? = some l → (w'.took a b)[i]? = some l) : MailOk w' x := by
  obtain ⟨h1, b, h2, h3, h4, h5⟩ := h
  refine ⟨by rw [hh]; exact h1, b, by rw [hh]; exact h2, h3, h4, ?_⟩
  rcases h5 with ⟨k, m, h5⟩ | ⟨k, m, h5⟩
  · exact .inl ⟨k, m, h5.mono (hp _ _) (ht _ _)⟩
  · exact .inr ⟨k, m, h5.mono (hp _ _)⟩

theorem upd_mono {f : Nat → Nat → PeerD} {a b : Nat} {p : PeerD} (h : Mono (f a b) p) : ∀ x y, Mono (f x y) (upd f a b p x y) := fun x y => by
  by_cases e : x = a ∧ y = b
  · obtain ⟨rfl, rfl⟩ := e
    rw [upd_same]; exact h
  · rw [upd_ne _ _ _ _ e]; exact Mono.refl _

/-- A peer takes another's half: the pair's law at the sender's and at the receiver's side. -/
theorem WD.Ok.step {w : WD} (h : w.Ok) {a b : Nat} (ha : a < w.hosts) (hb : b < w.hosts) (hab : a ≠ b) {p : PeerD} (hp : p.Ok) (hm : Mono (w.ps a b) p) {tk : List (List Int)} {n : Nat}
    (hT : ∀ (i : Nat) l, (w.took a b)[i]? = some l → tk[i]? = some l)
    (h1 : Pair p (w.ps b a) tk) (h2 : Pair (w.ps b a) p (w.took b a)) (hn : n = p.deliv) {bag : List MailD}
    (hbag : ∀ x ∈ bag, MailOk { w with ps := upd w.ps a b p, took := upd w.took a b tk, up := upd w.up b a n } x) :
    WD.Ok { w with ps := upd w.ps a b p, took := upd w.took a b tk, up := upd w.up b a n, bag := bag } := by
  refine ⟨h.h1, h.h16, h.q1, h.q16, h.w1, h.wq, ?_, ?_, fun x hx => hbag x hx⟩
  · intro x y hx hy hxy
    have := h.peer x y hx hy hxy
    by_cases e : x = a ∧ y = b
    · obtain ⟨rfl, rfl⟩ := e
      show (upd w.ps x y p x y).Ok ∧ _
      simp only [upd_same]
      exact ⟨hp, by rw [hm.to]; exact this.2.1, by rw [hm.room]; exact this.2.2.1, by rw [hm.window]; exact this.2.2.2⟩
    · show (upd w.ps a b p x y).Ok ∧ _
      simp only [upd_ne _ _ _ _ e]
      exact this
  · intro x y hx hy hxy
    have := h.pair x y hx hy hxy
    show Pair (upd w.ps a b p x y) (upd w.ps a b p y x) (upd w.took a b tk x y) ∧ upd w.up b a n x y = (upd w.ps a b p y x).deliv
    by_cases e : x = a ∧ y = b
    · obtain ⟨rfl, rfl⟩ := e
      have e2 : ¬ (y = x ∧ x = y) := fun e => hab e.2
      rw [upd_same, upd_same, upd_ne _ _ _ _ e2, upd_ne _ _ _ _ (fun e => hab e.1)]
      exact ⟨h1, this.2⟩
    · by_cases e' : x = b ∧ y = a
      · obtain ⟨rfl, rfl⟩ := e'
        rw [upd_ne _ _ _ _ e, upd_same, upd_ne _ _ _ _ e, upd_same]
        exact ⟨h2, hn⟩
      · have e2 : ¬ (y = a ∧ x = b) := fun h => e' ⟨h.2, h.1⟩
        rw [upd_ne _ _ _ _ e, upd_ne _ _ _ _ e2, upd_ne _ _ _ _ e, upd_ne _ _ _ _ e']
        exact this

def mailsOf (a : Nat) (l : List OutD) : List MailD := l.map fun o => ⟨a, o⟩

/-- Send. -/
def WD.send (w : WD) (a b : Nat) (l : List Int) : WD :=
  if l.length < 1 ∨ 3072 < l.length then w
  else
    let r := (w.ps a b).push l
    if r.2.2 = 0 then { w with ps := upd w.ps a b r.1, took := upd w.took a b (w.took a b ++ [l]), bag := w.bag ++ mailsOf a r.2.1 } else w

theorem WD.Ok.send {w : WD} (h : w.Ok) {a b : Nat} (ha : a < w.hosts) (hb : b < w.hosts) (hab : a ≠ b) (l : List Int) : (w.send a b l).Ok := by
  unfold WD.send
  split
  · exact h
  · rename_i hl
    have hl : 1 ≤ l.length ∧ l.length ≤ 3072 := by omega
    dsimp only
    split
    · rename_i he
      obtain ⟨k1, k2, k3, k4⟩ := h.peer a b ha hb hab
      have hP := (h.pair a b ha hb hab)
      have hR := (h.pair b a hb ha (Ne.symm hab))
      obtain ⟨m1, m2, m3, m4⟩ := hP.1.pushed k1 hl he
      have hok := PeerD.push_ok k1 hl
      have hT : ∀ (i : Nat) x, (w.took a b)[i]? = some x → (w.took a b ++ [l])[i]? = some x := fun i x hx => by
        rw [List.getElem?_append_left (List.getElem?_eq_some_iff.1 hx).1]; exact hx
      have hup : upd w.up b a (w.up b a) = w.up := by
        funext x y
        by_cases e : x = b ∧ y = a
        · obtain ⟨rfl, rfl⟩ := e; rw [upd_same]
        · rw [upd_ne _ _ _ _ e]
      have hR2 : Pair (w.ps b a) ((w.ps a b).push l).1 (w.took b a) := hR.1.recv m1 (by rw [m2.2.1]; exact hR.1.del) (by rw [m2.2.2.1]; exact hR.1.early)
      have key : ∀ bag, (∀ x ∈ bag, MailOk { w with ps := upd w.ps a b ((w.ps a b).push l).1, took := upd w.took a b (w.took a b ++ [l]) } x) → WD.Ok { w with ps := upd w.ps a b ((w.ps a b).push l).1, took := upd w.took a b (w.took a b ++ [l]), bag := bag } := fun bag hbag => by
        have := h.step ha hb hab hok m1 (tk := w.took a b ++ [l]) (n := w.up b a) hT m3 hR2 (by rw [m2.2.1]; exact hR.2) (bag := bag) (by rw [hup]; exact hbag)
        rw [hup] at this; exact this
      have hold : ∀ x, MailOk w x → MailOk { w with ps := upd w.ps a b ((w.ps a b).push l).1, took := upd w.took a b (w.took a b ++ [l]) } x := fun x hx => hx.mono rfl (upd_mono m1) (fun x y i z hz => by
        show (upd w.took a b _ x y)[i]? = _
        by_cases e : x = a ∧ y = b
        · obtain ⟨rfl, rfl⟩ := e; rw [upd_same]; exact hT i z hz
        · rw [upd_ne _ _ _ _ e]; exact hz)
      refine key _ fun x hx => ?_
      rcases List.mem_append.1 hx with hx | hx
      · exact hold x (h.bag x hx)
      · obtain ⟨o, ho, rfl⟩ := List.mem_map.1 hx
        obtain ⟨i, hi, rfl⟩ := m4 o ho
        have := DataOk.ofData (key w.bag (fun x hx => hold x (h.bag x hx))) ha hb hab (i := i) (by show i < min (upd w.ps a b _ a b).queue.length (upd w.ps a b _ a b).window; rw [upd_same]; exact hi)
        simp only [upd_same] at this
        exact this
    · exact h

/-- A mail comes. -/
def WD.come (w : WD) (x : MailD) : WD :=
  let b := x.out.to.toNat
  if x.out.kind = 10 then
    let r := (w.ps b x.src).come x.out.seq x.out.payload
    { w with ps := upd w.ps b x.src r.1, up := upd w.up x.src b r.1.deliv, bag := w.bag ++ mailsOf b r.2.2.1 }
  else
    let r := (w.ps b x.src).heard x.out.seq x.out.mask
    { w with ps := upd w.ps b x.src r.1, bag := w.bag ++ mailsOf b r.2.1 }

theorem upd_self {α : Type} (f : Nat → Nat → α) (a b : Nat) : upd f a b (f a b) = f := by
  funext x y
  by_cases e : x = a ∧ y = b
  · obtain ⟨rfl, rfl⟩ := e; rw [upd_same]
  · rw [upd_ne _ _ _ _ e]

theorem WD.Ok.come {w : WD} (h : w.Ok) {x : MailD} (hx : MailOk w x) : (w.come x).Ok := by
  obtain ⟨ha, b, hb, hab, hto, hk⟩ := hx
  generalize hsrc : x.src = a at *
  have hbn : x.out.to.toNat = b := by rw [hto]; simp
  unfold WD.come
  simp only [hbn, hsrc]
  obtain ⟨k1, k2, k3, k4⟩ := h.peer b a hb ha hab
  have hP := h.pair a b ha hb (Ne.symm hab)
  have hQ := h.pair b a hb ha hab
  rcases hk with ⟨hk, hm, hd⟩ | ⟨hk, hpl, hak⟩
  · rw [if_pos hk]
    have hs64 : x.out.seq ≤ u64max := by have := (h.peer a b ha hb (Ne.symm hab)).1.sent; have := hd.hi; omega
    obtain ⟨c1, c2⟩ := hP.1.came k1 hd hs64
    have hok := PeerD.come_ok k1 (l := x.out.payload) hs64
    generalize (w.ps b a).come x.out.seq x.out.payload = r at *
    obtain ⟨c3, c4, c5, c6⟩ := c1.same
    have hS : Pair r.1 (w.ps a b) (w.took b a) := ⟨by rw [c3]; exact hQ.1.sent, by rw [c4]; exact hQ.1.ack, by rw [c3]; exact hQ.1.del, by rw [c5, c4]; exact hQ.1.queue, by rw [c3]; exact hQ.1.early, by rw [c6, c4]; exact hQ.1.mask, hQ.1.tb, by rw [c1.mono.window]; exact hQ.1.win⟩
    have key : ∀ bag, (∀ y ∈ bag, MailOk { w with ps := upd w.ps b a r.1, up := upd w.up a b r.1.deliv } y) → WD.Ok { w with ps := upd w.ps b a r.1, up := upd w.up a b r.1.deliv, bag := bag } := fun bag hbag => by
      have := h.step hb ha hab hok c1.mono (tk := w.took b a) (n := r.1.deliv) (fun _ _ h => h) hS c1.pair rfl (bag := bag) (by rw [upd_self]; exact hbag)
      rw [upd_self] at this; exact this
    have hold : ∀ y, MailOk w y → MailOk { w with ps := upd w.ps b a r.1, up := upd w.up a b r.1.deliv } y := fun y hy => hy.mono rfl (upd_mono c1.mono) (fun _ _ _ _ h => h)
    refine key _ fun y hy => ?_
    rcases List.mem_append.1 hy with hy | hy
    · exact hold y (h.bag y hy)
    · obtain ⟨o, ho, rfl⟩ := List.mem_map.1 hy
      rw [c1.mails] at ho
      rw [List.mem_singleton.1 ho]
      have := AckOk.ofAck (key w.bag (fun y hy => hold y (h.bag y hy))) hb ha hab
      simp only [upd_same] at this
      exact this
  · rw [if_neg (by rw [hk]; decide)]
    have c1 := hQ.1.heard k1 hak
    have hok := PeerD.heard_ok k1 (seq := x.out.seq) hak.m64
    generalize (w.ps b a).heard x.out.seq x.out.mask = r at *
    obtain ⟨c3, c4, c5⟩ := c1.same
    have hR : Pair (w.ps a b) r.1 (w.took a b) := hP.1.recv c1.mono (by rw [c4]; exact hP.1.del) (by rw [c5]; exact hP.1.early)
    have key : ∀ bag, (∀ y ∈ bag, MailOk { w with ps := upd w.ps b a r.1 } y) → WD.Ok { w with ps := upd w.ps b a r.1, bag := bag } := fun bag hbag => by
      have := h.step hb ha hab hok c1.mono (tk := w.took b a) (n := w.up a b) (fun _ _ h => h) c1.pair hR (by rw [c4]; exact hP.2) (bag := bag) (by rw [upd_self, upd_self]; exact hbag)
      rw [upd_self, upd_self] at this; exact this
    have hold : ∀ y, MailOk w y → MailOk { w with ps := upd w.ps b a r.1 } y := fun y hy => hy.mono rfl (upd_mono c1.mono) (fun _ _ _ _ h => h)
    refine key _ fun y hy => ?_
    rcases List.mem_append.1 hy with hy | hy
    · exact hold y (h.bag y hy)
    · obtain ⟨o, ho, rfl⟩ := List.mem_map.1 hy
      rw [c1.mails] at ho
      obtain ⟨i, _, hi, rfl⟩ := mem_datas ho
      have := DataOk.ofData (key w.bag (fun y hy => hold y (h.bag y hy))) hb ha hab (i := i) (by
        show i < min (upd w.ps b a _ b a).queue.length (upd w.ps b a _ b a).window
        rw [upd_same]
        split at hi
        · exact hi
        · omega)
      simp only [upd_same] at this
      exact this

/-- What a tick of an end sends. -/
def WD.tickOuts (w : WD) (a : Nat) : List OutD := ((List.range w.hosts).filter (fun h => h != a)).flatMap fun h => (w.ps a h).again
def WD.tick (w : WD) (a : Nat) : WD := { w with bag := w.bag ++ mailsOf a (w.tickOuts a) }

theorem mem_tickOuts {w : WD} {a : Nat} {o : OutD} (h : o ∈ w.tickOuts a) : ∃ b, b < w.hosts ∧ b ≠ a ∧ ∃ i, i < min (w.ps a b).queue.length (w.ps a b).window ∧ (w.ps a b).due i = true ∧ o = (w.ps a b).data i := by
  unfold WD.tickOuts at h
  obtain ⟨b, hb, ho⟩ := List.mem_flatMap.1 h
  obtain ⟨h1, h2⟩ := List.mem_filter.1 hb
  obtain ⟨i, h3, h4, h5⟩ := mem_again ho
  exact ⟨b, by simpa using h1, by simpa using h2, i, h3, h4, h5⟩

theorem WD.Ok.setBag {w : WD} (h : w.Ok) {bag : List MailD} (hb : ∀ x ∈ bag, MailOk w x) : WD.Ok { w with bag := bag } :=
  ⟨h.h1, h.h16, h.q1, h.q16, h.w1, h.wq, h.peer, h.pair, hb⟩

theorem WD.Ok.tick {w : WD} (h : w.Ok) {a : Nat} (ha : a < w.hosts) : (w.tick a).Ok := by
  refine h.setBag fun x hx => ?_
  rcases List.mem_append.1 hx with hx | hx
  · exact h.bag x hx
  · obtain ⟨o, ho, rfl⟩ := List.mem_map.1 hx
    obtain ⟨b, hb, hba, i, hi, _, rfl⟩ := mem_tickOuts ho
    exact DataOk.ofData h ha hb (Ne.symm hba) hi

def WD.out (w : WD) (n : Nat) : WD := { w with bag := w.bag.eraseIdx n }
theorem WD.Ok.out {w : WD} (h : w.Ok) (n : Nat) : (w.out n).Ok := h.setBag fun x hx => h.bag x (List.mem_of_mem_eraseIdx hx)

/-- One act, as the world takes it. -/
structure ActD where
  kind : Int
  a : Int
  b : Int
  n : Int
  keep : Bool
  body : List Int

def aroundD (n : Int) (k : Nat) : Nat := (n % (k : Int)).toNat
theorem aroundD_lt (n : Int) {k : Nat} (h : 0 < k) : aroundD n k < k := by
  unfold aroundD
  have h1 := Int.emod_nonneg n (show (k : Int) ≠ 0 by omega)
  have h2 := Int.emod_lt_of_pos n (show (0 : Int) < k by omega)
  omega

def WD.act (w : WD) (x : ActD) : WD :=
  let a := aroundD x.a w.hosts
  let b := aroundD x.b w.hosts
  if x.kind = 1 then (if a = b then w else w.send a b x.body)
  else if x.kind = 2 ∨ x.kind = 3 then
    match w.bag[aroundD x.n w.bag.length]? with
    | none => w
    | some m =>
      let w1 := if x.kind = 3 ∨ x.keep = false then w.out (aroundD x.n w.bag.length) else w
      if x.kind = 2 then w1.come m else w1
  else if x.kind = 4 then w.tick a
  else w

theorem WD.send_hosts (w : WD) (a b : Nat) (l : List Int) : (w.send a b l).hosts = w.hosts := by
  unfold WD.send; split
  · rfl
  · dsimp only; split <;> rfl
theorem WD.come_hosts (w : WD) (x : MailD) : (w.come x).hosts = w.hosts := by
  unfold WD.come; dsimp only; split <;> rfl

theorem WD.Ok.act {w : WD} (h : w.Ok) (x : ActD) : (w.act x).Ok := by
  have ha := aroundD_lt x.a (show 0 < w.hosts from h.h1)
  have hb := aroundD_lt x.b (show 0 < w.hosts from h.h1)
  unfold WD.act
  dsimp only
  split
  · split
    · exact h
    · rename_i hne; exact h.send ha hb hne _
  · split
    · split
      · exact h
      · rename_i m hm
        have hmo := h.bag m (List.mem_of_getElem? hm)
        have h1 : (if x.kind = 3 ∨ x.keep = false then w.out (aroundD x.n w.bag.length) else w).Ok ∧ MailOk (if x.kind = 3 ∨ x.keep = false then w.out (aroundD x.n w.bag.length) else w) m := by
          split
          · exact ⟨h.out _, hmo⟩
          · exact ⟨h, hmo⟩
        split
        · exact h1.1.come h1.2
        · exact h1.1
    · split
      · exact h.tick ha
      · exact h
end Go.Proofs.Ytplgmcpglbpghaa

/- The law's world in memory: each thing has its own part of F, told by a tag. -/
namespace Go.Proofs.Ytplgmcpglbpghaa
open Go.RowKit

inductive Tag where
  | q | re | rt | ru | bag
  | tr (a : Nat)
  | tk (a b : Nat)
  | ur (a : Nat)
  | en (a : Nat)

def mailCells (x : MailD) (pv : Value) : List Value := .int .i64 x.src :: .int .i64 x.out.to :: msgCells x.out.kind x.out.seq x.out.mask pv
theorem mailCells_len (x : MailD) (v : Value) : (mailCells x v).length = 19 := rfl
theorem mailCells_one (x : MailD) (v : Value) (h : v.oneCell' = true) : ∀ u ∈ mailCells x v, u.oneCell' = true := by
  intro u hu
  simp only [mailCells, msgCells, List.mem_cons, List.not_mem_nil, or_false] at hu
  rcases hu with rfl | rfl | rfl | rfl | rfl | rfl | rfl | rfl | rfl | rfl | rfl | rfl | rfl | rfl | rfl | rfl | rfl | rfl | rfl <;> first | rfl | exact h
abbrev BagOwn (B base : Nat) (w : World) (v : Value) (l : List MailD) : Prop := OwnL mailCells (fun x : MailD => x.out.payload) 47 19 B base w v l
theorem elMails : El 27 47 19 200 := El.mk Try.underlying27 (z := .agg #[.int .i64 0, .int .i64 0, .int .u8 0, .int .u64 0, .int .u64 0, .int .u64 0, nilS, nilS, .bool false, .int .u8 0, .int .u8 0, .int .u8 0, .int .u32 0, .int .u32 0, .int .u64 0, .int .u8 0, nilS, nilS, nilS]) (by kernel_rfl) rfl (by omega)

def WD.endD (d : WD) (a : Nat) : EndD := ⟨a, d.hosts, d.ps a⟩
theorem WD.Ok.endD {d : WD} (h : d.Ok) {a : Nat} (ha : a < d.hosts) : (d.endD a).Ok := ⟨h.h1, h.h16, ha, fun b hb hne => ⟨(h.peer a b ha hb (Ne.symm hne)).1, (h.peer a b ha hb (Ne.symm hne)).2.1⟩⟩

def ptrs (n : Nat) (f : Nat → Nat) : List Value := (List.range n).map fun a => .pointer (some ⟨f a, 0, none⟩)
def rows (n : Nat) (f : Nat → Nat) : List Value := (List.range n).map fun a => .slice (some ⟨f a, 0, none⟩) n n
def vals (n : Nat) (f : Nat → Value) : List Value := (List.range n).map f
def nums (n : Nat) (f : Nat → Nat) : List Value := (List.range n).map fun b => .int .i64 (f b)
theorem ptrs_get {n : Nat} {f : Nat → Nat} {a : Nat} (h : a < n) : (ptrs n f)[a]? = some (.pointer (some ⟨f a, 0, none⟩)) := by simp [ptrs, h]
theorem rows_get {n : Nat} {f : Nat → Nat} {a : Nat} (h : a < n) : (rows n f)[a]? = some (.slice (some ⟨f a, 0, none⟩) n n) := by simp [rows, h]
theorem vals_get {n : Nat} {f : Nat → Value} {a : Nat} (h : a < n) : (vals n f)[a]? = some (f a) := by simp [vals, h]
theorem nums_get {n : Nat} {f : Nat → Nat} {a : Nat} (h : a < n) : (nums n f)[a]? = some (.int .i64 (f a)) := by simp [nums, h]

/-- The values and blocks of a world. -/
structure WV where
  ve : Value
  vb : Value
  vt : Value
  vu : Value
  ea : Nat → Nat
  tb : Nat → Nat
  ub : Nat → Nat
  tv : Nat → Nat → Value

def wcells (d : WD) (v : WV) : List Value := [.int .i64 d.queue, .int .i64 d.window, v.ve, v.vb, v.vt, v.vu, .bool false]

/-- The world d in memory, but for the parts whose tags are in T. -/
structure WPart (T : Tag → Prop) (B : Nat) (w : World) (q : Nat) (d : WD) (F : Nat → Prop) (own : Nat → Tag) (v : WV) : Prop where
  hq : ¬ T .q → F q ∧ B ≤ q ∧ own q = .q ∧ w.heap[q]? = some (.cells (wcells d v).toArray 31 (0, 0))
  ends : ¬ T .re → w.ownsRow B 53 1 v.ve d.hosts (ptrs d.hosts v.ea) ∧ ∀ k, v.ve.ownBlock = some k → F k ∧ own k = .re
  bag : ¬ T .bag → BagOwn B B w v.vb d.bag ∧ ∀ k, v.vb.ownBlock = some k → F k ∧ own k = .bag
  took : ¬ T .rt → w.ownsRow B 92 1 v.vt d.hosts (rows d.hosts v.tb) ∧ ∀ k, v.vt.ownBlock = some k → F k ∧ own k = .rt
  tr : ∀ a, a < d.hosts → ¬ T (.tr a) → F (v.tb a) ∧ B ≤ v.tb a ∧ own (v.tb a) = .tr a ∧ w.heap[v.tb a]? = some (.cells (vals d.hosts (v.tv a)).toArray 85 (0, 0))
  tk : ∀ a b, a < d.hosts → b < d.hosts → ¬ T (.tk a b) → QOwn B B w (v.tv a b) (d.took a b) ∧ ∀ k, (v.tv a b).ownBlock = some k → F k ∧ own k = .tk a b
  up : ¬ T .ru → w.ownsRow B 75 1 v.vu d.hosts (rows d.hosts v.ub) ∧ ∀ k, v.vu.ownBlock = some k → F k ∧ own k = .ru
  ur : ∀ a, a < d.hosts → ¬ T (.ur a) → F (v.ub a) ∧ B ≤ v.ub a ∧ own (v.ub a) = .ur a ∧ w.heap[v.ub a]? = some (.cells (nums d.hosts (d.up a)).toArray 3 (0, 0))
  en : ∀ a, a < d.hosts → ¬ T (.en a) → EndAt B w (v.ea a) (d.endD a) (fun b => F b ∧ own b = .en a)

abbrev WorldX (B : Nat) (w : World) (q : Nat) (d : WD) (F : Nat → Prop) (own : Nat → Tag) (v : WV) : Prop := WPart (fun _ => False) B w q d F own v
/-- Block q is the world d, whose blocks are F. -/
def WorldAt (B : Nat) (w : World) (q : Nat) (d : WD) (F : Nat → Prop) : Prop := ∃ own v, WorldX B w q d F own v

/-- Some parts turn; the others stay. -/
theorem WPart.frame {T T' : Tag → Prop} {B : Nat} {w w' : World} {q : Nat} {d : WD} {F F' : Nat → Prop} {own own' : Nat → Tag} {v : WV} (h : WPart T B w q d F own v) {S : Nat → Prop} (hf : Fr S w w') (hS : Free B w S)
    (hT : ∀ k, F k → S k → T' (own k)) (hF : ∀ k, F k → F' k ∧ own' k = own k) : WPart (fun t => T t ∨ T' t) B w' q d F' own' v := by
  have keep : ∀ {k : Nat} {t : Tag}, F k → own k = t → ¬ (T t ∨ T' t) → ¬ S k := fun hk ho hn hs => hn (.inr (ho ▸ hT _ hk hs))
  have tag : ∀ {k : Nat} {t : Tag}, F k → own k = t → F' k ∧ own' k = t := fun hk ho => ⟨(hF _ hk).1, by rw [(hF _ hk).2]; exact ho⟩
  have h8 : FreeT [5] B w S := hS.sub (by decide)
  have hb : ∀ {k : Nat} {o : Obj}, w.heap[k]? = some o → ¬ S k → w'.heap[k]? = some o := fun h1 h2 => by rw [hf.block _ (Array.getElem?_eq_some_iff.1 h1).1 h2]; exact h1
  refine ⟨fun hn => ?_, fun hn => ?_, fun hn => ?_, fun hn => ?_, fun a ha hn => ?_, fun a b ha hb' hn => ?_, fun hn => ?_, fun a ha hn => ?_, fun a ha hn => ?_⟩
  · obtain ⟨h1, h2, h3, h4⟩ := h.hq (fun h => hn (.inl h))
    exact ⟨(tag h1 h3).1, h2, (tag h1 h3).2, hb h4 (keep h1 h3 hn)⟩
  · obtain ⟨h1, h2⟩ := h.ends (fun h => hn (.inl h))
    exact ⟨owns_fr h1 hf (fun k hk => keep (h2 k hk).1 (h2 k hk).2 hn), fun k hk => tag (h2 k hk).1 (h2 k hk).2⟩
  · obtain ⟨h1, h2⟩ := h.bag (fun h => hn (.inl h))
    exact ⟨h1.fr hf h8 (fun k hk => keep (h2 k hk).1 (h2 k hk).2 hn), fun k hk => tag (h2 k hk).1 (h2 k hk).2⟩
  · obtain ⟨h1, h2⟩ := h.took (fun h => hn (.inl h))
    exact ⟨owns_fr h1 hf (fun k hk => keep (h2 k hk).1 (h2 k hk).2 hn), fun k hk => tag (h2 k hk).1 (h2 k hk).2⟩
  · obtain ⟨h1, h2, h3, h4⟩ := h.tr a ha (fun h => hn (.inl h))
    exact ⟨(tag h1 h3).1, h2, (tag h1 h3).2, hb h4 (keep h1 h3 hn)⟩
  · obtain ⟨h1, h2⟩ := h.tk a b ha hb' (fun h => hn (.inl h))
    exact ⟨h1.fr hf h8 (fun k hk => keep (h2 k hk).1 (h2 k hk).2 hn), fun k hk => tag (h2 k hk).1 (h2 k hk).2⟩
  · obtain ⟨h1, h2⟩ := h.up (fun h => hn (.inl h))
    exact ⟨owns_fr h1 hf (fun k hk => keep (h2 k hk).1 (h2 k hk).2 hn), fun k hk => tag (h2 k hk).1 (h2 k hk).2⟩
  · obtain ⟨h1, h2, h3, h4⟩ := h.ur a ha (fun h => hn (.inl h))
    exact ⟨(tag h1 h3).1, h2, (tag h1 h3).2, hb h4 (keep h1 h3 hn)⟩
  · have h1 := h.en a ha (fun h => hn (.inl h))
    exact (h1.fr hf hS (fun k hk => keep hk.1 hk.2 hn)).mono fun k hk => tag hk.1 hk.2

theorem WPart.weak {T T' : Tag → Prop} {B : Nat} {w : World} {q : Nat} {d : WD} {F : Nat → Prop} {own : Nat → Tag} {v : WV} (h : WPart T B w q d F own v) (ht : ∀ t, T t → T' t) : WPart T' B w q d F own v :=
  ⟨fun hn => h.hq (fun e => hn (ht _ e)), fun hn => h.ends (fun e => hn (ht _ e)), fun hn => h.bag (fun e => hn (ht _ e)), fun hn => h.took (fun e => hn (ht _ e)), fun a ha hn => h.tr a ha (fun e => hn (ht _ e)), fun a b ha hb hn => h.tk a b ha hb (fun e => hn (ht _ e)), fun hn => h.up (fun e => hn (ht _ e)), fun a ha hn => h.ur a ha (fun e => hn (ht _ e)), fun a ha hn => h.en a ha (fun e => hn (ht _ e))⟩

theorem WorldX.fr {B : Nat} {w w' : World} {q : Nat} {d : WD} {F : Nat → Prop} {own : Nat → Tag} {v : WV} (h : WorldX B w q d F own v) {S : Nat → Prop} (hf : Fr S w w') (hS : Free B w S) (hn : ∀ k, F k → ¬ S k) : WorldX B w' q d F own v :=
  (h.frame (T' := fun _ => False) hf hS (fun k hk hs => hn k hk hs) (fun k hk => ⟨hk, rfl⟩)).weak (fun _ h => h.elim id id)
theorem WorldX.fr0 {B : Nat} {w w' : World} {q : Nat} {d : WD} {F : Nat → Prop} {own : Nat → Tag} {v : WV} (h : WorldX B w q d F own v) (hf : Fr No w w') : WorldX B w' q d F own v := h.fr hf FreeT.no (fun _ _ h => h)
theorem WorldAt.fr {B : Nat} {w w' : World} {q : Nat} {d : WD} {F : Nat → Prop} (h : WorldAt B w q d F) {S : Nat → Prop} (hf : Fr S w w') (hS : Free B w S) (hn : ∀ k, F k → ¬ S k) : WorldAt B w' q d F :=
  let ⟨own, v, h⟩ := h
  ⟨own, v, h.fr hf hS hn⟩
theorem WorldAt.fr0 {B : Nat} {w w' : World} {q : Nat} {d : WD} {F : Nat → Prop} (h : WorldAt B w q d F) (hf : Fr No w w') : WorldAt B w' q d F := h.fr hf FreeT.no (fun _ _ h => h)

/-- What F may become. -/
def Grew (F F' : Nat → Prop) (w : World) : Prop := ∀ b, F' b → F b ∨ w.heap.size ≤ b
theorem Grew.refl (F : Nat → Prop) (w : World) : Grew F F w := fun _ h => .inl h
theorem Grew.trans {F F' F'' : Nat → Prop} {w w' : World} (h : Grew F F' w) (h' : Grew F' F'' w') (hs : w.heap.size ≤ w'.heap.size) : Grew F F'' w := fun b hb => by
  rcases h' b hb with hb | hb
  · exact h b hb
  · exact .inr (by omega)
/-- Two steps, each within its blocks. -/
theorem Fr.grew {F F' : Nat → Prop} {a b c : World} (h : Fr F a b) (k : Fr F' b c) (hg : Grew F F' a) : Fr F a c := h.trans' k fun x hx h' => by
  rcases hg x h' with h' | h'
  · exact h'
  · omega

/-- What a call does to the world: it is d now. -/
def WPost (B : Nat) (w : World) (q : Nat) (F : Nat → Prop) (d : WD) (w' : World) : Prop := ∃ F', WorldAt B w' q d F' ∧ Reg B w' F' ∧ Fr F w w' ∧ Grew F F' w

theorem WorldX.cells {B : Nat} {w : World} {q : Nat} {d : WD} {F : Nat → Prop} {own : Nat → Tag} {v : WV} (h : WorldX B w q d F own v) :
    q < w.heap.size ∧ (w.cell? ⟨q, 0, none⟩ = some (.int .i64 d.queue) ∧ w.cell? ⟨q, 1, none⟩ = some (.int .i64 d.window) ∧ w.cell? ⟨q, 2, none⟩ = some v.ve ∧ w.cell? ⟨q, 3, none⟩ = some v.vb ∧ w.cell? ⟨q, 4, none⟩ = some v.vt ∧ w.cell? ⟨q, 5, none⟩ = some v.vu ∧ w.cell? ⟨q, 6, none⟩ = some (.bool false)) ∧ ∀ o, w.frozen? ⟨q, o, none⟩ = false := by
  obtain ⟨_, _, _, hh⟩ := h.hq (fun h => h)
  have hc := fun j u (hj : (wcells d v)[j]? = some u) => (show w.cell? ⟨q, j, none⟩ = some u by rw [cell_of_row _ _ j _ _ _ hh]; simpa using hj)
  exact ⟨(Array.getElem?_eq_some_iff.1 hh).1, ⟨hc 0 _ rfl, hc 1 _ rfl, hc 2 _ rfl, hc 3 _ rfl, hc 4 _ rfl, hc 5 _ rfl, hc 6 _ rfl⟩, fun o => by simp [World.frozen?, hh]⟩

/-- The bag is another one. -/
theorem WorldX.setBag {B : Nat} {w w' : World} {q : Nat} {d : WD} {F : Nat → Prop} {own : Nat → Tag} {v : WV} (h : WorldX B w q d F own v) (hR : Reg B w F) (hBw : B ≤ w.heap.size) {S : Nat → Prop} {w1 : World} (hf : Fr S w w1) (hS : ∀ k, S k → F k ∧ own k = .bag) {bag : List MailD} {vb : Value}
    (hb : BagOwn B B w1 vb bag) (hnew : ∀ k, vb.ownBlock = some k → (F k ∧ own k = .bag) ∨ w.heap.size ≤ k) (hw' : w' = w1.setCell ⟨q, 3, none⟩ vb) :
    WPost B w q F { d with bag := bag } w' := by
  obtain ⟨hq1, hq2, hq3, hq4⟩ := h.hq (fun h => h)
  have hqlt := (Array.getElem?_eq_some_iff.1 hq4).1
  have hqS : ¬ S q := fun e => by have := (hS q e).2; rw [hq3] at this; cases this
  have hh1 : w1.heap[q]? = some (.cells (wcells d v).toArray 31 (0, 0)) := by rw [hf.block q hqlt hqS]; exact hq4
  have hf2 : Fr (One q) w1 w' := by rw [hw']; exact Fr.setCell0 w1 ⟨q, 3, none⟩ vb
  have hfS : Fr (fun k => S k ∨ k = q) w w' := (hf.mono (fun _ _ h => .inl h)).trans' hf2 (fun _ _ e => .inr e)
  have hfF : Fr F w w' := hfS.mono (fun k _ hk => hk.elim (fun h => (hS k h).1) (fun e => by rw [e]; exact hq1))
  have hfree : Free B w (fun k => S k ∨ k = q) := fun k hk => hR.free k (hk.elim (fun h => (hS k h).1) (fun e => by rw [e]; exact hq1))
  have hone : FreeT [5] B w1 (One q) := FreeT.one hq2 (typ_of_heap hh1) (by decide)
  have hb' : BagOwn B B w' vb bag := hb.fr hf2 hone (fun k hk e => by have := (hb.block hk).1; rw [show k = q from e, typ_of_heap hh1] at this; exact absurd this (by decide))
  have hFlt : ∀ k, F k → k < w.heap.size := hR.lt
  have hp := h.frame (T' := fun t => t = .bag ∨ t = .q) (F' := fun k => F k ∨ vb.ownBlock = some k) (own' := fun k => if k < w.heap.size then own k else .bag) hfS hfree
    (fun k hk hs => hs.elim (fun h => .inl (hS k h).2) (fun e => .inr (by rw [e]; exact hq3))) (fun k hk => ⟨.inl hk, by rw [if_pos (hFlt k hk)]⟩)
  refine ⟨fun k => F k ∨ vb.ownBlock = some k, ⟨fun k => if k < w.heap.size then own k else .bag, { v with vb := vb }, ?_⟩, ?_, hfF, ?_⟩
  · refine ⟨fun _ => ⟨.inl hq1, hq2, by rw [if_pos hqlt]; exact hq3, ?_⟩, fun _ => hp.ends (by rintro (h | h | h) <;> cases h), fun _ => ⟨hb', fun k hk => ⟨.inr hk, ?_⟩⟩, fun _ => hp.took (by rintro (h | h | h) <;> cases h), fun a ha _ => hp.tr a ha (by rintro (h | h | h) <;> cases h), fun a b ha hb _ => hp.tk a b ha hb (by rintro (h | h | h) <;> cases h), fun _ => hp.up (by rintro (h | h | h) <;> cases h), fun a ha _ => hp.ur a ha (by rintro (h | h | h) <;> cases h), fun a ha _ => hp.en a ha (by rintro (h | h | h) <;> cases h)⟩
    · rw [hw', heap_set hh1]; rfl
    · rcases hnew k hk with h | h
      · rw [if_pos (hFlt k h.1)]; exact h.2
      · rw [if_neg (by omega)]
  · rintro k (hk | hk)
    · exact hR.fr hfF k hk
    · exact ⟨(hb'.block hk).2, _, (hb'.block hk).1, by decide⟩
  · rintro k (hk | hk)
    · exact .inl hk
    · rcases hnew k hk with h | h
      · exact .inl h.1
      · exact .inr h
end Go.Proofs.Ytplgmcpglbpghaa
