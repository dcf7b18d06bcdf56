/- Part 22 of the proof: Yw7. -/
import Derived.Test.YtplgmcpglbpghaaM21
set_option linter.all false
set_option linter.unusedVariables false
set_option linter.unusedSimpArgs false

/- come: what it does, as plain data. -/
namespace Go.Proofs.Ytplgmcpglbpghaa
open Go.RowKit

def OutD.msg (o : OutD) : MsgD := { kind := o.kind, seq := o.seq, key := 0, hi := 0, vl := 0, ol := 0, has := false, of := 0, status := 0, host := 0, grant := 0, bounds := 0, mask := o.mask, limit := 0, pl := 0, sl := 0, payload := o.payload }
def noA : MsgA := ⟨none, 0, none, 0, none, 0, none, 0⟩
theorem msgVals_msg (o : OutD) (pv : Value) : msgVals o.msg noA pv = msgCells o.kind o.seq o.mask pv := rfl

theorem MailOk.msg {d : WD} (h : d.Ok) {x : MailD} (hx : MailOk d x) : x.out.msg.Ok ∧ x.out.msg.plain = true ∧ x.out.seq ≤ u64max ∧ x.out.mask ≤ u64max := by
  obtain ⟨ha, b, hb, hab, hto, hk⟩ := hx
  have hs : x.out.seq ≤ u64max ∧ x.out.mask ≤ u64max ∧ 0 ≤ x.out.kind ∧ x.out.kind ≤ 255 := by
    rcases hk with ⟨hk, hm, hd⟩ | ⟨hk, hp, hd⟩
    · have := (h.peer _ b ha hb (Ne.symm hab)).1.sent
      have := hd.hi
      exact ⟨by omega, by rw [hm]; simp, by omega, by omega⟩
    · have := (h.peer _ b ha hb (Ne.symm hab)).1.deliv
      have := hd.le
      exact ⟨by omega, hd.m64, by omega, by omega⟩
  obtain ⟨s1, s2, s3, s4⟩ := hs
  refine ⟨?_, ?_, s1, s2⟩
  · unfold u64max at s1 s2
    exact ⟨⟨s3, s4⟩, ⟨by simp [OutD.msg], by simp only [OutD.msg]; omega⟩, by simp [OutD.msg], by simp [OutD.msg], by simp [OutD.msg], by simp [OutD.msg], by simp [OutD.msg], by simp [OutD.msg], by simp [OutD.msg], by simp [OutD.msg], by simp [OutD.msg], ⟨by simp [OutD.msg], by simp only [OutD.msg]; omega⟩, by simp [OutD.msg], by simp [OutD.msg], by simp [OutD.msg]⟩
  · rcases hk with ⟨hk, hm, hd⟩ | ⟨hk, hp, hd⟩
    · simp [MsgD.plain, MsgD.bare, OutD.msg, hk, hm]
    · simp [MsgD.plain, MsgD.bare, OutD.msg, hk, hp]

structure ComeR (d : WD) (x : MailD) (a b : Nat) (r : EndD × List UpD × List OutD × Bool × Int) (p' : PeerD) : Prop where
  fst : r.1 = (d.endD b).set a p'
  err : r.2.2.2.2 = 0
  come : d.come x = { d with ps := upd d.ps b a p', up := upd d.up a b (d.up a b + r.2.1.length), bag := d.bag ++ mailsOf b r.2.2.1 }
  ups : ∀ i u, r.2.1[i]? = some u → u.seq = d.up a b + i + 1 ∧ (d.took a b)[d.up a b + i]? = some u.body ∧ u.src = (a : Int)
  le : d.up a b + r.2.1.length ≤ (d.took a b).length
  outs : ∀ o ∈ r.2.2.1, 0 ≤ o.to ∧ o.to < 256
  len : r.2.2.1.length ≤ 16

theorem WD.Ok.come_take {d : WD} (h : d.Ok) {x : MailD} (hx : MailOk d x) {b : Nat} (hb : b < d.hosts) (hab : b ≠ x.src) (hto : x.out.to = (b : Int)) : ∃ p', ComeR d x x.src b ((d.endD b).take x.src x.out.msg) p' := by
  have hmsg := hx.msg h
  obtain ⟨ha, b', hb', hab', hto', hk⟩ := hx
  have hbb : b' = b := by omega
  subst hbb
  obtain ⟨k1, k2, k3, k4⟩ := h.peer b' x.src hb' ha hab'
  obtain ⟨m1, m2, m3, m4⟩ := h.peer x.src b' ha hb' (Ne.symm hab')
  have hP := h.pair x.src b' ha hb' (Ne.symm hab')
  have hQ := h.pair b' x.src hb' ha hab'
  have hbn : x.out.to.toNat = b' := by rw [hto]; simp
  have h16 := h.h16
  unfold EndD.take
  rw [if_pos (WD.endD_has ha hab'), if_pos hmsg.2.1]
  have es : x.out.msg.seq.toNat = x.out.seq := by simp [OutD.msg]
  have em : x.out.msg.mask.toNat = x.out.mask := by simp [OutD.msg]
  rw [es, em]
  have ek : x.out.msg.kind = x.out.kind := rfl
  have ep : x.out.msg.payload = x.out.payload := rfl
  rw [ek, ep]
  have eps : (d.endD b').ps x.src = d.ps b' x.src := rfl
  rw [eps]
  rcases hk with ⟨hk, hm, hd⟩ | ⟨hk, hp, hd⟩
  · rw [if_neg (by rw [hk]; decide)]
    obtain ⟨c, _⟩ := hP.1.came k1 hd hmsg.2.2.1
    have hup := hP.2
    have hdel := c.pair.del
    refine ⟨_, ⟨rfl, c.err, ?_, ?_, ?_, ?_, ?_⟩⟩
    · unfold WD.come
      simp only [hbn]
      rw [if_pos hk, c.ups, hup]
    · intro i u hu
      obtain ⟨u1, u2, u3⟩ := c.up i u hu
      rw [hup]
      exact ⟨by omega, u2, by rw [u3, k2]⟩
    · show d.up x.src b' + ((d.ps b' x.src).come x.out.seq x.out.payload).2.1.length ≤ _
      have := hP.1.sent
      rw [hup, ← c.ups]; omega
    · intro o ho
      have ho : o ∈ ((d.ps b' x.src).come x.out.seq x.out.payload).2.2.1 := ho
      rw [c.mails] at ho
      rw [List.mem_singleton.1 ho]
      show 0 ≤ ((d.ps b' x.src).come x.out.seq x.out.payload).1.to ∧ _
      have : ((d.ps b' x.src).come x.out.seq x.out.payload).1.ack.to = (x.src : Int) := by
        show ((d.ps b' x.src).come x.out.seq x.out.payload).1.to = _
        rw [c.mono.to, k2]
      rw [this]
      have h2 : ((d.ps b' x.src).come x.out.seq x.out.payload).1.to = (x.src : Int) := this
      rw [h2]; omega
    · show ((d.ps b' x.src).come x.out.seq x.out.payload).2.2.1.length ≤ 16
      rw [c.mails]; simp
  · rw [if_pos hk]
    have c := hQ.1.heard k1 hd
    have hok' := PeerD.heard_ok k1 (seq := x.out.seq) hd.m64
    refine ⟨_, ⟨rfl, c.err, ?_, ?_, ?_, ?_, ?_⟩⟩
    · unfold WD.come
      simp only [hbn]
      rw [if_neg (by rw [hk]; decide)]
      simp only [List.length_nil, Nat.add_zero, upd_self]
    · intro i u hu; simp at hu
    · have := hP.2
      have := hP.1.del
      have := hP.1.sent
      simp only [List.length_nil, Nat.add_zero]
      omega
    · intro o ho
      have ho : o ∈ ((d.ps b' x.src).heard x.out.seq x.out.mask).2.1 := ho
      rw [c.mails] at ho
      obtain ⟨i, _, _, rfl⟩ := mem_datas ho
      show 0 ≤ ((d.ps b' x.src).heard x.out.seq x.out.mask).1.to ∧ ((d.ps b' x.src).heard x.out.seq x.out.mask).1.to < 256
      rw [c.mono.to, k2]; omega
    · show ((d.ps b' x.src).heard x.out.seq x.out.mask).2.1.length ≤ 16
      rw [c.mails, PeerD.datas_length]
      have := hok'.qroom
      have := hok'.room16
      split <;> omega
end Go.Proofs.Ytplgmcpglbpghaa
