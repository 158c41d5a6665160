/- The plain law of RaftWild: whatever letters come, a state that may be stays one. -/
import Derived.Test.YthpokjkbcdfhiaaTRf3
import Derived.Test.YthpokjkbcdfhiaaTRf8
import Derived.Test.YthpokjkbcdfhiaaTRfm
namespace Go.Proofs.Ythpokjkbcdfhiaa.Told.PureRaftWild
open Go Go.Proofs.Ythpokjkbcdfhiaa.Vam Go.Proofs.Ythpokjkbcdfhiaa.Told Go.Proofs.Ythpokjkbcdfhiaa.Told.PK Go.Proofs.Ythpokjkbcdfhiaa.Told.RA
set_option linter.unusedSimpArgs false
set_option linter.unusedVariables false
theorem begun_e : diwanlaw11_begun 600 = some true := by kernel_rfl
theorem rterm_e {l : List TEntry} {i : Int} (hl : l.length ≤ 1000000) (hi : -4611686018427387904 ≤ i) (hi' : i ≤ 4611686018427387904) : diwanref1_Term l i = some (termAt l i) := by
  unfold diwanref1_Term termAt
  by_cases h1 : i < 1
  · rw [br_t (decide_eq_true h1), if_neg (by omega)]
  rw [br_f (decide_eq_false h1), if_pos (by omega)]
  by_cases h2 : i > (l.length : Int)
  · rw [br_t (decide_eq_true h2), List.getElem?_eq_none (by omega)]
  · have hx : l[(i - 1).toNat]? = some l[(i - 1).toNat] := List.getElem?_eq_getElem (by omega)
    rw [br_f (decide_eq_false h2), w64_id (by omega) (by omega), ix_s (by omega) hx, hx]
theorem fair_lp (fu : Nat) (r : TRaft) (m : TMsg) (hl : r.Log.length ≤ 1000000) (hE : m.Entries.length ≤ 1000) (hi : 0 ≤ m.Index ∧ m.Index ≤ 1099511627776) : ∀ (s q : List TEntry) (last : Int) (n : Nat), m.Entries = q ++ s → s.length < n →
    ∃ o, diwanlaw11_fair.lp8 fu r m n last (q.length : Int) = some o ∧ (o = .inl () → Rise last m.Term s ∧ (∀ e ∈ s, 1 ≤ e.Term) ∧ ∀ (k : Nat) (e : TEntry), s[k]? = some e → m.Index + ((q.length + k : Nat) : Int) + 1 ≤ r.Commit → termAt r.Log (m.Index + ((q.length + k : Nat) : Int) + 1) = e.Term)
  | [], q, last, n, hq, hn => by
    obtain ⟨n, rfl⟩ : ∃ m, n = m + 1 := ⟨n - 1, by omega⟩
    rw [diwanlaw11_fair.lp8, br_f (decide_eq_false (by rw [hq]; simp))]
    exact ⟨_, rfl, fun _ => ⟨trivial, by simp, fun k e h => by simp at h⟩⟩
  | e :: s, q, last, n, hq, hn => by
    obtain ⟨n, rfl⟩ : ∃ m, n = m + 1 := ⟨n - 1, by omega⟩
    have hlen : m.Entries.length = q.length + 1 + s.length := by rw [hq]; simp; omega
    have hx : m.Entries[q.length]? = some e := by rw [hq]; simp
    obtain ⟨o, h1, h2⟩ := fair_lp fu r m hl hE hi s (q ++ [e]) e.Term n (by rw [hq]; simp) (by simp at hn; omega)
    have wq : w64 ((q.length : Int) + 1) = ((q ++ [e]).length : Int) := by rw [w64_id (by omega) (by omega)]; simp
    rw [diwanlaw11_fair.lp8, br_t (decide_eq_true (by omega)), ix_n hx, wq, h1]
    by_cases c1 : e.Term < last
    · rw [br_t (decide_eq_true c1)]; exact ⟨_, rfl, fun g => by cases g⟩
    rw [br_f (decide_eq_false c1)]
    by_cases c2 : e.Term < 1
    · rw [br_t (decide_eq_true c2)]; exact ⟨_, rfl, fun g => by cases g⟩
    rw [br_f (decide_eq_false c2)]
    by_cases c3 : e.Term > m.Term
    · rw [br_t (decide_eq_true c3)]; exact ⟨_, rfl, fun g => by cases g⟩
    rw [br_f (decide_eq_false c3), w64_id (n := m.Index + (q.length : Int)) (by omega) (by omega), w64_id (n := m.Index + (q.length : Int) + 1) (by omega) (by omega)]
    have fin : (m.Index + (q.length : Int) + 1 ≤ r.Commit → termAt r.Log (m.Index + (q.length : Int) + 1) = e.Term) → o = .inl () → Rise last m.Term (e :: s) ∧ (∀ x ∈ e :: s, 1 ≤ x.Term) ∧ ∀ (k : Nat) (x : TEntry), (e :: s)[k]? = some x → m.Index + ((q.length + k : Nat) : Int) + 1 ≤ r.Commit → termAt r.Log (m.Index + ((q.length + k : Nat) : Int) + 1) = x.Term := by
      intro hT ho
      obtain ⟨g1, g2, g3⟩ := h2 ho
      refine ⟨⟨by omega, by omega, g1⟩, fun x hx => ?_, fun k x hk hle => ?_⟩
      · rcases List.mem_cons.1 hx with rfl | hx
        · omega
        · exact g2 x hx
      · cases k with
        | zero => simp at hk; subst hk; simpa using hT (by simpa using hle)
        | succ k =>
          have := g3 k x (by simpa using hk)
          rw [show (q ++ [e]).length + k = q.length + (k + 1) by simp; omega] at this
          exact this hle
    by_cases c4 : m.Index + (q.length : Int) + 1 ≤ r.Commit
    · rw [br_t (decide_eq_true c4), bd_s (rterm_e hl (by omega) (by omega))]
      by_cases c5 : termAt r.Log (m.Index + (q.length : Int) + 1) = e.Term
      · rw [br_f (by simpa using c5)]
        exact ⟨o, rfl, fin fun _ => c5⟩
      · rw [br_t (by simpa using c5)]; exact ⟨_, rfl, fun g => by cases g⟩
    · rw [br_f (decide_eq_false c4)]
      exact ⟨o, rfl, fin fun g => absurd g c4⟩
theorem fair_e {fu : Nat} {r : TRaft} {m : TMsg} (hl : r.Log.length ≤ 1000000) (hE : m.Entries.length ≤ 6) (hi : 0 ≤ m.Index ∧ m.Index ≤ 1099511627776) (hf : 10 ≤ fu) : ∃ b, diwanlaw11_fair fu r m = some b ∧ (b = true → RA.Fair r m) := by
  have go : ∀ last : Int, ∃ b, (bd (diwanlaw11_fair.lp8 fu r m fu last 0) fun o_ => (match o_ with
   | .inl _ =>
    some true
   | .inr _ =>
    some false)) = some b ∧ (b = true → Rise last m.Term m.Entries ∧ (∀ e ∈ m.Entries, 1 ≤ e.Term) ∧ ∀ (k : Nat) (e : TEntry), m.Entries[k]? = some e → m.Index + (k : Int) + 1 ≤ r.Commit → termAt r.Log (m.Index + (k : Int) + 1) = e.Term) := by
    intro last
    obtain ⟨o, h1, h2⟩ := fair_lp fu r m hl (by omega) hi m.Entries [] last fu rfl (by omega)
    simp only [List.length_nil, Int.natCast_zero, Nat.zero_add] at h1 h2
    rw [bd_s h1]
    rcases o with ⟨⟩ | ⟨⟩
    · exact ⟨true, rfl, fun _ => h2 rfl⟩
    · exact ⟨false, rfl, fun g => by cases g⟩
  unfold diwanlaw11_fair
  rw [jn_e]
  by_cases c : m.Index = 0
  · rw [br_t (by simpa using c)]
    obtain ⟨b, h1, h2⟩ := go 1
    exact ⟨b, h1, fun g => let ⟨x, y, z⟩ := h2 g; ⟨by rw [if_pos c]; exact x, y, z⟩⟩
  · rw [br_f (by simpa using c)]
    obtain ⟨b, h1, h2⟩ := go m.LogTerm
    exact ⟨b, h1, fun g => let ⟨x, y, z⟩ := h2 g; ⟨by rw [if_neg c]; exact x, y, z⟩⟩
theorem wild_lp (l : List TMsg) (hl : l.length ≤ 20) (hk : ∀ m ∈ l, SmB m.Entries) : ∀ (s q : List TMsg) (r : TRaft) (n : Nat), l = q ++ s → RA.Good r → s.length < n → diwanlaw11_RaftWild.lp11 600 l n (q.length : Int) r = some (.inl ())
  | [], q, r, n, hq, hg, hn => by
    obtain ⟨n, rfl⟩ : ∃ m, n = m + 1 := ⟨n - 1, by omega⟩
    rw [diwanlaw11_RaftWild.lp11, br_f (decide_eq_false (by rw [hq]; simp))]
  | m :: s, q, r, n, hq, hg, hn => by
    obtain ⟨n, rfl⟩ : ∃ m, n = m + 1 := ⟨n - 1, by omega⟩
    have hlen : l.length = q.length + 1 + s.length := by rw [hq]; simp; omega
    have hx : l[q.length]? = some m := by rw [hq]; simp
    have hsm := hk m (List.mem_of_getElem? hx)
    have ih := fun (x : TRaft) (hx : RA.Good x) => wild_lp l hl hk s (q ++ [m]) x n (by rw [hq]; simp) hx (by simp at hn; omega)
    have wq : w64 ((q.length : Int) + 1) = ((q ++ [m]).length : Int) := by rw [w64_id (by omega) (by omega)]; simp
    have hrl := hg.bs.len
    rw [diwanlaw11_RaftWild.lp11, br_t (decide_eq_true (by omega)), ix_n hx, wq, ih r hg, jn_e]
    by_cases c1 : (m.Entries.length : Int) > 6
    · rw [br_t (decide_eq_true c1)]
    rw [br_f (decide_eq_false c1)]
    by_cases c2 : m.Term < 0
    · rw [br_t (decide_eq_true c2)]
    rw [br_f (decide_eq_false c2)]
    by_cases c3 : m.Term > 1099511627776
    · rw [br_t (decide_eq_true c3)]
    rw [br_f (decide_eq_false c3)]
    by_cases c4 : m.Index < 0
    · rw [br_t (decide_eq_true c4)]
    rw [br_f (decide_eq_false c4)]
    by_cases c5 : m.Index > 1099511627776
    · rw [br_t (decide_eq_true c5)]
    rw [br_f (decide_eq_false c5)]
    by_cases c6 : m.Commit < 0
    · rw [br_t (decide_eq_true c6)]
    rw [br_f (decide_eq_false c6)]
    by_cases c7 : m.Commit > 1099511627776
    · rw [br_t (decide_eq_true c7)]
    rw [br_f (decide_eq_false c7)]
    have hlb : Lb m := ⟨by omega, by omega, by omega, hsm⟩
    have main : (m.Kind = 3 → RA.Fair r m) → (bd (raft_Take 600 r m) fun (r26_1, r26_2) =>
    bd (raft_May 600 r26_1) fun r27_1 =>
    br (!r27_1)
     (some (.inr ()))
     (bd (diwanref11_May 600 r26_1) fun r27_4 =>
     br (!r27_4)
      (some (.inr ()))
      (br (decide (r26_1.Term < r.Term))
       (some (.inr ()))
       (br (decide (r26_1.Commit < r.Commit))
        (some (.inr ()))
        (br (r26_1.Me != r.Me)
         (some (.inr ()))
         (br (r26_1.Nodes != r.Nodes)
          (some (.inr ()))
          (br (decide ((r26_2.length : Int) > r.Nodes))
           (some (.inr ()))
           (br (r26_1.Term == r.Term)
            (br (r.Vote != 0)
             (br (r26_1.Vote != r.Vote)
              (some (.inr ()))
              (diwanlaw11_RaftWild.lp11 600 l n ((q ++ [m]).length : Int) r26_1))
             (diwanlaw11_RaftWild.lp11 600 l n ((q ++ [m]).length : Int) r26_1))
            (diwanlaw11_RaftWild.lp11 600 l n ((q ++ [m]).length : Int) r26_1))))))))) = some (.inl () : Unit ⊕ Unit) := by
      intro hf
      have hgo := takeF_goes hg hlb (by omega) hf
      rw [bd_s (take_e hg.bs hlb (by decide))]
      generalize takeF r m = y at hgo
      obtain ⟨x, out⟩ := y
      dsimp only at hgo ⊢
      have hm : mayB x = true := mayB_iff.2 hgo.good.may
      have hxl := hgo.good.bs.len
      have g1 := hgo.term
      have g2 := hgo.commit
      have g3 := hgo.me
      have g4 := hgo.nodes
      have g5 := hgo.out
      rw [bd_s (may_e (fu := 600) (by omega) (by omega)), hm, br_f (by rfl), bd_s (rmay_e (fu := 600) (by omega) (by omega)), hm, br_f (by rfl), br_f (decide_eq_false (by omega)), br_f (decide_eq_false (by omega)), br_f (by simpa using g3), br_f (by simpa using g4), br_f (decide_eq_false (by omega)), ih x hgo.good]
      by_cases d1 : x.Term = r.Term
      · rw [br_t (by simpa using d1)]
        by_cases d2 : r.Vote = 0
        · rw [br_f (by simpa using d2)]
        · rw [br_t (by simpa using d2), br_f (by simpa using hgo.vote d1 d2)]
      · rw [br_f (by simpa using d1)]
    by_cases c8 : m.Kind = 3
    · rw [br_t (by simpa using c8)]
      obtain ⟨b, h1, h2⟩ := fair_e (fu := 600) (r := r) (m := m) (by omega) (by omega) (by omega) (by decide)
      rw [bd_s h1]
      cases b
      · rw [br_t (by rfl)]
      · rw [br_f (by rfl)]; exact main fun _ => h2 rfl
    · rw [br_f (by simpa using c8)]; exact main fun g => absurd g c8
theorem holds (picks : List Int) (l : List TMsg) (k0 : okLN 1048576 (okI .u8) picks) (k1 : okLN 1048576 TMsg.ok l) : ∃ fu, diwanlaw11_RaftWild fu picks l = some true := by
  refine ⟨600, ?_⟩
  unfold diwanlaw11_RaftWild
  rw [bd_s begun_e, br_f (by rfl)]
  by_cases h1 : (picks.length : Int) > 120
  · rw [br_t (decide_eq_true h1)]
  rw [br_f (decide_eq_false h1)]
  by_cases h2 : (l.length : Int) > 20
  · rw [br_t (decide_eq_true h2)]
  rw [br_f (decide_eq_false h2)]
  unfold diwanplay_Made
  rw [bd_s rfl]
  obtain ⟨r, o, e1, _, h⟩ := raft_e (fu := 600) (by decide) (made_inv (l := picks) (fun x hx => k0.2 x hx) (by omega))
  rw [bd_s e1]
  dsimp only
  have hb : Bs r := h.may.bs (fun e he => by have := h.smt e he; unfold Smt at this; omega) (by have := h.term; omega) (fun a ha => by have := h.rows.xs a ha; have := h.len; omega) (fun a ha => by have := h.rows.ms a ha; have := h.len; omega) (by have := h.clock; omega)
  have hw := wild_lp l (by omega) (fun m hm e he => by
    have hm' := k1.2 m hm
    have h1 := (hm'.2.2.2.2.2.2.2.2.2.1).2 e he
    have h2 := h1.2.2.2.2.1.1
    have h3 := h1.2.2.2.2.2.1
    omega) l [] r 600 rfl ⟨h.may, hb, h.term.1⟩ (by omega)
  simp only [List.length_nil, Int.natCast_zero] at hw
  rw [bd_s hw]
end Go.Proofs.Ythpokjkbcdfhiaa.Told.PureRaftWild
