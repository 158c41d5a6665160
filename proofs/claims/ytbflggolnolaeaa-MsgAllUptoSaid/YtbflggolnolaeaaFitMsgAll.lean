/- What the arguments of MsgAll read as, as plain data. -/
import Derived.Test.YtbflggolnolaeaaToldMsgAll
import Derived.Test.YtbflggolnolaeaaRows
namespace Go.Proofs.Ytbflggolnolaeaa.Told
open Go Go.Proofs.Ytbflggolnolaeaa Go.Proofs.Ytbflggolnolaeaa.Vam
set_option linter.unusedVariables false
theorem blk_one {H : Type} (d : DataW H) : 1 ≤ Rows.uptoBulk d := by
  cases d with
  | lit l => cases l <;> simp [Rows.uptoBulk]
  | nil => simp [Rows.uptoBulk]
  | ptr d => simp [Rows.uptoBulk]
  | slice elems spare => simp [Rows.uptoBulk]
  | agg parts => simp [Rows.uptoBulk]
  | iface t d => simp [Rows.uptoBulk]
  | map entries => simp [Rows.uptoBulk]
  | held h => simp [Rows.uptoBulk]
theorem blk_mem {H : Type} (d : DataW H) : ∀ l : List (DataW H), d ∈ l → Rows.uptoBulk d ≤ Rows.uptoBulkAll l
  | [], h => by cases h
  | x :: r, h => by
    simp only [Rows.uptoBulkAll]
    rcases List.mem_cons.1 h with rfl | h
    · omega
    · have := blk_mem d r h; omega
theorem blk_len {H : Type} : ∀ l : List (DataW H), l.length ≤ Rows.uptoBulkAll l
  | [] => Nat.zero_le _
  | x :: r => by have := blk_one x; have := blk_len r; simp only [Rows.uptoBulkAll, List.length_cons]; omega
theorem blk {H : Type} : Blk (H := H) Rows.uptoBulk Rows.uptoBulkAll where
  str u := by simp [Rows.uptoBulk]
  slc e s := by simp only [Rows.uptoBulk]; omega
  agg e := by simp only [Rows.uptoBulk]; omega
  mem := blk_mem
  len := blk_len
theorem small {H : Type} {l : List (DataW H)} (hk : Rows.uptoSmall H l = true) : ∀ d ∈ l, SzN 1048576 d := fun d hd => .inr ⟨_, _, blk, Nat.le_trans (blk_mem d l hd) (of_decide_eq_true hk)⟩
def TRead.ok (x : TRead) : Prop := (okSN 1048576) x.Key ∧ (okI .i64) x.Version ∧ (okSN 1048576) x.Val ∧ okB x.There
theorem fit_TRead {ch : List DV} (h : FitLN 1048576 ch [.ts, .ti .i64, .ts, .tb]) : ∃ x : TRead, ch = TRead.en x ∧ TRead.ok x := by
  obtain ⟨d0, r0, rfl, f0, h⟩ := fitL_cons h
  obtain ⟨d1, r1, rfl, f1, h⟩ := fitL_cons h
  obtain ⟨d2, r2, rfl, f2, h⟩ := fitL_cons h
  obtain ⟨d3, r3, rfl, f3, h⟩ := fitL_cons h
  obtain rfl := fitL_nil h
  obtain ⟨x0, e0, k0⟩ := fit_s f0
  subst e0
  obtain ⟨x1, e1, k1⟩ := fit_i f1
  subst e1
  obtain ⟨x2, e2, k2⟩ := fit_s f2
  subst e2
  obtain ⟨x3, e3, k3⟩ := fit_b f3
  subst e3
  exact ⟨⟨x0, x1, x2, x3⟩, rfl, k0, k1, k2, k3⟩
def TWrite.ok (x : TWrite) : Prop := (okSN 1048576) x.Key ∧ (okSN 1048576) x.Val ∧ okB x.Gone
theorem fit_TWrite {ch : List DV} (h : FitLN 1048576 ch [.ts, .ts, .tb]) : ∃ x : TWrite, ch = TWrite.en x ∧ TWrite.ok x := by
  obtain ⟨d0, r0, rfl, f0, h⟩ := fitL_cons h
  obtain ⟨d1, r1, rfl, f1, h⟩ := fitL_cons h
  obtain ⟨d2, r2, rfl, f2, h⟩ := fitL_cons h
  obtain rfl := fitL_nil h
  obtain ⟨x0, e0, k0⟩ := fit_s f0
  subst e0
  obtain ⟨x1, e1, k1⟩ := fit_s f1
  subst e1
  obtain ⟨x2, e2, k2⟩ := fit_b f2
  subst e2
  exact ⟨⟨x0, x1, x2⟩, rfl, k0, k1, k2⟩
def TTxn.ok (x : TTxn) : Prop := (okI .i64) x.Session ∧ (okI .i64) x.Seq ∧ (okLN 1048576 TRead.ok) x.Reads ∧ (okLN 1048576 TWrite.ok) x.Writes
theorem fit_TTxn {ch : List DV} (h : FitLN 1048576 ch [.ti .i64, .ti .i64, .tl [.ts, .ti .i64, .ts, .tb], .tl [.ts, .ts, .tb]]) : ∃ x : TTxn, ch = TTxn.en x ∧ TTxn.ok x := by
  obtain ⟨d0, r0, rfl, f0, h⟩ := fitL_cons h
  obtain ⟨d1, r1, rfl, f1, h⟩ := fitL_cons h
  obtain ⟨d2, r2, rfl, f2, h⟩ := fitL_cons h
  obtain ⟨d3, r3, rfl, f3, h⟩ := fitL_cons h
  obtain rfl := fitL_nil h
  obtain ⟨x0, e0, k0⟩ := fit_i f0
  subst e0
  obtain ⟨x1, e1, k1⟩ := fit_i f1
  subst e1
  obtain ⟨x2, e2, k2⟩ := (fit_l rfl (fun _ h => fit_TRead h)) f2
  subst e2
  obtain ⟨x3, e3, k3⟩ := (fit_l rfl (fun _ h => fit_TWrite h)) f3
  subst e3
  exact ⟨⟨x0, x1, x2, x3⟩, rfl, k0, k1, k2, k3⟩
def TEntry.ok (x : TEntry) : Prop := (okI .i64) x.Term ∧ okB x.Seal ∧ (okI .i64) x.T.Session ∧ (okI .i64) x.T.Seq ∧ (okLN 1048576 TRead.ok) x.T.Reads ∧ (okLN 1048576 TWrite.ok) x.T.Writes
theorem fit_TEntry {ch : List DV} (h : FitLN 1048576 ch [.ti .i64, .tb, .ti .i64, .ti .i64, .tl [.ts, .ti .i64, .ts, .tb], .tl [.ts, .ts, .tb]]) : ∃ x : TEntry, ch = TEntry.en x ∧ TEntry.ok x := by
  obtain ⟨d0, r0, rfl, f0, h⟩ := fitL_cons h
  obtain ⟨d1, r1, rfl, f1, h⟩ := fitL_cons h
  obtain ⟨d2, r2, rfl, f2, h⟩ := fitL_cons h
  obtain ⟨d3, r3, rfl, f3, h⟩ := fitL_cons h
  obtain ⟨d4, r4, rfl, f4, h⟩ := fitL_cons h
  obtain ⟨d5, r5, rfl, f5, h⟩ := fitL_cons h
  obtain rfl := fitL_nil h
  obtain ⟨x0, e0, k0⟩ := fit_i f0
  subst e0
  obtain ⟨x1, e1, k1⟩ := fit_b f1
  subst e1
  obtain ⟨x2, e2, k2⟩ := fit_i f2
  subst e2
  obtain ⟨x3, e3, k3⟩ := fit_i f3
  subst e3
  obtain ⟨x4, e4, k4⟩ := (fit_l rfl (fun _ h => fit_TRead h)) f4
  subst e4
  obtain ⟨x5, e5, k5⟩ := (fit_l rfl (fun _ h => fit_TWrite h)) f5
  subst e5
  exact ⟨⟨x0, x1, ⟨x2, x3, x4, x5⟩⟩, rfl, k0, k1, k2, k3, k4, k5⟩
def TMsg.ok (x : TMsg) : Prop := (okI .i64) x.Kind ∧ (okI .i64) x.From ∧ (okI .i64) x.To ∧ (okI .i64) x.Part ∧ (okI .i64) x.Term ∧ (okI .i64) x.Index ∧ (okI .i64) x.LogTerm ∧ (okI .i64) x.Commit ∧ okB x.OK ∧ (okLN 1048576 TEntry.ok) x.Entries ∧ (okI .i64) x.T.Session ∧ (okI .i64) x.T.Seq ∧ (okLN 1048576 TRead.ok) x.T.Reads ∧ (okLN 1048576 TWrite.ok) x.T.Writes ∧ (okI .i64) x.Session ∧ (okI .i64) x.Seq ∧ (okI .i64) x.Pos ∧ (okI .i64) x.Shard ∧ okB x.Span ∧ (okSN 1048576) x.FromKey ∧ (okSN 1048576) x.ToKey ∧ (okLN 1048576 (okSN 1048576)) x.Keys ∧ (okLN 1048576 TRead.ok) x.Got ∧ (okI .i64) x.Err
theorem fit_TMsg {ch : List DV} (h : FitLN 1048576 ch [.ti .i64, .ti .i64, .ti .i64, .ti .i64, .ti .i64, .ti .i64, .ti .i64, .ti .i64, .tb, .tl [.ti .i64, .tb, .ti .i64, .ti .i64, .tl [.ts, .ti .i64, .ts, .tb], .tl [.ts, .ts, .tb]], .ti .i64, .ti .i64, .tl [.ts, .ti .i64, .ts, .tb], .tl [.ts, .ts, .tb], .ti .i64, .ti .i64, .ti .i64, .ti .i64, .tb, .ts, .ts, .tl [.ts], .tl [.ts, .ti .i64, .ts, .tb], .ti .i64]) : ∃ x : TMsg, ch = TMsg.en x ∧ TMsg.ok x := by
  obtain ⟨d0, r0, rfl, f0, h⟩ := fitL_cons h
  obtain ⟨d1, r1, rfl, f1, h⟩ := fitL_cons h
  obtain ⟨d2, r2, rfl, f2, h⟩ := fitL_cons h
  obtain ⟨d3, r3, rfl, f3, h⟩ := fitL_cons h
  obtain ⟨d4, r4, rfl, f4, h⟩ := fitL_cons h
  obtain ⟨d5, r5, rfl, f5, h⟩ := fitL_cons h
  obtain ⟨d6, r6, rfl, f6, h⟩ := fitL_cons h
  obtain ⟨d7, r7, rfl, f7, h⟩ := fitL_cons h
  obtain ⟨d8, r8, rfl, f8, h⟩ := fitL_cons h
  obtain ⟨d9, r9, rfl, f9, h⟩ := fitL_cons h
  obtain ⟨d10, r10, rfl, f10, h⟩ := fitL_cons h
  obtain ⟨d11, r11, rfl, f11, h⟩ := fitL_cons h
  obtain ⟨d12, r12, rfl, f12, h⟩ := fitL_cons h
  obtain ⟨d13, r13, rfl, f13, h⟩ := fitL_cons h
  obtain ⟨d14, r14, rfl, f14, h⟩ := fitL_cons h
  obtain ⟨d15, r15, rfl, f15, h⟩ := fitL_cons h
  obtain ⟨d16, r16, rfl, f16, h⟩ := fitL_cons h
  obtain ⟨d17, r17, rfl, f17, h⟩ := fitL_cons h
  obtain ⟨d18, r18, rfl, f18, h⟩ := fitL_cons h
  obtain ⟨d19, r19, rfl, f19, h⟩ := fitL_cons h
  obtain ⟨d20, r20, rfl, f20, h⟩ := fitL_cons h
  obtain ⟨d21, r21, rfl, f21, h⟩ := fitL_cons h
  obtain ⟨d22, r22, rfl, f22, h⟩ := fitL_cons h
  obtain ⟨d23, r23, rfl, f23, h⟩ := fitL_cons h
  obtain rfl := fitL_nil h
  obtain ⟨x0, e0, k0⟩ := fit_i f0
  subst e0
  obtain ⟨x1, e1, k1⟩ := fit_i f1
  subst e1
  obtain ⟨x2, e2, k2⟩ := fit_i f2
  subst e2
  obtain ⟨x3, e3, k3⟩ := fit_i f3
  subst e3
  obtain ⟨x4, e4, k4⟩ := fit_i f4
  subst e4
  obtain ⟨x5, e5, k5⟩ := fit_i f5
  subst e5
  obtain ⟨x6, e6, k6⟩ := fit_i f6
  subst e6
  obtain ⟨x7, e7, k7⟩ := fit_i f7
  subst e7
  obtain ⟨x8, e8, k8⟩ := fit_b f8
  subst e8
  obtain ⟨x9, e9, k9⟩ := (fit_l rfl (fun _ h => fit_TEntry h)) f9
  subst e9
  obtain ⟨x10, e10, k10⟩ := fit_i f10
  subst e10
  obtain ⟨x11, e11, k11⟩ := fit_i f11
  subst e11
  obtain ⟨x12, e12, k12⟩ := (fit_l rfl (fun _ h => fit_TRead h)) f12
  subst e12
  obtain ⟨x13, e13, k13⟩ := (fit_l rfl (fun _ h => fit_TWrite h)) f13
  subst e13
  obtain ⟨x14, e14, k14⟩ := fit_i f14
  subst e14
  obtain ⟨x15, e15, k15⟩ := fit_i f15
  subst e15
  obtain ⟨x16, e16, k16⟩ := fit_i f16
  subst e16
  obtain ⟨x17, e17, k17⟩ := fit_i f17
  subst e17
  obtain ⟨x18, e18, k18⟩ := fit_b f18
  subst e18
  obtain ⟨x19, e19, k19⟩ := fit_s f19
  subst e19
  obtain ⟨x20, e20, k20⟩ := fit_s f20
  subst e20
  obtain ⟨x21, e21, k21⟩ := (fit_l rfl (fun _ h => fitL_one (fun _ h => fit_s h) h)) f21
  subst e21
  obtain ⟨x22, e22, k22⟩ := (fit_l rfl (fun _ h => fit_TRead h)) f22
  subst e22
  obtain ⟨x23, e23, k23⟩ := fit_i f23
  subst e23
  exact ⟨⟨x0, x1, x2, x3, x4, x5, x6, x7, x8, x9, ⟨x10, x11, x12, x13⟩, x14, x15, x16, x17, x18, x19, x20, x21, x22, x23⟩, rfl, k0, k1, k2, k3, k4, k5, k6, k7, k8, k9, k10, k11, k12, k13, k14, k15, k16, k17, k18, k19, k20, k21, k22, k23⟩
end Go.Proofs.Ytbflggolnolaeaa.Told
