/- Numbers and texts come back out of their bytes, whatever stands behind, and cut off they do not. No condition beyond the row's own. -/
import Derived.Test.YtiioolggdffdbaaQ14
import Derived.Test.YtiioolggdffdbaaNumFns
namespace Go.Proofs.Ytiioolggdffdbaa.Pure
open Go Go.RowKit Go.Proofs.Ytiioolggdffdbaa.Q Go.Proofs.Ytiioolggdffdbaa.NumMath Go.Proofs.YtiioolggdffdbaaW.PrintWords Go.Proofs.YtiioolggdffdbaaW.PrintLast Go.Proofs.YtiioolggdffdbaaW.PrintMore

theorem NumBack : diwanlaw1_NumBack.Pure := by
  intro v s l c wv ws hl1 hl2 wl wc
  have hv := wf_i64 wv
  have hc := wf_u16 wc
  have hb : Bytes l := fun x hx => wf_u8 (wl x hx)
  refine ⟨20, ?_⟩
  unfold diwanlaw1_NumBack.f
  rw [NumFns.begun]; simp only [Option.bind_some, if_true]
  by_cases h0 : v < 0
  · rw [if_pos h0]; simp only [diwanlaw1_NumBack.j0]; simp
  · rw [if_neg h0]
    by_cases h1 : (s.size : Int) > 255
    · rw [if_pos h1]; simp only [diwanlaw1_NumBack.j0]; simp
    · rw [if_neg h1]
      by_cases h2 : (l.length : Int) > 20
      · simp only [diwanlaw1_NumBack.j0, h2, decide_true]; simp
      · obtain ⟨m, rfl⟩ := Int.eq_ofNat_of_zero_le (show 0 ≤ v by omega)
        have hm : m < 9223372036854775808 := by omega
        have hs : s.size ≤ 255 := by omega
        have p1 := enc_pos m
        have p9 := enc_len9 hm
        have q1 := enc_pos s.size
        have q9 := enc_len9 (n := s.size) (by omega)
        have hbl := bytesOf_length s
        simp only [diwanlaw1_NumBack.j0, h2, decide_false]
        rw [NumFns.put hm (by decide), NumFns.putText (by decide) hs]
        have hd : (decide (((enc s.size ++ bytesOf s).length : Int) ≤ (s.size : Int))) = false := by
          rw [decide_eq_false_iff_not, List.length_append, hbl]; omega
        simp only [Option.bind_some]
        rw [if_neg (by decide), if_neg (by omega), if_neg (by omega), hd]
        simp only [diwanlaw1_NumBack.j1, Option.bind_some, List.nil_append]
        have hlen2 : (enc s.size ++ bytesOf s).length ≤ 264 := by rw [List.length_append, hbl]; omega
        have k1 : Bytes (enc m ++ l) := (enc_bytes m).app hb
        have k2 : Bytes (enc s.size ++ bytesOf s ++ l) := ((enc_bytes _).app (bytesOf_bytes s)).app hb
        have k3 : Bytes (enc s.size ++ bytesOf s) := (enc_bytes _).app (bytesOf_bytes s)
        have w1 : wrap64 c = c := wrap64_id (by omega) (by omega)
        obtain ⟨d, rfl⟩ := Int.eq_ofNat_of_zero_le hc.1
        have w2 : Int.tmod (d : Int) ((enc m).length : Int) = ((d % (enc m).length : Nat) : Int) := by simp [Int.tmod]
        have w3 : Int.tmod (d : Int) ((enc s.size ++ bytesOf s).length : Int) = ((d % (enc s.size ++ bytesOf s).length : Nat) : Int) := by simp [Int.tmod]
        have m1 : d % (enc m).length < (enc m).length := Nat.mod_lt _ (by omega)
        have m2 : d % (enc s.size ++ bytesOf s).length < (enc s.size ++ bytesOf s).length := Nat.mod_lt _ (by simp; omega)
        rw [w1, w2, w3]
        clear w1 w2 w3
        rw [if_neg (by decide), if_pos (by first | omega | (simp; omega)), if_pos (by first | omega | (simp; omega)), NumFns.take k1 (by decide)]
        simp only [Option.bind_some]
        rw [if_pos (by first | omega | (simp; omega)), if_pos (by first | omega | (simp; omega)), NumFns.takeText k2 (by simp; omega) (by decide)]
        simp only [Option.bind_some]
        rw [if_neg (by omega), if_pos (Int.natCast_nonneg _), if_pos (by omega), NumFns.take ((enc_bytes m).take _) (by decide)]
        simp only [Option.bind_some]
        rw [if_neg (by omega), if_pos (Int.natCast_nonneg _), if_pos (by omega), NumFns.takeText (k3.take _) (by simp; omega) (by decide)]
        simp only [Option.bind_some, Int.toNat_natCast]
        have t1 := tk_cut m _ m1
        have t2 := txt_cut s hs _ m2
        rw [tk_back m hm, txt_back s hs]
        generalize (txt ((enc s.size ++ bytesOf s).take (d % (enc s.size ++ bytesOf s).length))).2.2 = b2 at t2 ⊢
        subst t2
        simp [bytesOf_text, hbl, t1]
end Go.Proofs.Ytiioolggdffdbaa.Pure
