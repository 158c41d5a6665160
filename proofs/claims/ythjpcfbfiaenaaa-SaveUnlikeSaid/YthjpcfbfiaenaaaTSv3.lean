/- A shard by the reference: it advances, and stays one that may be. -/
import Derived.Test.YthjpcfbfiaenaaaTSv2
import Derived.Test.YthjpcfbfiaenaaaTStoreR3
namespace Go.Proofs.Ythjpcfbfiaenaaa.Told.SV
open Go Go.Proofs.Ythjpcfbfiaenaaa.Vam Go.Proofs.Ythjpcfbfiaenaaa.Told Go.Proofs.Ythjpcfbfiaenaaa.Told.CF Go.Proofs.Ythjpcfbfiaenaaa.Told.PK Go.Proofs.Ythjpcfbfiaenaaa.Told.ST
set_option linter.unusedSimpArgs false
set_option linter.unusedVariables false
theorem turnF_mem {t s p : Int} {x : TSeat} : ∀ {l : List TSeat}, x ∈ (JF.turnF l t s p).1 → x ∈ l ∨ x = TSeat.mk t s p
 | [], h => .inr (List.mem_singleton.1 h)
 | v :: R, h => by
  simp only [JF.turnF] at h
  cases h1 : decide (v.Session < t) <;> rw [h1] at h
  ·cases h2 : (v.Session == t) <;> rw [h2] at h
   ·rcases List.mem_cons.1 h with g | g
    ·exact .inr g
    ·exact .inl g
   ·cases h3 : decide (v.Seq ≥ s) <;> rw [h3] at h
    ·rcases List.mem_cons.1 h with g | g
     ·exact .inr g
     ·exact .inl (List.mem_cons_of_mem _ g)
    ·exact .inl h
  ·rcases List.mem_cons.1 h with g | g
   ·exact .inl (g ▸ List.mem_cons_self)
   ·rcases turnF_mem (l := R) g with q | q
    ·exact .inl (List.mem_cons_of_mem _ q)
    ·exact .inr q
theorem puts_key {pos : Int} : ∀ {l : List TWrite} {cs : List TChain} {c : TChain}, c ∈ puts pos l cs → (∃ c' ∈ cs, c.Key = c'.Key) ∨ ∃ w ∈ l, c.Key = w.Key
 | [], cs, c, h => .inl ⟨c, h, rfl⟩
 | w :: l, cs, c, h => by
  rcases puts_key (l := l) (cs := put pos w cs) h with ⟨c', h1, h2⟩ | ⟨w', h1, h2⟩
  ·rcases put_mem h1 with g | ⟨_, g⟩ | ⟨c2, g1, g2⟩
   ·exact .inl ⟨c', g, h2⟩
   ·exact .inr ⟨w, by simp, by rw [h2, g]⟩
   ·exact .inl ⟨c2, g1, by rw [h2, g2]⟩
  ·exact .inr ⟨w', by simp [h1], h2⟩
section
variable {fu N D : Nat} {s : TShard} {t : TTxn}
theorem adv_e (h : SI fu N D s) (ht : TOk t) (hD : D ≤ 15) (hf : 100 ≤ fu) (hN : N ≤ 50) (bits : List Int) : ∃ s' ok, diwanref13_Advance fu s t bits = some (s', ok) ∧ (ok = true → SI fu (N + 3) (D + 1) s') := by
 have e1 : w64 (s.Done + 1) = ((D + 1 : Nat) : Int) := by rw [h.dn, w64_id (by omega) (by omega)]; omega
 have hts := JF.turnF_srt t.Session t.Seq ((D + 1 : Nat) : Int) h.srt
 have htm := fun x => @turnF_mem t.Session t.Seq ((D + 1 : Nat) : Int) x s.Seats
 have hsl := h.sln
 unfold diwanref13_Advance
 rw [bd_s (turn_e h hD (by omega) t)]
 generalize JF.turnF s.Seats t.Session t.Seq ((D + 1 : Nat) : Int) = T at hts htm
 obtain ⟨q, tb⟩ := T
 dsimp only at hts htm ⊢
 have hsh := h.sh
 have hmx : (if s.Shards < 0 then 0 else s.Shards) = s.Shards := by split <;> omega
 rw [hmx, gd_t (decide_eq_true (by omega))]
 obtain ⟨row, hr⟩ := row_lp h ht hD (by omega) (by omega) (by omega) bits q tb (TShard.mk 0 0 0 (TStore.mk [] 0) [] [] []) s.Shards.toNat 0 fu (List.replicate s.Shards.toNat (0 : Int)) (by simp) (by simp; omega) (by omega)
 simp only [Int.natCast_zero] at hr
 obtain ⟨v, hv, v0, v1⟩ := ver_e ht (fu := fu) (by omega) h.sh row
 obtain ⟨tb2, htb⟩ := tou_e (x := s.ID) ht (fu := fu) (by omega) h.sh
 obtain ⟨b, hb, b0, b1⟩ := bit_e h ht hD (by omega) (by omega) (by omega)
 rw [bd_s hr, bd_s hv]
 simp only [jn_e]
 rw [bd_s htb]
 have hbl := h.bl
 have hsd := h.sl
 -- what is common to all ways on
 have com : ∀ (S : TStore) (j : Int), 1 ≤ j ∧ j ≤ 4 → MI (N + 3) ((D + 1 : Nat) : Int) S.Chains → (0 ≤ S.Mark ∧ S.Mark ≤ 100) → (∀ c ∈ S.Chains, shN fu c.Key s.Shards = s.ID) → SI fu (N + 3) (D + 1) (TShard.mk s.ID s.Shards ((D + 1 : Nat) : Int) S q (s.Bits ++ [b]) (s.Said ++ [j])) := fun S j hj hmi hmk hown => by
  refine ⟨h.sh, h.id, rfl, by simp [hbl], by simp [hsd], hmi, hmk, hown, hts.1, by have := hts.2; show q.length ≤ D + 1; omega, fun x hx => ?_, fun x hx => ?_, fun x hx => ?_⟩
  ·rcases htm x hx with g | g
   ·obtain ⟨g1, g2, g3, g4⟩ := h.se x g
    exact ⟨g1, g2, g3, by omega⟩
   ·subst g
    refine ⟨ht.se, ht.sq, ?_, ?_⟩
    ·show 1 ≤ ((D + 1 : Nat) : Int); omega
    ·exact Int.le_refl _
  ·rcases List.mem_append.1 hx with g | g
   ·exact h.bi x g
   ·rw [List.mem_singleton.1 g]; exact ⟨b0, b1⟩
  ·rcases List.mem_append.1 hx with g | g
   ·exact h.sa x g
   ·rw [List.mem_singleton.1 g]; exact hj
 have hkeep : MI (N + 3) ((D + 1 : Nat) : Int) s.S.Chains := ⟨h.mi.srt, ⟨by have := h.mi.sml.1; omega, fun c hc => by have := h.mi.sml.2 c hc; omega⟩, fun c hc => by
  obtain ⟨a1, a2, a3, a4⟩ := h.mi.ok c hc
  exact ⟨a1, a2, a3, by omega⟩⟩
 have fin : ∀ j : Int, 0 ≤ j ∧ j ≤ 4 → ∃ s' ok, (br (j == 0)
  (some (s, false))
  (gd (decide (([] : List Int).length + s.Bits.length ≤ 4294967296)) <|
  bd (diwanref13_Bit fu s t) fun r31_2 =>
  gd (decide (s.Bits.length + ([r31_2] : List Int).length ≤ 4294967296)) <|
  gd (decide (([] : List Int).length + s.Said.length ≤ 4294967296)) <|
  gd (decide (s.Said.length + ([j] : List Int).length ≤ 4294967296)) <|
  br (j == 1)
   (bd (diwanref13_Advance.lp38 fu s t (TShard.mk 0 0 0 (TStore.mk [] 0) [] [] []) (TShard.mk s.ID s.Shards (w64 (s.Done + 1)) s.S q (s.Bits ++ ([r31_2] : List Int)) (s.Said ++ ([j] : List Int))) fu [] 0) fun y46_0 =>
   bd (diwanref13_Write fu s.S (w64 (s.Done + 1)) y46_0) fun r47_1 =>
   some ((TShard.mk s.ID s.Shards (w64 (s.Done + 1)) r47_1 q (s.Bits ++ ([r31_2] : List Int)) (s.Said ++ ([j] : List Int))), true))
   (some ((TShard.mk s.ID s.Shards (w64 (s.Done + 1)) s.S q (s.Bits ++ ([r31_2] : List Int)) (s.Said ++ ([j] : List Int))), true)))) = some (s', ok) ∧ (ok = true → SI fu (N + 3) (D + 1) s') := fun j hj => by
  rw [e1]
  by_cases hj0 : j = 0
  ·rw [br_t (by rw [hj0]; rfl)]
   exact ⟨s, false, rfl, fun g => by cases g⟩
  rw [br_f (beq_eq_false_iff_ne.2 hj0), gd_t (decide_eq_true (by simp; omega)), bd_s hb, gd_t (decide_eq_true (by simp; omega)), gd_t (decide_eq_true (by simp; omega)), gd_t (decide_eq_true (by simp; omega))]
  by_cases hj1 : j = 1
  ·subst hj1
   rw [br_t (by rfl)]
   obtain ⟨ws, g1, g2, g3⟩ := mine_lp h ht (fu := fu) (by omega) (TShard.mk 0 0 0 (TStore.mk [] 0) [] [] []) (TShard.mk s.ID s.Shards ((D + 1 : Nat) : Int) s.S q (s.Bits ++ [b]) (s.Said ++ [1])) t.Writes.length 0 fu [] (by omega) (by have := ht.wl; omega) (by simp) (by simp)
   simp only [Int.natCast_zero] at g1
   have hwl := ht.wl
   rw [bd_s g1, bd_s (rwrite_e (s := s.S) (pos := ((D + 1 : Nat) : Int)) (l := ws) h.mi.srt h.mi.sml (by omega) (by omega) (by omega))]
   have hp := h.mi.puts (Q := ((D + 1 : Nat) : Int)) (pos := ((D + 1 : Nat) : Int)) (Int.le_refl _) (l := ws) (fun w hw => ⟨ht.wv w (g3 w hw).1, wr_key ht (g3 w hw).1⟩) (by omega)
   refine ⟨_, true, rfl, fun _ => com _ 1 (by omega) ⟨hp.srt, ⟨by have := hp.sml.1; show (puts _ ws s.S.Chains).length ≤ N + 3; omega, fun c hc => by have := hp.sml.2 c hc; omega⟩, hp.ok⟩ h.mark fun c hc => ?_⟩
   rcases puts_key hc with ⟨c', k1, k2⟩ | ⟨w, k1, k2⟩
   ·rw [k2]; exact h.own c' k1
   ·rw [k2]; exact (g3 w k1).2
  ·rw [br_f (beq_eq_false_iff_ne.2 hj1)]
   exact ⟨_, true, rfl, fun _ => com _ j (by omega) hkeep h.mark h.own⟩
 cases tb2
 ·rw [br_t (by rfl)]
  cases tb
  ·rw [br_t (by rfl)]; exact fin 3 (by omega)
  ·rw [br_f (by rfl)]; exact fin 4 (by omega)
 ·rw [br_f (by rfl)]
  cases tb
  ·rw [br_t (by rfl)]; exact fin 3 (by omega)
  ·rw [br_f (by rfl)]; exact fin v (by omega)
end
theorem made_lp {fu : Nat} (hf : 100 ≤ fu) (mark : Int) (l : List TTxn) (z : TShard) (hl : l.length ≤ 15) (ht : ∀ t ∈ l, TOk t) : ∀ (d i n N D : Nat) (s : TShard), i + d = l.length → d < n → SI fu N D s → D ≤ i → N ≤ 3 * i → ∃ s' N' D', diwanlaw20_made.lp6 fu mark l z n (i : Int) s = some s' ∧ SI fu N' D' s' ∧ D' ≤ 15 ∧ N' ≤ 45
 | 0, i, n, N, D, s, e, hn, h, hD, hN => by
  obtain ⟨n, rfl⟩ : ∃ m, n = m + 1 := ⟨n - 1, by omega⟩
  rw [diwanlaw20_made.lp6, br_f (decide_eq_false (by omega))]
  exact ⟨s, N, D, rfl, h, by omega, by omega⟩
 | d + 1, i, n, N, D, s, e, hn, h, hD, hN => by
  obtain ⟨n, rfl⟩ : ∃ m, n = m + 1 := ⟨n - 1, by omega⟩
  have hx : l[i]? = some l[i] := List.getElem?_eq_getElem (by omega)
  have e1 : w64 ((i : Int) + 1) = ((i + 1 : Nat) : Int) := by rw [w64_id (by omega) (by omega)]; omega
  obtain ⟨s', ok, g1, g2⟩ := adv_e h (ht _ (List.getElem_mem (show i < l.length by omega))) (by omega) hf (by omega) [1, 1, 1]
  rw [diwanlaw20_made.lp6, br_t (decide_eq_true (by omega)), ix_n hx, bd_s g1, e1]
  dsimp only
  cases ok
  ·rw [br_t (by rfl)]; exact ⟨s, N, D, rfl, h, by omega, by omega⟩
  ·rw [br_f (by rfl)]
   exact made_lp hf mark l z hl ht d (i + 1) n (N + 3) (D + 1) s' (by omega) (by omega) (g2 rfl) (by omega) (by omega)
theorem mod_small {n m : Int} (h0 : 0 ≤ n) (h1 : n < 256) (hm : 0 < m) : 0 ≤ Int.tmod n m ∧ Int.tmod n m < m ∧ Int.tmod n m ≤ n := by
 have e := Int.tmod_eq_emod_of_nonneg (b := m) h0
 have q1 := Int.emod_nonneg n (b := m) (by omega)
 have q2 := Int.emod_lt_of_pos n (b := m) hm
 have q3 : n % m ≤ n := by
  have := Int.mul_ediv_add_emod n m
  have : 0 ≤ m * (n / m) := Int.mul_nonneg (by omega) (Int.ediv_nonneg h0 (by omega))
  omega
 omega
theorem made_e {fu : Nat} (hf : 200 ≤ fu) {picks : List Int} (hp : okL (okI .u8) picks) (hl : picks.length ≤ 1000000) {n id mark : Int} (hn : okI .u8 n) (hi : okI .u8 id) (hm : okI .u8 mark) : ∃ s N D, diwanlaw20_made fu picks n id mark = some s ∧ SI fu N D s ∧ D ≤ 15 ∧ N ≤ 45 := by
 have n8 := okI_u8 hn
 have i8 := okI_u8 hi
 have m8 := okI_u8 hm
 obtain ⟨k0, k1, k2⟩ := mod_small (m := 3) n8.1 n8.2 (by decide)
 have e1 : w64 (Int.tmod n 3) = Int.tmod n 3 := w64_id (by omega) (by omega)
 have e2 : w64 (1 + Int.tmod n 3) = 1 + Int.tmod n 3 := w64_id (by omega) (by omega)
 have e3 : w64 id = id := w64_id (by omega) (by omega)
 obtain ⟨j0, j1, j2⟩ := mod_small (m := 1 + Int.tmod n 3) i8.1 i8.2 (by omega)
 unfold diwanlaw20_made
 rw [e1, e2, e3, gd_t (by simp; omega)]
 unfold diwanref13_NewShard diwanplay_Made
 rw [bd_s rfl, bd_s rfl]
 obtain ⟨l, o', g1, g2, g3, g4⟩ := txs_e (fu := fu) (by omega) 15 (by omega) (made_inv hp.2 hl)
 have g1' : diwanplay_Picks_Txns fu 15 (TPicks.mk picks 0) = some (l, o') := g1
 rw [bd_s g1']
 dsimp only
 have h0 : SI fu 0 0 (TShard.mk (Int.tmod id (1 + Int.tmod n 3)) (1 + Int.tmod n 3) 0 (TStore.mk [] 0) [] [] []) := by
  refine ⟨⟨?_, ?_⟩, ⟨j0, j1⟩, rfl, rfl, rfl, ⟨List.Pairwise.nil, ⟨by simp, by simp⟩, by simp⟩, ⟨Int.le_refl _, show (0 : Int) ≤ 100 by decide⟩, by simp, List.Pairwise.nil, by simp, by simp, by simp, by simp⟩
  ·show 1 ≤ 1 + Int.tmod n 3; omega
  ·show 1 + Int.tmod n 3 ≤ 3; omega
 obtain ⟨s, N, D, q1, q2, q3, q4⟩ := made_lp (fu := fu) (by omega) mark l (TShard.mk 0 0 0 (TStore.mk [] 0) [] [] []) (by omega) g4 l.length 0 fu 0 0 _ (by omega) (by omega) h0 (Nat.le_refl _) (by omega)
 simp only [Int.natCast_zero] at q1
 rw [bd_s q1]
 obtain ⟨m0, m1, m2⟩ := mod_small (m := 20) m8.1 m8.2 (by decide)
 have hd := q2.dn
 have e4 : w64 (Int.tmod mark 20) = Int.tmod mark 20 := w64_id (by omega) (by omega)
 rw [e4]
 obtain ⟨p, hp⟩ : ∃ p, p = (if s.Done < Int.tmod mark 20 then s.Done else Int.tmod mark 20) := ⟨_, rfl⟩
 have hp0 : 0 ≤ p ∧ p ≤ 100 := by rw [hp]; split <;> omega
 rw [← hp, bd_s (rtrimS_e (s := s.S) p q2.mi.sml (fun c hc => (q2.mi.ok c hc).2.2.1) (by omega) (by omega))]
 refine ⟨_, N, D, rfl, ?_, q3, q4⟩
 have ht : MI N (D : Int) (trimS s.S p).Chains ∧ (0 ≤ (trimS s.S p).Mark ∧ (trimS s.S p).Mark ≤ 100) ∧ ∀ c ∈ (trimS s.S p).Chains, shN fu c.Key s.Shards = s.ID := by
  unfold trimS
  cases decide (p ≤ s.S.Mark)
  ·refine ⟨q2.mi.trs p, hp0, fun c hc => ?_⟩
   obtain ⟨c', h1, h2⟩ := List.mem_map.1 hc
   subst h2
   exact q2.own c' h1
  ·exact ⟨q2.mi, q2.mark, q2.own⟩
 exact ⟨q2.sh, q2.id, q2.dn, q2.bl, q2.sl, ht.1, ht.2.1, ht.2.2, q2.srt, q2.sln, q2.se, q2.bi, q2.sa⟩
end Go.Proofs.Ythjpcfbfiaenaaa.Told.SV
