/-
  The texts of this proof, joined: Br, Bs, Bt, Bu, Yb, Bv, Ph, Bw.
-/
import Derived.Test.YtojncfdlddepdaaBstM5
import Derived.Test.YtojncfdlddepdaaBstM3

/-
  Walk over the document's Decode of blocks.
-/
namespace Go.Proofs.Ytojncfdlddepdaa
open Go.RowKit

theorem ow_len8 {w : World} {base c : Nat} {A : Option Addr} {xs : List UInt8} (h : OwB w base A c xs) : xs.length ≤ maxLen := by
  rcases h.2 with ⟨_, hn⟩ | ⟨g, cap, cur, hv, _, _, hnc, hm, _⟩
  · rw [hn]; exact Nat.zero_le _
  · injection hv with _ _ hc
    exact Nat.le_trans hnc hm
theorem rdL_siz {b : List UInt8} {r : List (En × Nat)} (h : rdL b b.length 0 [] = some r) (_hl : b.length ≤ 1048576) : ∀ y ∈ r, y.1.key.length ≤ b.length ∧ y.1.val.length ≤ b.length ∧ y.1.seq < 2 ^ 64 := by
  have key : ∀ (f : Nat) (done : List (En × Nat)) (p : Nat) (key : List UInt8), DecI b done p key f → ∀ r', rdL b f p key = some r' → ∀ y ∈ done ++ r', y.1.key.length ≤ b.length ∧ y.1.val.length ≤ b.length ∧ y.1.seq < 2 ^ 64 := by
    intro f
    induction f with
    | zero =>
      intro done p key hI r' h
      rw [rdL] at h
      split at h
      · cases h
      · cases h; rw [List.append_nil]; exact hI.siz
    | succ f ih =>
      intro done p key hI r' h
      by_cases hlt : p < b.length
      · cases hr : rdE b p key with
        | none => rw [rdL_bad hlt hr] at h; cases h
        | some z =>
          obtain ⟨x, p'⟩ := z
          rw [rdL_step hlt hr] at h
          obtain ⟨r2, h2, rfl⟩ := Option.map_eq_some_iff.1 h
          have h1 := rdE_inv hr
          have h3 := rdE_bnd hr
          have hk := hI.key
          have hl := hI.len
          have hf := hI.fuel
          have hI2 : DecI b (done ++ [(x, p)]) p' x.key f := by
            refine ⟨by rw [hI.all, rdL_step hlt hr, opt_map_app], by omega, h1.2, by omega, by rw [List.length_append]; simp; omega, fun y hy => ?_⟩
            rcases List.mem_append.1 hy with hy | hy
            · exact hI.siz y hy
            · rw [List.mem_singleton.1 hy]
              show x.key.length ≤ b.length ∧ x.val.length ≤ b.length ∧ x.seq < 2 ^ 64
              exact ⟨by omega, by omega, h3.2.2⟩
          have := ih _ _ _ hI2 r2 h2
          rwa [List.append_assoc, List.singleton_append] at this
      · rw [rdL_end hlt] at h; cases h; rw [List.append_nil]; exact hI.siz
  exact fun y hy => key _ _ _ _ (DecI.start b) r h y (by simpa using hy)
set_option maxRecDepth 8000 in
set_option maxHeartbeats 2000000 in
theorem refDecode_any {A : Option Addr} {n c : Nat} {xs : List UInt8} {w : World} (hr : RdB w A xs) (hn : xs.length = n) (hc : xs.length ≤ c) (hl : xs.length ≤ 1099511627776) :
    CallsV Try.prog 12 #[.slice A n c] w fun v w' => ∃ (R : Option Addr) (rc : Nat), v = .tuple #[.slice R (decB xs).1.length rc, .int .i64 ((decB xs).2 : Nat)] ∧ St NoB w w' [.ck (rsC 4 38 R rc ((decB xs).1.map oE))] := by
  subst hn
  have hs := St.init w
  refine calls_in (N := _) Try.func12 rfl Try.ntmps12 rfl ?_; show WC _ _ _ _ _ _
  refine wc_sr ?_; refine wl_as rfl rfl ?_; refine wl_as rfl rfl ?_; refine wl_ns ?_; refine wc_sr ?_; refine wl_mv rfl rfl ?_
  obtain ⟨⟨body, nx, e⟩, ho⟩ : ∃ q, openB xs 0 = q := ⟨_, rfl⟩
  refine wl_call ok_caissonref03_Open (refOpen_at ho hr rfl hc (by omega) (by decide)) ⟨rfl, rfl, trivial⟩ rfl ?_
  rintro _ w1 ⟨B, bc, rfl, o1, hb⟩
  have hcap : body.length ≤ bc := o1.cap
  replace hs := hs.newO hb o1 (Nat.le_refl _)
  clear o1 hb
  dsimp only at hs ⊢
  cases e with
  | succ e =>
    have hd : decB xs = ([], e + 1) := by unfold decB; rw [ho]; rfl
    rw [hd]
    have h1 : ¬ ((e + 1 : Nat) : Int) = 0 := by omega
    refine wl_mv rfl rfl ?_; apply wl_val; apply opv_extract; exact rfl; exact rfl; exact rfl; apply wl_val; apply opv_extract; exact rfl; exact rfl; exact rfl; apply wl_val; apply opv_extract; exact rfl; exact rfl; exact rfl; refine wl_as rfl rfl ?_; refine wl_as rfl rfl ?_; refine wl_as rfl rfl ?_; refine wl_ns ?_; refine wc_seq ?_; refine wc_sr ?_; refine wl_mv rfl rfl ?_; refine wl_bin rfl rfl bin_neq rfl ?_; refine wl_ns ?_; apply wc_condTb; exact rfl; exact rfl; refine wc_sr ?_; refine wl_mv rfl rfl ?_; refine wl_as rfl rfl ?_; refine wl_as rfl rfl ?_; refine wl_ns ?_; refine wc_ret ?_; refine we_seq_ret ?_
    exact we_ret2 rfl rfl rfl ⟨_, rfl, none, 0, rfl, (hs.drop 0 rfl).nilS 4 38⟩
  | zero =>
    obtain ⟨i1, i2, i3⟩ := openB_inv (q := 0) (Nat.zero_le _) ho
    have h00 : ((0 : Nat) : Int) = 0 := rfl
    by_cases h1 : nx < xs.length
    · have h1' : ¬ (nx : Int) = (xs.length : Int) := by omega
      have hd : decB xs = ([], 3) := by unfold decB; rw [ho]; exact if_pos (.inl h1)
      rw [hd]
      refine wl_mv rfl rfl ?_; apply wl_val; apply opv_extract; exact rfl; exact rfl; exact rfl; apply wl_val; apply opv_extract; exact rfl; exact rfl; exact rfl; apply wl_val; apply opv_extract; exact rfl; exact rfl; exact rfl; refine wl_as rfl rfl ?_; refine wl_as rfl rfl ?_; refine wl_as rfl rfl ?_; refine wl_ns ?_; refine wc_seq ?_; refine wc_sr ?_; refine wl_mv rfl rfl ?_; refine wl_bin rfl rfl bin_neq rfl ?_; refine wl_ns ?_; apply wc_condFb; exact rfl; exact rfl; refine wc_skip ?_; refine we_seq ?_; refine wc_seq ?_; refine wc_sr ?_; refine wl_mv rfl rfl ?_; refine wl_mv rfl rfl ?_; apply wl_val; apply opv_len; exact rfl; exact tyB.sl; exact rfl; refine wl_bin rfl rfl bin_neq rfl ?_; refine wl_mv rfl rfl ?_; apply wl_skip; exact rfl; exact rfl; exact rfl; refine bTn ?_; (with_reducible assumption); exact rfl; apply wl_skip; exact rfl; exact rfl; exact rfl; refine bTn ?_; (with_reducible assumption); exact rfl; apply wl_skip; exact rfl; exact rfl; exact rfl; refine bTn ?_; (with_reducible assumption); exact rfl; apply wl_val; apply opv_pickT; exact rfl; refine bT ?_; (with_reducible assumption); exact rfl; exact rfl; refine wl_ns ?_; apply wc_condTb; exact rfl; exact rfl; refine wc_sr ?_; refine wl_as rfl rfl ?_; refine wl_as rfl rfl ?_; refine wl_ns ?_; refine wc_ret ?_; refine we_seq_ret ?_
      exact we_ret2 rfl rfl rfl ⟨_, rfl, none, 0, rfl, (hs.drop 0 rfl).nilS 4 38⟩
    have h1' : (nx : Int) = (xs.length : Int) := by omega
    have h1n : nx = xs.length := by omega
    by_cases h2 : body.length < 4
    · have h2' : (body.length : Int) < 4 := by omega
      have hd : decB xs = ([], 3) := by unfold decB; rw [ho]; exact if_pos (.inr h2)
      rw [hd]
      refine wl_mv rfl rfl ?_; apply wl_val; apply opv_extract; exact rfl; exact rfl; exact rfl; apply wl_val; apply opv_extract; exact rfl; exact rfl; exact rfl; apply wl_val; apply opv_extract; exact rfl; exact rfl; exact rfl; refine wl_as rfl rfl ?_; refine wl_as rfl rfl ?_; refine wl_as rfl rfl ?_; refine wl_ns ?_; refine wc_seq ?_; refine wc_sr ?_; refine wl_mv rfl rfl ?_; refine wl_bin rfl rfl bin_neq rfl ?_; refine wl_ns ?_; apply wc_condFb; exact rfl; exact rfl; refine wc_skip ?_; refine we_seq ?_; refine wc_seq ?_; refine wc_sr ?_; refine wl_mv rfl rfl ?_; refine wl_mv rfl rfl ?_; apply wl_val; apply opv_len; exact rfl; exact tyB.sl; exact rfl; refine wl_bin rfl rfl bin_neq rfl ?_; refine wl_mv rfl rfl ?_; apply wl_take; exact rfl; exact rfl; exact rfl; refine bF ?_; omega; refine wl_mv rfl rfl ?_; apply wl_take; exact rfl; exact rfl; exact rfl; refine bF ?_; omega; apply wl_val; apply opv_len; exact rfl; exact tyB.sl; exact rfl; apply wl_take; exact rfl; exact rfl; exact rfl; refine bF ?_; omega; refine wl_bin rfl rfl bin_lss rfl ?_; apply wl_val; apply opv_pickF; exact rfl; refine bF ?_; omega; exact rfl; exact rfl; refine wl_ns ?_; apply wc_decT; exact rfl; (with_reducible assumption); refine wc_sr ?_; refine wl_as rfl rfl ?_; refine wl_as rfl rfl ?_; refine wl_ns ?_; refine wc_ret ?_; refine we_seq_ret ?_
      exact we_ret2 rfl rfl rfl ⟨_, rfl, none, 0, rfl, (hs.drop 0 rfl).nilS 4 38⟩
    have h2' : ¬ (body.length : Int) < 4 := by omega
    have hm4 : (body.length : Int) - 4 = ((body.length - 4 + 0 : Nat) : Int) := by omega
    have l1 : (body.drop (body.length - 4)).length = 4 := by rw [List.length_drop]; omega
    refine wl_mv rfl rfl ?_; apply wl_val; apply opv_extract; exact rfl; exact rfl; exact rfl; apply wl_val; apply opv_extract; exact rfl; exact rfl; exact rfl; apply wl_val; apply opv_extract; exact rfl; exact rfl; exact rfl; refine wl_as rfl rfl ?_; refine wl_as rfl rfl ?_; refine wl_as rfl rfl ?_; refine wl_ns ?_; refine wc_seq ?_; refine wc_sr ?_; refine wl_mv rfl rfl ?_; refine wl_bin rfl rfl bin_neq rfl ?_; refine wl_ns ?_; apply wc_condFb; exact rfl; exact rfl; refine wc_skip ?_; refine we_seq ?_; refine wc_seq ?_; refine wc_sr ?_; refine wl_mv rfl rfl ?_; refine wl_mv rfl rfl ?_; apply wl_val; apply opv_len; exact rfl; exact tyB.sl; exact rfl; refine wl_bin rfl rfl bin_neq rfl ?_; refine wl_mv rfl rfl ?_; apply wl_take; exact rfl; exact rfl; exact rfl; refine bF ?_; omega; refine wl_mv rfl rfl ?_; apply wl_take; exact rfl; exact rfl; exact rfl; refine bF ?_; omega; apply wl_val; apply opv_len; exact rfl; exact tyB.sl; exact rfl; apply wl_take; exact rfl; exact rfl; exact rfl; refine bF ?_; omega; refine wl_bin rfl rfl bin_lss rfl ?_; apply wl_val; apply opv_pickF; exact rfl; refine bF ?_; omega; exact rfl; exact rfl; refine wl_ns ?_; apply wc_decF; exact rfl; (with_reducible assumption); refine wc_skip ?_; refine we_seq ?_; refine wc_sr ?_; refine wl_as rfl rfl ?_; refine wl_ns ?_; refine wc_seq ?_; refine wc_sr ?_; refine wl_mv rfl rfl ?_; apply wl_val; apply opv_len; exact rfl; exact tyB.sl; exact rfl; apply wl_val; apply opv_bin; exact rfl; exact rfl; exact bin_sub64 (by omega); exact rfl; refine wl_as rfl rfl ?_; refine wl_ns ?_; refine wc_block ?_
    rw [hm4]
    skip
    refine wc_loop (fun L wr mm => ∃ j : Nat, L = [(0, .slice A xs.length c), (4, .slice B body.length bc), (7, .int .i64 (numB ((body.drop (body.length - 4)).take j) : Nat)), (8, .int .i64 ((body.length - 4 + j : Nat) : Int))] ∧ j ≤ 4 ∧ St NoB w wr [.ow 5 B body.length bc (bvs body)] ∧ mm = 4 - j)
      [(0, .slice A xs.length c), (4, .slice B body.length bc), (7, .int .i64 0), (8, .int .i64 ((body.length - 4 + 0 : Nat) : Int))] 4 ⟨0, rfl, by omega, hs, rfl⟩ ⟨rfl, rfl, rfl, rfl, trivial⟩ ?_
    clear hs
    rintro _ w2 mm ⟨j, rfl, hj, hs, rfl⟩
    have hnl := numB_lt4' (l := body.drop (body.length - 4)) hj
    refine wc_seq ?_; refine wc_sr ?_; refine wl_mv rfl rfl ?_; refine wl_mv rfl rfl ?_; apply wl_val; apply opv_len; exact rfl; exact tyB.sl; exact rfl; refine wl_bin rfl rfl bin_lss rfl ?_; refine wl_ns ?_
    refine wc_cond rfl (fun h3 => ?_) (fun h3 => ?_)
    · obtain ⟨x, hx⟩ : ∃ x, body[body.length - 4 + j]? = some x := ⟨_, List.getElem?_eq_getElem (by omega)⟩
      have hrow : RdB w2 B body := (hs.ow 0 rfl).rd
      have hst := numB_step (l := body.drop (body.length - 4)) (k := j) (x := x) (by rw [List.getElem?_drop]; exact hx)
      have hxl := x.toNat_lt
      refine wc_skip ?_; refine we_seq ?_; refine wc_seq ?_; refine wc_block ?_; refine wc_region ?_; refine wl_mv rfl rfl ?_; apply wl_val; apply opv_bin; exact rfl; exact rfl; exact bin_mul64 (by omega); exact rfl; refine wl_mv rfl rfl ?_; refine wl_mv rfl rfl ?_; apply wl_byK (T := tyB) (hr := hrow) (hb := hx); exact rfl; exact rfl; exact rfl; exact rfl; exact rfl; intro _; apply wl_val; apply opv_convR; exact rfl; exact Try.underlying5; exact Try.underlying3; exact IntWalk.i64_in _ (by omega); exact rfl; apply wl_val; apply opv_bin; exact rfl; exact rfl; exact bin_add64 (by omega); exact rfl; refine wl_as rfl rfl ?_; refine wl_nil ?_; refine we_block_norm ?_; refine we_seq ?_; refine wc_region ?_; refine wl_mv rfl rfl ?_; apply wl_val; apply opv_bin; exact rfl; exact rfl; exact bin_add64 (by omega); exact rfl; refine wl_as rfl rfl ?_; refine wl_nil ?_
      have e1 : ((numB ((body.drop (body.length - 4)).take (j + 1)) : Nat) : Int) = (numB ((body.drop (body.length - 4)).take j) : Int) * 256 + (x.toNat : Int) := by rw [hst]; omega
      exact we_loop _ (4 - (j + 1)) ⟨j + 1, rfl, by omega, hs, rfl⟩ (by omega) ⟨rfl, rfl, by rw [e1]; rfl, by rw [show body.length - 4 + (j + 1) = body.length - 4 + j + 1 by omega]; rfl, trivial⟩
    · obtain rfl : j = 4 := by omega
      rw [List.take_of_length_le (Nat.le_of_eq l1)] at hnl ⊢
      obtain ⟨k, hk⟩ : ∃ q, numB (body.drop (body.length - 4)) = q := ⟨_, rfl⟩
      rw [hk] at hnl ⊢
      by_cases h5 : (body.length - 4) / 4 < k
      · have hd : decB xs = ([], 3) := by unfold decB; rw [ho]; simp only; rw [if_neg (by omega), hk, if_pos h5]
        rw [hd]
        have h5' : 4 * (k : Int) + 4 > (body.length : Int) := by omega
        refine wc_exit ?_; refine we_seq_exit ?_; refine we_loop_exit ?_; refine we_block_exit ?_; refine we_seq ?_; refine wc_seq ?_; refine wc_sr ?_; refine wl_mv rfl rfl ?_; apply wl_val; apply opv_bin; exact rfl; exact rfl; exact bin_mul64 (by omega); exact rfl; apply wl_val; apply opv_bin; exact rfl; exact rfl; exact bin_add64 (by omega); exact rfl; refine wl_mv rfl rfl ?_; apply wl_val; apply opv_len; exact rfl; exact tyB.sl; exact rfl; refine wl_bin rfl rfl bin_gtr rfl ?_; refine wl_ns ?_; apply wc_decT; exact rfl; (with_reducible assumption); refine wc_sr ?_; refine wl_as rfl rfl ?_; refine wl_as rfl rfl ?_; refine wl_ns ?_; refine wc_ret ?_; refine we_seq_ret ?_
        exact we_ret2 rfl rfl rfl ⟨_, rfl, none, 0, rfl, (hs.drop 0 rfl).nilS 4 38⟩
      have h5' : ¬ 4 * (k : Int) + 4 > (body.length : Int) := by omega
      obtain ⟨q, hq⟩ : ∃ q, body.length - 4 - 4 * k = q := ⟨_, rfl⟩
      have hqi : (body.length : Int) - 4 - 4 * (k : Int) = (q : Int) := by omega
      have lq : (body.take q).length = q := by rw [List.length_take]; omega
      obtain ⟨ss, hss⟩ : ∃ s, startsB (body.take (body.length - 4)) q k = s := ⟨_, rfl⟩
      have hsl : ss.length = k := by rw [← hss]; exact startsB_len _ _ _
      have hd : decB xs = match rdL (body.take q) q 0 [] with
        | none => ([], 3)
        | some r => if buildB (evL ss (r.map (·.2))) (r.map (·.1)) = (xs, 0) then (r.map (·.1), 0) else ([], 3) := by
        unfold decB; rw [ho]; simp only; rw [if_neg (by omega), hk, if_neg h5, hq, hss]
        rfl
      refine wc_exit ?_; refine we_seq_exit ?_; refine we_loop_exit ?_; refine we_block_exit ?_; refine we_seq ?_; refine wc_seq ?_; refine wc_sr ?_; refine wl_mv rfl rfl ?_; apply wl_val; apply opv_bin; exact rfl; exact rfl; exact bin_mul64 (by omega); exact rfl; apply wl_val; apply opv_bin; exact rfl; exact rfl; exact bin_add64 (by omega); exact rfl; refine wl_mv rfl rfl ?_; apply wl_val; apply opv_len; exact rfl; exact tyB.sl; exact rfl; refine wl_bin rfl rfl bin_gtr rfl ?_; refine wl_ns ?_; apply wc_decF; exact rfl; (with_reducible assumption); refine wc_skip ?_; refine we_seq ?_; refine wc_sr ?_; refine wl_mv rfl rfl ?_; refine wl_mv rfl rfl ?_; apply wl_val; apply opv_len; exact rfl; exact tyB.sl; exact rfl; apply wl_val; apply opv_bin; exact rfl; exact rfl; exact bin_sub64 (by omega); exact rfl; refine wl_mv rfl rfl ?_; apply wl_val; apply opv_bin; exact rfl; exact rfl; exact bin_mul64 (by omega); exact rfl; apply wl_val; apply opv_bin; exact rfl; exact rfl; exact bin_sub64 (by omega); exact rfl
      rw [hqi]
      refine wl_sl (l := 0) (h := q) tyB rfl rfl ⟨_, rfl⟩ (Nat.zero_le _) (by omega) rfl ?_
      have rq : RdB w2 (cutA B bc 0) (body.take q) := by
        have := cutB_rd (l := 0) (h := q) (c := bc) (xs := body) (hs.ow 0 rfl).rd (Nat.zero_le _) (by omega) hcap
        rw [List.drop_zero] at this; exact this
      rw [Nat.sub_zero, Nat.sub_zero]
      refine wl_call ok_caissonref08_read (refRead_any rq lq (by omega) (by omega)) ⟨rfl, trivial⟩ rfl ?_
      rw [lq]
      intro v w3 hv
      cases hrd : rdL (body.take q) q 0 [] with
      | none =>
        rw [hrd] at hv hd
        obtain ⟨rfl, hbx⟩ := hv
        replace hs := hs.below hbx
        rw [hd]
        refine wl_mv rfl rfl ?_; apply wl_val; apply opv_extract; exact rfl; exact rfl; exact rfl; apply wl_val; apply opv_extract; exact rfl; exact rfl; exact rfl; apply wl_val; apply opv_extract; exact rfl; exact rfl; exact rfl; refine wl_as rfl rfl ?_; refine wl_as rfl rfl ?_; refine wl_as rfl rfl ?_; refine wl_ns ?_; refine wc_seq ?_; refine wc_sr ?_; refine wl_mv rfl rfl ?_; apply wl_val; apply opv_not; exact rfl; exact rfl; refine wl_ns ?_; apply wc_condTb; exact rfl; exact Bool.not_false; refine wc_sr ?_; refine wl_as rfl rfl ?_; refine wl_as rfl rfl ?_; refine wl_ns ?_; refine wc_ret ?_; refine we_seq_ret ?_
        exact we_ret2 rfl rfl rfl ⟨_, rfl, none, 0, rfl, (hs.drop 0 rfl).nilS 4 38⟩
      | some r =>
        rw [hrd] at hv hd
        obtain ⟨R, rc, Q, qc, rfl, hsx⟩ := hv
        replace hs := hs.call hsx
        clear hsx
        dsimp only [List.cons_append, List.nil_append] at hs hd
        obtain ⟨l, hrl⟩ : ∃ q, r.map (·.1) = q := ⟨_, rfl⟩
        obtain ⟨ps, hrp⟩ : ∃ q, r.map (·.2) = q := ⟨_, rfl⟩
        have hll : r.length = l.length := by rw [← hrl, List.length_map]
        have hpl : ps.length = l.length := by rw [← hrl, ← hrp]; simp
        have hinc := (rdL_inc hrd).2
        have hrd2 : rdL (body.take q) (body.take q).length 0 [] = some r := by rw [lq]; exact hrd
        have hl9 := rdL_len hrd2 (Nat.zero_le _)
        have hlb : l.length ≤ 1048576 := by omega
        rw [hrp] at hinc
        rw [hrl, hrp] at hs hd
        rw [hll] at hs ⊢
        rw [hd]
        by_cases hne : l = []
        · subst hne
          have hpn : ps = [] := List.eq_nil_of_length_eq_zero hpl
          subst hpn
          have hev : evL ss [] = 1 := rfl
          obtain ⟨hb1, _⟩ := dec_build (every := 1) (l := []) (by decide) (fun x h => by cases h) rfl rfl (by rw [blkB_length]; decide)
          have hz0 : (([] : List En).length : Int) = 0 := rfl
          rw [hev, hb1]
          obtain ⟨bs, hbs⟩ : ∃ q, crcRec (blkB 1 []) = q := ⟨_, rfl⟩
          rw [hbs] at hb1 ⊢
          refine wl_mv rfl rfl ?_; apply wl_val; apply opv_extract; exact rfl; exact rfl; exact rfl; apply wl_val; apply opv_extract; exact rfl; exact rfl; exact rfl; apply wl_val; apply opv_extract; exact rfl; exact rfl; exact rfl; refine wl_as rfl rfl ?_; refine wl_as rfl rfl ?_; refine wl_as rfl rfl ?_; refine wl_ns ?_; refine wc_seq ?_; refine wc_sr ?_; refine wl_mv rfl rfl ?_; apply wl_val; apply opv_not; exact rfl; exact rfl; refine wl_ns ?_; apply wc_condFb; exact rfl; exact Bool.not_true; refine wc_skip ?_; refine we_seq ?_; refine wc_seq ?_; refine wc_sr ?_; refine wl_mv rfl rfl ?_; apply wl_val; apply opv_len; exact rfl; exact tkE.sl; exact rfl; refine wl_bin rfl rfl bin_eql rfl ?_; refine wl_ns ?_; apply wc_condTb; exact rfl; exact rfl; refine wc_sr ?_
          refine wl_call ok_caissonref08_Build (refBuild_any (every := 1) (l := []) (by decide) (by decide) (RdR.nil none) rfl (by decide) (fun x h => by cases h)) ⟨rfl, rfl, trivial⟩ rfl ?_
          rw [hb1]
          rintro _ w4 ⟨G, gc, rfl, oG, hbx⟩
          replace hs := hs.below hbx
          clear hbx
          dsimp only at oG ⊢
          refine wl_mv rfl rfl ?_; apply wl_val; apply opv_extract; exact rfl; exact rfl; exact rfl; apply wl_val; apply opv_extract; exact rfl; exact rfl; exact rfl; refine wl_as rfl rfl ?_; refine wl_as rfl rfl ?_; refine wl_ns ?_; refine wc_seq ?_; refine wc_sr ?_; refine wl_mv rfl rfl ?_; refine wl_mv rfl rfl ?_
          refine wl_call ok_caissonref01_Equal (equal_any (xs := bs) (ys := xs) oG.rd (hr.below hs.bel) rfl rfl (by rw [← hbs, crcRec_length, blkB_length]; decide)) ⟨rfl, rfl, trivial⟩ rfl ?_
          rintro _ w5 ⟨rfl, hbx⟩
          replace hs := hs.below hbx
          clear hbx
          by_cases he : bs = xs
          · rw [decide_eq_true he, if_pos (by rw [he])]
            apply wl_val; apply opv_not; exact rfl; exact rfl; refine wl_ns ?_; apply wc_condFb; exact rfl; exact Bool.not_true; refine wc_skip ?_; refine we_seq ?_; refine wc_sr ?_; refine wl_as rfl rfl ?_; refine wl_as rfl rfl ?_; refine wl_ns ?_; refine wc_ret ?_; refine we_seq_ret ?_
            exact we_ret2 rfl rfl rfl ⟨_, rfl, none, 0, rfl, (hs.nil).nilS 4 38⟩
          · rw [decide_eq_false he, if_neg fun h => he (Prod.mk.inj h).1]
            apply wl_val; apply opv_not; exact rfl; exact rfl; refine wl_ns ?_; apply wc_condTb; exact rfl; exact Bool.not_false; refine wc_sr ?_; refine wl_as rfl rfl ?_; refine wl_as rfl rfl ?_; refine wl_ns ?_; refine wc_ret ?_; refine we_seq_ret ?_; refine we_seq_ret ?_
            exact we_ret2 rfl rfl rfl ⟨_, rfl, none, 0, rfl, (hs.nil).nilS 4 38⟩
        have hlp : 0 < l.length := List.length_pos_iff.2 hne
        have hz0 : ¬ (l.length : Int) = 0 := by omega
        rw [← ev8_eq (b := xs) (r := r) ho hk hsl hrl hrp hinc hne]
        have hpq : ∀ {w' : World}, (∃ T, (Cd.ow 3 Q l.length qc (natV ps)).P w' T) → Rd w' Q l.length (natV ps) := fun ⟨T, h⟩ => h.2.rd
        refine wl_mv rfl rfl ?_; apply wl_val; apply opv_extract; exact rfl; exact rfl; exact rfl; apply wl_val; apply opv_extract; exact rfl; exact rfl; exact rfl; apply wl_val; apply opv_extract; exact rfl; exact rfl; exact rfl; refine wl_as rfl rfl ?_; refine wl_as rfl rfl ?_; refine wl_as rfl rfl ?_; refine wl_ns ?_; refine wc_seq ?_; refine wc_sr ?_; refine wl_mv rfl rfl ?_; apply wl_val; apply opv_not; exact rfl; exact rfl; refine wl_ns ?_; apply wc_condFb; exact rfl; exact Bool.not_true; refine wc_skip ?_; refine we_seq ?_; refine wc_seq ?_; refine wc_sr ?_; refine wl_mv rfl rfl ?_; apply wl_val; apply opv_len; exact rfl; exact tkE.sl; exact rfl; refine wl_bin rfl rfl bin_eql rfl ?_; refine wl_ns ?_; apply wc_decF; exact rfl; (with_reducible assumption); refine wc_skip ?_; refine we_seq ?_; refine wc_sr ?_; refine wl_mv rfl rfl ?_; apply wl_val; apply opv_len; exact rfl; exact tkE.sl; exact rfl; refine wl_as rfl rfl ?_; refine wl_ns ?_; refine wc_seq ?_; refine wc_sr ?_; refine wl_mv rfl rfl ?_; refine wl_bin rfl rfl bin_gtr rfl ?_; refine wl_ns ?_
        refine wc_cutE (fun L' w' => L' = [(0, .slice A xs.length c), (9, .slice R l.length rc), (14, .int .i64 (ev8 ss k ps : Nat))] ∧ w' = w3) ?_ ?_
        · by_cases hk1 : 1 < k
          · have hk1' : (k : Int) > 1 := by omega
            have hat : (body.length : Int) - 4 * (k : Int) = ((q + 4 + 0 : Nat) : Int) := by omega
            have hat2 : ((q + 4 + 0 : Nat) : Int) = ((q + 4 : Nat) : Int) := rfl
            apply wc_decT; exact rfl; (with_reducible assumption); refine wc_sr ?_; refine wl_as rfl rfl ?_; refine wl_ns ?_; refine wc_sr ?_; refine wl_mv rfl rfl ?_; apply wl_val; apply opv_len; exact rfl; exact tyB.sl; exact rfl; refine wl_mv rfl rfl ?_; apply wl_val; apply opv_bin; exact rfl; exact rfl; exact bin_mul64 (by omega); exact rfl; apply wl_val; apply opv_bin; exact rfl; exact rfl; exact bin_sub64 (by omega); exact rfl; refine wl_as rfl rfl ?_; refine wl_ns ?_; refine wc_seq ?_; refine wc_sr ?_; refine wl_mv rfl rfl ?_; refine wl_as rfl rfl ?_; refine wl_ns ?_; refine wc_block ?_
            rw [hat]
            have l4 : ((body.drop (q + 4)).take 4).length = 4 := by rw [List.length_take, List.length_drop]; omega
            refine wc_loop (fun L wr mm => ∃ j : Nat, L = [(0, .slice A xs.length c), (4, .slice B body.length bc), (9, .slice R l.length rc), (10, .slice Q l.length qc), (14, .int .i64 (l.length : Int)), (15, .int .i64 (numB ((body.drop (q + 4)).take j) : Nat)), (16, .int .i64 ((q + 4 : Nat) : Int)), (17, .int .i64 ((q + 4 + j : Nat) : Int))] ∧ j ≤ 4 ∧ wr = w3 ∧ mm = 4 - j)
              [(0, .slice A xs.length c), (4, .slice B body.length bc), (9, .slice R l.length rc), (10, .slice Q l.length qc), (14, .int .i64 (l.length : Int)), (15, .int .i64 0), (16, .int .i64 ((q + 4 : Nat) : Int)), (17, .int .i64 ((q + 4 + 0 : Nat) : Int))] 4 ⟨0, rfl, by omega, rfl, rfl⟩ ⟨rfl, rfl, rfl, rfl, rfl, rfl, rfl, rfl, trivial⟩ ?_
            rintro _ w3 mm ⟨j, rfl, hj, rfl, rfl⟩
            have hnl2 := numB_lt4' (l := body.drop (q + 4)) hj
            refine wc_seq ?_; refine wc_sr ?_; refine wl_mv rfl rfl ?_; refine wl_mv rfl rfl ?_; apply wl_val; apply opv_bin; exact rfl; exact rfl; exact bin_add64 (by omega); exact rfl; refine wl_bin rfl rfl bin_lss rfl ?_; refine wl_ns ?_
            refine wc_cond rfl (fun h3 => ?_) (fun h3 => ?_)
            · obtain ⟨x, hx⟩ : ∃ x, body[q + 4 + j]? = some x := ⟨_, List.getElem?_eq_getElem (by omega)⟩
              have hrow : RdB _ B body := (hs.ow 2 rfl).rd
              have hst := numB_step (l := body.drop (q + 4)) (k := j) (x := x) (by rw [List.getElem?_drop]; exact hx)
              have hxl := x.toNat_lt
              refine wc_skip ?_; refine we_seq ?_; refine wc_seq ?_; refine wc_block ?_; refine wc_region ?_; refine wl_mv rfl rfl ?_; apply wl_val; apply opv_bin; exact rfl; exact rfl; exact bin_mul64 (by omega); exact rfl; refine wl_mv rfl rfl ?_; refine wl_mv rfl rfl ?_; apply wl_byK (T := tyB) (hr := hrow) (hb := hx); exact rfl; exact rfl; exact rfl; exact rfl; exact rfl; intro _; apply wl_val; apply opv_convR; exact rfl; exact Try.underlying5; exact Try.underlying3; exact IntWalk.i64_in _ (by omega); exact rfl; apply wl_val; apply opv_bin; exact rfl; exact rfl; exact bin_add64 (by omega); exact rfl; refine wl_as rfl rfl ?_; refine wl_nil ?_; refine we_block_norm ?_; refine we_seq ?_; refine wc_region ?_; refine wl_mv rfl rfl ?_; apply wl_val; apply opv_bin; exact rfl; exact rfl; exact bin_add64 (by omega); exact rfl; refine wl_as rfl rfl ?_; refine wl_nil ?_
              have e1 : ((numB ((body.drop (q + 4)).take (j + 1)) : Nat) : Int) = (numB ((body.drop (q + 4)).take j) : Int) * 256 + (x.toNat : Int) := by rw [hst]; omega
              exact we_loop _ (4 - (j + 1)) ⟨j + 1, rfl, by omega, rfl, rfl⟩ (by omega) ⟨rfl, rfl, rfl, rfl, rfl, by rw [e1]; rfl, rfl, by rw [show q + 4 + (j + 1) = q + 4 + j + 1 by omega]; rfl, trivial⟩
            · obtain rfl : j = 4 := by omega
              obtain ⟨sd, hsd⟩ : ∃ z, numB ((body.drop (q + 4)).take 4) = z := ⟨_, rfl⟩
              rw [hsd] at hnl2 ⊢
              have hs1 : ss[1]? = some sd := by
                rw [← hss, startsB, List.getElem?_map, List.getElem?_range (by omega)]
                simp only [Option.map_some, Option.some.injEq]
                rw [← hsd, List.drop_take, List.take_take, Nat.min_eq_left (by omega)]
              have e8 : ev8 ss k ps = evR sd ps ps.length ps.length := by rw [ev8, if_pos hk1, hs1]; rfl
              rw [e8]
              refine wc_exit ?_; refine we_seq_exit ?_; refine we_loop_exit ?_; refine we_block_exit ?_; refine we_seq ?_; refine wc_sr ?_; refine wl_as rfl rfl ?_; refine wl_ns ?_; refine wc_block ?_
              refine wc_loop (fun L wr mm => ∃ i : Nat, L = [(0, .slice A xs.length c), (9, .slice R l.length rc), (10, .slice Q l.length qc), (14, .int .i64 (evR sd ps ps.length i : Nat)), (15, .int .i64 (sd : Nat)), (18, .int .i64 (i : Int))] ∧ i ≤ ps.length ∧ wr = w3 ∧ mm = ps.length - i)
                [(0, .slice A xs.length c), (9, .slice R l.length rc), (10, .slice Q l.length qc), (14, .int .i64 (l.length : Int)), (15, .int .i64 (sd : Nat)), (18, .int .i64 (0 : Nat))] ps.length ⟨0, by rw [evR, hpl], by omega, rfl, rfl⟩ ⟨rfl, rfl, rfl, rfl, rfl, rfl, trivial⟩ ?_
              rintro _ _ mm ⟨i, rfl, hi, rfl, rfl⟩
              refine wc_seq ?_; refine wc_sr ?_; refine wl_mv rfl rfl ?_; refine wl_mv rfl rfl ?_; apply wl_val; apply opv_len; exact rfl; exact tyI.sl; exact rfl; refine wl_bin rfl rfl bin_lss rfl ?_; refine wl_ns ?_
              refine wc_cond rfl (fun h6 => ?_) (fun h6 => ?_)
              · obtain ⟨u, hu0⟩ : ∃ u, ps[i]? = some u := ⟨_, List.getElem?_eq_getElem (by omega)⟩
                have hu : (natV ps)[i]? = some (.int .i64 (u : Int)) := by rw [natV, List.getElem?_map, hu0]; rfl
                have hrow := (hs.ow 0 rfl).rd
                have hes : evR sd ps ps.length (i + 1) = if u = sd then i else evR sd ps ps.length i := by
                  rw [evR, hu0]
                  by_cases h : u = sd
                  · rw [if_pos h, if_pos (by rw [h])]
                  · rw [if_neg h, if_neg fun h' => h (Option.some.inj h')]
                by_cases h7 : u = sd
                · have h7' : (u : Int) = (sd : Int) := by omega
                  rw [if_pos h7] at hes
                  refine wc_skip ?_; refine we_seq ?_; refine wc_seq ?_; refine wc_block ?_; refine wc_sr ?_; refine wl_mv rfl rfl ?_; refine wl_mv rfl rfl ?_; apply wl_elK (T := tyI) (hr := hrow) (hb := hu); exact rfl; exact rfl; exact rfl; exact rfl; exact rfl; intro _; refine wl_mv rfl rfl ?_; refine wl_bin rfl rfl bin_eql rfl ?_; refine wl_ns ?_; apply wc_decT; exact rfl; (with_reducible assumption); refine wc_region ?_; refine wl_mv rfl rfl ?_; refine wl_as rfl rfl ?_; refine wl_nil ?_; refine we_block_norm ?_; refine we_seq ?_; refine wc_region ?_; refine wl_mv rfl rfl ?_; apply wl_val; apply opv_bin; exact rfl; exact rfl; exact bin_add64 (by omega); exact rfl; refine wl_as rfl rfl ?_; refine wl_nil ?_
                  exact we_loop _ (ps.length - (i + 1)) ⟨i + 1, rfl, by omega, rfl, rfl⟩ (by omega) ⟨rfl, rfl, rfl, by rw [hes]; rfl, rfl, by simp [lookT], trivial⟩
                · have h7' : ¬ (u : Int) = (sd : Int) := by omega
                  rw [if_neg h7] at hes
                  refine wc_skip ?_; refine we_seq ?_; refine wc_seq ?_; refine wc_block ?_; refine wc_sr ?_; refine wl_mv rfl rfl ?_; refine wl_mv rfl rfl ?_; apply wl_elK (T := tyI) (hr := hrow) (hb := hu); exact rfl; exact rfl; exact rfl; exact rfl; exact rfl; intro _; refine wl_mv rfl rfl ?_; refine wl_bin rfl rfl bin_eql rfl ?_; refine wl_ns ?_; apply wc_decF; exact rfl; (with_reducible assumption); refine wc_skip ?_; refine we_block_norm ?_; refine we_seq ?_; refine wc_region ?_; refine wl_mv rfl rfl ?_; apply wl_val; apply opv_bin; exact rfl; exact rfl; exact bin_add64 (by omega); exact rfl; refine wl_as rfl rfl ?_; refine wl_nil ?_
                  exact we_loop _ (ps.length - (i + 1)) ⟨i + 1, rfl, by omega, rfl, rfl⟩ (by omega) ⟨rfl, rfl, rfl, by rw [hes]; rfl, rfl, by simp [lookT], trivial⟩
              · obtain rfl : i = ps.length := by omega
                refine wc_exit ?_; refine we_seq_exit ?_; refine we_loop_exit ?_; refine we_block_exit ?_
                exact we_cut _ ⟨rfl, rfl⟩ ⟨rfl, rfl, rfl, trivial⟩
          · have hk1' : ¬ (k : Int) > 1 := by omega
            have e8 : ev8 ss k ps = l.length := by rw [ev8, if_neg hk1, hpl]
            rw [e8]
            apply wc_decF; exact rfl; (with_reducible assumption); refine wc_skip ?_
            exact we_cut _ ⟨rfl, rfl⟩ ⟨rfl, rfl, rfl, trivial⟩
        rintro _ _ ⟨rfl, rfl⟩
        refine we_seq ?_
        refine wc_seq ?_; refine wc_sr ?_; refine wl_mv rfl rfl ?_; refine wl_bin rfl rfl bin_eql rfl ?_; refine wl_ns ?_
        have hel : ev8 ss k ps ≤ l.length := by
          have key : ∀ i, i ≤ ps.length → evR (ss[1]?.getD 0) ps ps.length i ≤ ps.length := by
            intro i
            induction i with
            | zero => intro _; exact Nat.le_refl _
            | succ i ih => intro h; have := ih (by omega); rw [evR]; split <;> omega
          rw [ev8, ← hpl]; split
          · exact key _ (Nat.le_refl _)
          · exact Nat.le_refl _
        obtain ⟨ev, hevd⟩ : ∃ z, ev8 ss k ps = z := ⟨_, rfl⟩
        rw [hevd] at hel ⊢
        by_cases h8 : ev = 0
        · subst h8
          rw [if_pos rfl]
          apply wc_condTb; exact rfl; exact rfl; refine wc_sr ?_; refine wl_as rfl rfl ?_; refine wl_as rfl rfl ?_; refine wl_ns ?_; refine wc_ret ?_; refine we_seq_ret ?_
          exact we_ret2 rfl rfl rfl ⟨_, rfl, none, 0, rfl, (hs.nil).nilS 4 38⟩
        have h8' : ¬ (ev : Int) = 0 := by omega
        rw [if_neg h8]
        have hz2 : Siz2 l := fun x hx => by
          rw [← hrl] at hx
          obtain ⟨y, hy, rfl⟩ := List.mem_map.1 hx
          have := rdL_siz hrd2 (by omega) y hy
          exact ⟨by omega, by omega, this.2.2⟩
        apply wc_decF; exact rfl; (with_reducible assumption); refine wc_skip ?_; refine we_seq ?_; refine wc_sr ?_; refine wl_mv rfl rfl ?_; refine wl_mv rfl rfl ?_
        refine wl_call ok_caissonref08_Build (refBuild_any (every := ev) (l := l) (by omega) (by omega) (OwR.rd (hs.rsE 1 rfl)) rfl (by omega) hz2) ⟨rfl, rfl, trivial⟩ rfl ?_
        obtain ⟨⟨G, eb⟩, hbB⟩ : ∃ z, buildB ev l = z := ⟨_, rfl⟩
        rw [hbB]
        rintro _ w4 ⟨GA, gc, rfl, oG, hbx⟩
        replace hs := hs.below hbx
        clear hbx
        dsimp only at oG ⊢
        by_cases h9 : eb = 0
        · subst h9
          refine wl_mv rfl rfl ?_; apply wl_val; apply opv_extract; exact rfl; exact rfl; exact rfl; apply wl_val; apply opv_extract; exact rfl; exact rfl; exact rfl; refine wl_as rfl rfl ?_; refine wl_as rfl rfl ?_; refine wl_ns ?_; refine wc_seq ?_; refine wc_sr ?_; refine wl_mv rfl rfl ?_; refine wl_bin rfl rfl bin_neq rfl ?_; refine wl_mv rfl rfl ?_; apply wl_take; exact rfl; exact rfl; exact rfl; refine bF ?_; omega; refine wl_mv rfl rfl ?_; apply wl_take; exact rfl; exact rfl; exact rfl; refine bF ?_; omega; refine wl_mv rfl rfl ?_; apply wl_take; exact rfl; exact rfl; exact rfl; refine bF ?_; omega
          refine wl_call ok_caissonref01_Equal (equal_any (xs := G) (ys := xs) oG.rd (hr.below hs.bel) rfl rfl (by have := ow_len8 oG; exact this)) ⟨rfl, rfl, trivial⟩ rfl ?_
          rintro _ w5 ⟨rfl, hbx⟩
          replace hs := hs.below hbx
          clear hbx
          by_cases he : G = xs
          · rw [decide_eq_true he, if_pos (by rw [he])]
            apply wl_take; exact rfl; exact rfl; exact rfl; refine bF ?_; omega; apply wl_val; apply opv_not; exact rfl; exact rfl; apply wl_val; apply opv_pickF; exact rfl; refine bF ?_; omega; exact rfl; exact rfl; refine wl_ns ?_; apply wc_condFb; exact rfl; exact Bool.not_true; refine wc_skip ?_; refine we_seq ?_; refine wc_sr ?_; refine wl_mv rfl rfl ?_; refine wl_as rfl rfl ?_; refine wl_as rfl rfl ?_; refine wl_ns ?_; refine wc_ret ?_
            exact we_ret2 rfl rfl rfl ⟨_, rfl, R, rc, rfl, (hs.drop 2 rfl).drop 0 rfl⟩
          · rw [decide_eq_false he, if_neg fun h => he (Prod.mk.inj h).1]
            apply wl_take; exact rfl; exact rfl; exact rfl; refine bF ?_; omega; apply wl_val; apply opv_not; exact rfl; exact rfl; apply wl_val; apply opv_pickF; exact rfl; refine bF ?_; omega; exact rfl; exact rfl; refine wl_ns ?_; apply wc_condTb; exact rfl; exact Bool.not_false; refine wc_sr ?_; refine wl_as rfl rfl ?_; refine wl_as rfl rfl ?_; refine wl_ns ?_; refine wc_ret ?_; refine we_seq_ret ?_
            exact we_ret2 rfl rfl rfl ⟨_, rfl, none, 0, rfl, (hs.nil).nilS 4 38⟩
        · have h9' : ¬ (eb : Int) = 0 := by omega
          rw [if_neg fun h => h9 (Prod.mk.inj h).2]
          refine wl_mv rfl rfl ?_; apply wl_val; apply opv_extract; exact rfl; exact rfl; exact rfl; apply wl_val; apply opv_extract; exact rfl; exact rfl; exact rfl; refine wl_as rfl rfl ?_; refine wl_as rfl rfl ?_; refine wl_ns ?_; refine wc_seq ?_; refine wc_sr ?_; refine wl_mv rfl rfl ?_; refine wl_bin rfl rfl bin_neq rfl ?_; refine wl_mv rfl rfl ?_; apply wl_skip; exact rfl; exact rfl; exact rfl; refine bTn ?_; (with_reducible assumption); exact rfl; apply wl_skip; exact rfl; exact rfl; exact rfl; refine bTn ?_; (with_reducible assumption); exact rfl; apply wl_skip; exact rfl; exact rfl; exact rfl; refine bTn ?_; (with_reducible assumption); exact rfl; apply wl_skip; exact rfl; exact rfl; exact rfl; refine bTn ?_; (with_reducible assumption); exact rfl; apply wl_val; apply opv_pickT; exact rfl; refine bT ?_; (with_reducible assumption); exact rfl; exact rfl; refine wl_ns ?_; apply wc_condTb; exact rfl; exact rfl; refine wc_sr ?_; refine wl_as rfl rfl ?_; refine wl_as rfl rfl ?_; refine wl_ns ?_; refine wc_ret ?_; refine we_seq_ret ?_
          exact we_ret2 rfl rfl rfl ⟨_, rfl, none, 0, rfl, (hs.nil).nilS 4 38⟩
end Go.Proofs.Ytojncfdlddepdaa


/-
  Walk over the document's Seek of blocks, and over the fixed fact of its laws.
-/
namespace Go.Proofs.Ytojncfdlddepdaa
open Go.RowKit

theorem refSeek8_any {A K : Option Addr} {n c kn kc m : Nat} {l : List En} {key : List UInt8} {w : World} (hr : RdR 4 w All A (l.map enEl)) (hn : l.length = n) (hl : l.length ≤ 4294967296) (rk : RdB w K key) (hkn : key.length = kn) (hkl : key.length ≤ maxLen) (hok : ∀ x ∈ l, x.key.length ≤ maxLen) :
    CallsV Try.prog 15 #[.slice A n c, .slice K kn kc, .int .u64 (m : Int)] w fun v w' => (∃ (X : Option Addr) (cx : Nat) (Y : Option Addr) (cy : Nat), v = .tuple #[.agg (enV ((sekE l ⟨key, m, 0, []⟩).getD noE) X cx Y cy).toArray, .bool (sekE l ⟨key, m, 0, []⟩).isSome] ∧ RdB w' X ((sekE l ⟨key, m, 0, []⟩).getD noE).key ∧ RdB w' Y ((sekE l ⟨key, m, 0, []⟩).getD noE).val) ∧ Below w.heap.size w w' := by
  subst hn hkn
  have hs := St.init w
  refine calls_in (N := _) Try.func15 rfl Try.ntmps15 rfl ?_; show WC _ _ _ _ _ _
  refine wc_sr ?_
  refine ws_new hs zeroE rfl ?_; clear hs; intro g6 _ hs
  unfold zE at hs
  refine wl_as rfl rfl ?_; refine wl_ns ?_; refine wc_seq ?_; refine wc_sr ?_; refine wl_as rfl rfl ?_; refine wl_ns ?_; refine wc_block ?_
  refine wc_loop (fun L wr mm => ∃ i : Nat, L = [(0, .slice A l.length c), (1, .slice K key.length kc), (2, .int .u64 (m : Int)), (6, .pointer (some ⟨g6, 0, none⟩)), (8, .int .i64 (i : Int))] ∧ i ≤ l.length ∧ sekE l ⟨key, m, 0, []⟩ = sekE (l.drop i) ⟨key, m, 0, []⟩ ∧ St NoB w wr [.blk g6 38 [.slice none 0 0, .int .u64 0, .int .u8 0, .slice none 0 0]] ∧ mm = l.length - i)
    [(0, .slice A l.length c), (1, .slice K key.length kc), (2, .int .u64 (m : Int)), (6, .pointer (some ⟨g6, 0, none⟩)), (8, .int .i64 (0 : Nat))] l.length ⟨0, rfl, by omega, rfl, hs, rfl⟩ ⟨rfl, rfl, rfl, rfl, rfl, trivial⟩ ?_
  clear hs
  rintro _ w2 mm ⟨i, rfl, hi, hse, hs, rfl⟩
  refine wc_seq ?_; refine wc_sr ?_; refine wl_mv rfl rfl ?_; refine wl_mv rfl rfl ?_; apply wl_val; apply opv_len; exact rfl; exact tkE.sl; exact rfl; refine wl_bin rfl rfl bin_lss rfl ?_; refine wl_ns ?_
  refine wc_cond rfl (fun h1 => ?_) (fun h1 => ?_)
  · obtain ⟨x, hx⟩ : ∃ x, l[i]? = some x := ⟨_, List.getElem?_eq_getElem (by omega)⟩
    obtain ⟨b, o, cs, rfl, _, _, hp, i0⟩ := RdR.at (k := 4) (by decide) hr (E := enEl x) (i := i) (by rw [List.getElem?_map, hx]; rfl)
    obtain ⟨X, cx, X2, cx2, rfl, rx, hcx, rx2, hcx2⟩ := enEl.rd hp
    have i1 := i0.below hs.bel
    have hdr := drop_getB hx
    refine wc_skip ?_; refine we_seq ?_; refine wc_seq ?_; refine wc_block ?_; refine wc_sr ?_; refine wl_mv rfl rfl ?_; refine wl_mv rfl rfl ?_; apply wl_val; apply opv_idxG tkE; exact rfl; exact rfl; exact rfl; omega; exact rfl; apply wl_val; apply opv_ldG; exact rfl; assumption; exact sE; exact rfl; refine wl_mv rfl rfl ?_; refine wl_mv rfl rfl ?_
    refine wl_val (opv_build (vs := [(0, .slice K key.length kc), (1, .int .u64 (m : Int))]) (cs := enV ⟨key, m, 0, []⟩ K kc none 0) ⟨rfl, rfl, rfl, rfl, trivial⟩ (by kernel_rfl)) rfl ?_
    skip
    refine wl_call ok_caissonref07_Less (refLess_any (x := x) (y := ⟨key, m, 0, []⟩) (rx.below hs.bel) (rk.below hs.bel) (hok x (List.mem_of_getElem? hx)) hkl) ⟨rfl, rfl, trivial⟩ rfl ?_
    rintro _ w3 ⟨rfl, hbx⟩
    replace hs := hs.below hbx
    clear hbx i1
    have i1 := i0.below hs.bel
    cases hless : lessE x ⟨key, m, 0, []⟩ with
    | true =>
      apply wl_val; apply opv_not; exact rfl; exact rfl; refine wl_ns ?_; apply wc_condFb; exact rfl; exact Bool.not_true; refine wc_skip ?_; refine we_block_norm ?_; refine we_seq ?_; refine wc_region ?_; refine wl_mv rfl rfl ?_; apply wl_val; apply opv_bin; exact rfl; exact rfl; exact bin_add64 (by omega); exact rfl; refine wl_as rfl rfl ?_; refine wl_nil ?_
      exact we_loop _ (l.length - (i + 1)) ⟨i + 1, rfl, by omega, by rw [hse, hdr, sekE, List.find?_cons, hless]; rfl, hs, rfl⟩ (by omega) ⟨rfl, rfl, rfl, rfl, by simp [lookT], trivial⟩
    | false =>
      have hsx : sekE l ⟨key, m, 0, []⟩ = some x := by rw [hse, hdr, sekE, List.find?_cons, hless]; rfl
      rw [hsx]
      apply wl_val; apply opv_not; exact rfl; exact rfl; refine wl_ns ?_; apply wc_condTb; exact rfl; exact Bool.not_false; refine wc_sr ?_; refine wl_mv rfl rfl ?_; refine wl_mv rfl rfl ?_; apply wl_val; apply opv_idxG tkE; exact rfl; exact rfl; exact rfl; omega; exact rfl; apply wl_val; apply opv_ldG; exact rfl; assumption; exact sE; exact rfl; apply ws_stS hs 0; exact rfl; exact rfl; exact rfl; exact sE; exact rfl; exact rfl; clear hs; intro _ hs; dsimp only [setC] at hs; refine wl_as rfl rfl ?_; refine wl_ns ?_; refine wc_ret ?_; refine we_block_ret ?_; refine we_seq_ret ?_; refine we_loop_ret ?_; refine we_block_ret ?_; refine we_seq_ret ?_
      exact we_retC1 rfl rfl rfl (hs.ar 0 rfl) sE ⟨_, rfl, ⟨X, cx, X2, cx2, rfl, rx.below hs.bel, rx2.below hs.bel⟩, hs.bel⟩
  · obtain rfl : i = l.length := by omega
    rw [List.drop_length] at hse
    have hsx : sekE l ⟨key, m, 0, []⟩ = none := hse
    rw [hsx]
    refine wc_exit ?_; refine we_seq_exit ?_; refine we_loop_exit ?_; refine we_block_exit ?_; refine we_seq ?_; refine wc_sr ?_
    refine wl_val (opv_build (vs := []) (cs := zE) trivial (by kernel_rfl)) rfl ?_
    unfold zE
    apply ws_stS hs 0; exact rfl; exact rfl; exact rfl; exact sE; exact rfl; exact rfl; clear hs; intro _ hs; dsimp only [setC] at hs; refine wl_as rfl rfl ?_; refine wl_ns ?_; refine wc_ret ?_
    exact we_retC1 rfl rfl rfl (hs.ar 0 rfl) sE ⟨_, rfl, ⟨none, 0, none, 0, rfl, Rd.nil _ _, Rd.nil _ _⟩, hs.bel⟩
end Go.Proofs.Ytojncfdlddepdaa


/-
  The fixed fact of the laws of blocks.
-/
namespace Go.Proofs.Ytojncfdlddepdaa
open Go.RowKit

def aw8 : List En := [⟨[97, 98], 5, 1, [120]⟩, ⟨[97, 98, 99], 7, 2, []⟩]
theorem putU_small {n : Nat} (h : n < 128) : putU n = [UInt8.ofNat n] := by rw [putU, if_pos h]
theorem aw8_blk : blkB 2 aw8 = [0, 2, 5, 1, 1, 97, 98, 120, 2, 1, 7, 2, 0, 99, 0, 0, 0, 0, 0, 0, 0, 1] := by
  have h0 : shrN 2 aw8 0 = 0 := rfl
  have h1 : shrN 2 aw8 1 = 2 := by decide
  have hb1 : bodyB 2 aw8 1 = [0, 2, 5, 1, 1, 97, 98, 120] := by
    rw [bodyB, h0]; simp [aw8, entB, putU_small, bodyB]
  have hb : bodyB 2 aw8 2 = [0, 2, 5, 1, 1, 97, 98, 120, 2, 1, 7, 2, 0, 99] := by
    rw [bodyB, hb1, h1]; simp [aw8, entB, putU_small]
  have hr : resB 2 aw8 2 = [0, 0, 0, 0] := by
    rw [resB, resB]; simp [resB, bodyB]; decide
  have hst : stN 2 2 = 1 := by decide
  have hl : aw8.length = 2 := rfl
  rw [blkB, hl, hb, hr, hst]; decide
theorem aw8_build : ∃ bs, buildB 2 aw8 = (bs, 0) ∧ bs.length = 30 ∧ bs[8]? = some 0 ∧ bs[9]? = some 2 ∧ bs[10]? = some 5 ∧ bs[16]? = some 2 ∧ bs[17]? = some 1 ∧ bs[18]? = some 7 := by
  obtain ⟨h, _⟩ := dec_build (every := 2) (l := aw8) (by decide) (by simp [Siz, aw8]) (by decide) (by decide) (by rw [aw8_blk]; decide)
  obtain ⟨s, hs⟩ : ∃ s, crcOf (four (blkB 2 aw8).length ++ blkB 2 aw8) = s := ⟨_, rfl⟩
  have e : crcRec (blkB 2 aw8) = (four (blkB 2 aw8).length ++ four s) ++ blkB 2 aw8 := by rw [crcRec, hs, List.append_assoc]
  have l8 : (four (blkB 2 aw8).length ++ four s).length = 8 := by rw [List.length_append, four_length, four_length]
  have hg : ∀ i, (crcRec (blkB 2 aw8))[8 + i]? = (blkB 2 aw8)[i]? := fun i => by rw [e, List.getElem?_append_right (by omega), l8, Nat.add_sub_cancel_left]
  refine ⟨_, h, by rw [crcRec_length, aw8_blk]; rfl, ?_⟩
  rw [hg 0, hg 1, hg 2, hg 8, hg 9, hg 10, aw8_blk]
  exact ⟨rfl, rfl, rfl, rfl, rfl, rfl⟩
theorem awake8_any {w : World} : CallsV Try.prog 7 #[] w fun v w' => v = .bool true ∧ Below w.heap.size w w' := by
  have hs := St.init w
  obtain ⟨bs, hbd, hbl, h8, h9, h10, h16, h17, h18⟩ := aw8_build
  refine calls_in (N := _) Try.func7 rfl Try.ntmps7 rfl ?_; show WC _ _ _ _ _ _
  refine wc_sr ?_; refine wl_as rfl rfl ?_; refine wl_ns ?_; refine wc_sr ?_
  refine ws_lit hs [97, 98] tyB Try.underlying5 ⟨rfl, rfl, rfl, rfl, rfl, rfl, trivial⟩ rfl (by decide) (by decide) rfl rfl ?_
  clear hs; intro _ A w2 hs
  skip
  refine ws_lit hs [120] tyB Try.underlying5 ⟨rfl, rfl, rfl, trivial⟩ rfl (by decide) (by decide) rfl rfl ?_
  clear hs; intro _ B w3 hs
  skip
  refine wl_val (opv_build (vs := [(0, .slice A 2 2), (1, .int .u64 5), (2, .int .u8 1), (3, .slice B 1 1)]) (cs := enV ⟨[97, 98], 5, 1, [120]⟩ A 2 B 1) ⟨rfl, rfl, rfl, rfl, rfl, rfl, rfl, rfl, trivial⟩ (by kernel_rfl)) rfl ?_
  skip
  refine ws_lit hs [97, 98, 99] tyB Try.underlying5 ⟨rfl, rfl, rfl, rfl, rfl, rfl, rfl, rfl, rfl, trivial⟩ rfl (by decide) (by decide) rfl rfl ?_
  clear hs; intro _ C w4 hs
  skip
  refine wl_val (opv_build (vs := [(0, .slice C 3 3), (1, .int .u64 7), (2, .int .u8 2)]) (cs := enV ⟨[97, 98, 99], 7, 2, []⟩ C 3 none 0) ⟨rfl, rfl, rfl, rfl, rfl, rfl, trivial⟩ (by kernel_rfl)) rfl ?_
  skip
  refine wl_bsG (css := [enV ⟨[97, 98], 5, 1, [120]⟩ A 2 B 1, enV ⟨[97, 98, 99], 7, 2, []⟩ C 3 none 0]) tkE ⟨rfl, ⟨_, rfl, rfl⟩, rfl, rfl, ⟨_, rfl, rfl⟩, rfl, trivial⟩ (els := [enV ⟨[97, 98], 5, 1, [120]⟩ A 2 B 1, enV ⟨[97, 98, 99], 7, 2, []⟩ C 3 none 0].map rawEl) (S := NoB) rfl (by decide) (by decide)
    (grp_raw (by simp [enV])) rfl fun R w8 hR hbx _ => ?_
  replace hs := hs.newG hbx hR (Nat.le_refl _) fun _ _ h => h.elim
  clear hR hbx
  have hr : RdR 4 w8 All R (aw8.map enEl) := by
    obtain ⟨T1, hT1, hrg, T2, hT2, h2, T3, hT3, h3, T4, hT4, h4, _⟩ := hs.2
    obtain ⟨ho, _⟩ := OwR.raw (css := [enV ⟨[97, 98], 5, 1, [120]⟩ A 2 B 1, enV ⟨[97, 98, 99], 7, 2, []⟩ C 3 none 0]) hrg.2
    refine ⟨[enV ⟨[97, 98], 5, 1, [120]⟩ A 2 B 1, enV ⟨[97, 98, 99], 7, 2, []⟩ C 3 none 0], (Grp.one (E := enEl ⟨[97, 98], 5, 1, [120]⟩) (enEl.mk ?_ ?_) rfl).append (Grp.one (E := enEl ⟨[97, 98, 99], 7, 2, []⟩) (enEl.mk ?_ ?_) rfl), own_rd ho, fun a ha _ => trivial⟩
    · exact El.all h4
    · exact El.all h3
    · exact El.all h2
    · exact byEl.mk (xs := []) (Rd.nil _ _) (Nat.zero_le _) fun a h _ => by cases h
  refine wl_call ok_block_Build (blkBuild_any (every := 2) (l := aw8) (by decide) (by decide) hr rfl (by decide) (by simp [Siz2, aw8])) ⟨rfl, rfl, trivial⟩ rfl ?_
  rw [hbd]
  rintro _ w9 ⟨G, gc, rfl, oG, hbx⟩
  replace hs := hs.below hbx
  clear hbx
  have hb : RdB w9 G bs := oG.rd
  dsimp only
  have h00 : ((0 : Nat) : Int) = 0 := rfl
  have hl30 : (bs.length : Int) = 30 := by omega
  refine wl_mv rfl rfl ?_; apply wl_val; apply opv_extract; exact rfl; exact rfl; exact rfl; apply wl_val; apply opv_extract; exact rfl; exact rfl; exact rfl; refine wl_as rfl rfl ?_; refine wl_as rfl rfl ?_; refine wl_ns ?_; refine wc_sr ?_; refine wl_mv rfl rfl ?_; refine wl_bin rfl rfl bin_eql rfl ?_; refine wl_mv rfl rfl ?_; apply wl_take; exact rfl; exact rfl; exact rfl; refine bT ?_; (with_reducible assumption); refine wl_mv rfl rfl ?_; apply wl_take; exact rfl; exact rfl; exact rfl; refine bT ?_; (with_reducible assumption); apply wl_val; apply opv_len; exact rfl; exact tyB.sl; exact rfl; apply wl_take; exact rfl; exact rfl; exact rfl; refine bT ?_; (with_reducible assumption); refine wl_bin rfl rfl bin_eql rfl ?_; apply wl_val; apply opv_pickT; exact rfl; refine bT ?_; (with_reducible assumption); exact rfl; exact rfl; refine wl_mv rfl rfl ?_; apply wl_take; exact rfl; exact rfl; exact rfl; refine bT ?_; (with_reducible assumption); refine wl_mv rfl rfl ?_; apply wl_byTK (T := tyB) (hr := hb) (hb := h8); exact rfl; exact rfl; exact rfl; refine bT ?_; (with_reducible assumption); exact rfl; exact rfl; exact rfl; exact rfl; refine bT ?_; (with_reducible assumption); exact rfl; exact rfl; exact rfl; exact rfl; exact rfl; intro _; apply wl_take; exact rfl; exact rfl; exact rfl; refine bT ?_; (with_reducible assumption); refine wl_bin rfl rfl bin_eql rfl ?_; apply wl_val; apply opv_pickT; exact rfl; refine bT ?_; (with_reducible assumption); exact rfl; exact rfl; refine wl_mv rfl rfl ?_; apply wl_take; exact rfl; exact rfl; exact rfl; refine bT ?_; exact rfl; refine wl_mv rfl rfl ?_; apply wl_byTK (T := tyB) (hr := hb) (hb := h9); exact rfl; exact rfl; exact rfl; refine bT ?_; exact rfl; exact rfl; exact rfl; exact rfl; exact rfl; refine bT ?_; exact rfl; exact rfl; exact rfl; exact rfl; exact rfl; exact rfl; intro _; apply wl_take; exact rfl; exact rfl; exact rfl; refine bT ?_; exact rfl; refine wl_bin rfl rfl bin_eql rfl ?_; apply wl_val; apply opv_pickT; exact rfl; refine bT ?_; exact rfl; exact rfl; exact rfl; refine wl_mv rfl rfl ?_; apply wl_take; exact rfl; exact rfl; exact rfl; refine bT ?_; exact rfl; refine wl_mv rfl rfl ?_; apply wl_byTK (T := tyB) (hr := hb) (hb := h10); exact rfl; exact rfl; exact rfl; refine bT ?_; exact rfl; exact rfl; exact rfl; exact rfl; exact rfl; refine bT ?_; exact rfl; exact rfl; exact rfl; exact rfl; exact rfl; exact rfl; intro _; apply wl_take; exact rfl; exact rfl; exact rfl; refine bT ?_; exact rfl; refine wl_bin rfl rfl bin_eql rfl ?_; apply wl_val; apply opv_pickT; exact rfl; refine bT ?_; exact rfl; exact rfl; exact rfl; refine wl_mv rfl rfl ?_; apply wl_take; exact rfl; exact rfl; exact rfl; refine bT ?_; exact rfl; refine wl_mv rfl rfl ?_; apply wl_byTK (T := tyB) (hr := hb) (hb := h16); exact rfl; exact rfl; exact rfl; refine bT ?_; exact rfl; exact rfl; exact rfl; exact rfl; exact rfl; refine bT ?_; exact rfl; exact rfl; exact rfl; exact rfl; exact rfl; exact rfl; intro _; apply wl_take; exact rfl; exact rfl; exact rfl; refine bT ?_; exact rfl; refine wl_bin rfl rfl bin_eql rfl ?_; apply wl_val; apply opv_pickT; exact rfl; refine bT ?_; exact rfl; exact rfl; exact rfl; refine wl_mv rfl rfl ?_; apply wl_take; exact rfl; exact rfl; exact rfl; refine bT ?_; exact rfl; refine wl_mv rfl rfl ?_; apply wl_byTK (T := tyB) (hr := hb) (hb := h17); exact rfl; exact rfl; exact rfl; refine bT ?_; exact rfl; exact rfl; exact rfl; exact rfl; exact rfl; refine bT ?_; exact rfl; exact rfl; exact rfl; exact rfl; exact rfl; exact rfl; intro _; apply wl_take; exact rfl; exact rfl; exact rfl; refine bT ?_; exact rfl; refine wl_bin rfl rfl bin_eql rfl ?_; apply wl_val; apply opv_pickT; exact rfl; refine bT ?_; exact rfl; exact rfl; exact rfl; refine wl_mv rfl rfl ?_; apply wl_take; exact rfl; exact rfl; exact rfl; refine bT ?_; exact rfl; refine wl_mv rfl rfl ?_; apply wl_byTK (T := tyB) (hr := hb) (hb := h18); exact rfl; exact rfl; exact rfl; refine bT ?_; exact rfl; exact rfl; exact rfl; exact rfl; exact rfl; refine bT ?_; exact rfl; exact rfl; exact rfl; exact rfl; exact rfl; exact rfl; intro _; apply wl_take; exact rfl; exact rfl; exact rfl; refine bT ?_; exact rfl; refine wl_bin rfl rfl bin_eql rfl ?_; apply wl_val; apply opv_pickT; exact rfl; refine bT ?_; exact rfl; exact rfl; exact rfl; refine wl_as rfl rfl ?_; refine wl_ns ?_; refine wc_ret ?_
  exact we_ret1 rfl rfl ⟨_, rfl, rfl, hs.bel⟩
end Go.Proofs.Ytojncfdlddepdaa


/-
  Walk over the law BlockReads.
-/
namespace Go.Proofs.Ytojncfdlddepdaa
open Go.RowKit

theorem dec_key {b : List UInt8} {l : List En} {e : Nat} (h : decB b = (l, e)) : ∀ x ∈ l, x.key.length ≤ 1048576 ∧ x.val.length ≤ 1048576 := by
  rw [dec_spl] at h
  obtain ⟨⟨⟨body, ss⟩, e'⟩, hsp⟩ : ∃ q, splB b = q := ⟨_, rfl⟩
  have hs := spl_small hsp
  rw [hsp] at h
  cases e' with
  | succ e' => cases h; simp
  | zero =>
    replace h : (match rdL body body.length 0 [] with
      | none => ([], 3)
      | some r => if buildB (evL ss (r.map (·.2))) (r.map (·.1)) = (b, 0) then (r.map (·.1), 0) else ([], 3)) = (l, e) := h
    cases hr : rdL body body.length 0 [] with
    | none => rw [hr] at h; cases h; simp
    | some r =>
      rw [hr] at h
      dsimp only at h
      split at h
      · cases h
        intro x hx
        obtain ⟨y, hy, rfl⟩ := List.mem_map.1 hx
        have := rdL_siz hr hs.1 y hy
        omega
      · cases h; simp
theorem dec_err {b : List UInt8} {l : List En} {e : Nat} (h : decB b = (l, e)) (he : ¬ e = 0) : l = [] := by
  unfold decB at h
  split at h
  · split at h
    · exact (Prod.mk.inj h).1.symm
    · split at h
      · exact (Prod.mk.inj h).1.symm
      · split at h
        · exact (Prod.mk.inj h).1.symm
        · split at h
          · exact absurd (Prod.mk.inj h).2.symm he
          · exact (Prod.mk.inj h).1.symm
  · exact (Prod.mk.inj h).1.symm
theorem reads_any {A K : Option Addr} {n c kn kc m : Nat} {xs key : List UInt8} {w : World} (hr : RdB w A xs) (hn : xs.length = n) (_hc : xs.length ≤ c) (_hl : xs.length ≤ 140737488355328) (rk : RdB w K key) (hkn : key.length = kn) (_hkc : key.length ≤ kc) (hkl : key.length ≤ 140737488355328) (_hm : m < 18446744073709551616) :
    CallsV Try.prog 4 #[.slice A n c, .slice K kn kc, .int .u64 (m : Int)] w (RetTrue w) := by
  subst hn hkn
  have hs := St.init w
  refine calls_in (N := _) Try.func4 rfl Try.ntmps4 rfl ?_; show WC _ _ _ _ _ _
  refine wc_sr ?_; refine wl_as rfl rfl ?_; refine wl_ns ?_; refine wc_seq ?_; refine wc_sr ?_
  refine wl_call ok_caissonlaw08_awake (awake8_any) trivial rfl ?_; rintro _ _ ⟨rfl, hbx⟩; replace hs := hs.below hbx; try dsimp only [List.cons_append, List.nil_append, setC, delC] at hs
  apply wl_val; apply opv_not; exact rfl; exact rfl; refine wl_ns ?_; apply wc_condFb; exact rfl; exact Bool.not_true; refine wc_skip ?_; refine we_seq ?_; refine wc_seq ?_; refine wc_sr ?_; refine wl_mv rfl rfl ?_; apply wl_val; apply opv_len; exact rfl; exact tyB.sl; exact rfl; refine wl_bin rfl rfl bin_gtr rfl ?_; refine wl_ns ?_
  by_cases hbig : 20000 < xs.length
  · have hbig' : (xs.length : Int) > 20000 := by omega
    apply wc_decT; exact rfl; (with_reducible assumption); refine wc_sr ?_; refine wl_as rfl rfl ?_; refine wl_ns ?_; refine wc_ret ?_; refine we_seq_ret ?_
    exact we_ret1 rfl rfl ⟨_, rfl, rfl, hs.bel⟩
  have hbig' : ¬ (xs.length : Int) > 20000 := by omega
  apply wc_decF; exact rfl; (with_reducible assumption); refine wc_skip ?_; refine we_seq ?_; refine wc_sr ?_; refine wl_mv rfl rfl ?_
  refine wl_call ok_caissonref01_Copy (copy_any (hr.below hs.bel) rfl (by omega)) ⟨rfl, trivial⟩ rfl ?_; rintro _ _ ⟨C1, c1, rfl, o_, hbx⟩; replace hs := hs.newO hbx o_ (Nat.le_refl _); try dsimp only [List.cons_append, List.nil_append, setC, delC] at hs
  have hc1 := ow_cap (hs.ow 0 rfl)
  obtain ⟨⟨l, e⟩, hd⟩ : ∃ q, decB xs = q := ⟨_, rfl⟩
  obtain ⟨hok1, _⟩ := dec_ok hd
  have hok2 := dec_key hd
  skip
  refine wl_call ok_block_Decode (decode_any (hs.ow 0 rfl).rd rfl hc1 (by omega)) ⟨rfl, trivial⟩ rfl ?_
  rw [hd]
  rintro _ w3 ⟨R, rc, rfl, hsx⟩
  replace hs := hs.call hsx
  clear hsx
  dsimp only [List.cons_append, List.nil_append] at hs ⊢
  refine wl_mv rfl rfl ?_; apply wl_val; apply opv_extract; exact rfl; exact rfl; exact rfl; apply wl_val; apply opv_extract; exact rfl; exact rfl; exact rfl; refine wl_as rfl rfl ?_; refine wl_as rfl rfl ?_; refine wl_ns ?_; refine wc_sr ?_; refine wl_mv rfl rfl ?_
  refine wl_call ok_caissonref08_Decode (refDecode_any (hr.below hs.bel) rfl _hc (by omega)) ⟨rfl, trivial⟩ rfl ?_
  rw [hd]
  rintro _ w4 ⟨R2, rc2, rfl, hsx⟩
  replace hs := hs.call hsx
  clear hsx
  dsimp only [List.cons_append, List.nil_append] at hs ⊢
  refine wl_mv rfl rfl ?_; apply wl_val; apply opv_extract; exact rfl; exact rfl; exact rfl; apply wl_val; apply opv_extract; exact rfl; exact rfl; exact rfl; refine wl_as rfl rfl ?_; refine wl_as rfl rfl ?_; refine wl_ns ?_; refine wc_sr ?_; refine wl_mv rfl rfl ?_
  refine wl_call ok_caissonref01_Copy (copy_any (hr.below hs.bel) rfl (by omega)) ⟨rfl, trivial⟩ rfl ?_; rintro _ _ ⟨C3, c3, rfl, o_, hbx⟩; replace hs := hs.newO hbx o_ (Nat.le_refl _); try dsimp only [List.cons_append, List.nil_append, setC, delC] at hs
  refine wl_mv rfl rfl ?_
  refine wl_call ok_caissonref01_Copy (copy_any (rk.below hs.bel) rfl (by omega)) ⟨rfl, trivial⟩ rfl ?_; rintro _ _ ⟨C4, c4, rfl, o_, hbx⟩; replace hs := hs.newO hbx o_ (Nat.le_refl _); try dsimp only [List.cons_append, List.nil_append, setC, delC] at hs
  have hc3 := ow_cap (hs.ow 1 rfl)
  refine wl_mv rfl rfl ?_
  refine wl_call ok_block_Seek (bseek_any (m := m) (hs.ow 1 rfl).rd rfl hc3 (by omega) (hs.ow 0 rfl).rd rfl) ⟨rfl, rfl, rfl, trivial⟩ rfl ?_
  have hsk : sekB xs ⟨key, m, 0, []⟩ = ((sekE l ⟨key, m, 0, []⟩).getD noE, (sekE l ⟨key, m, 0, []⟩).isSome, e) := by
    rw [sekB, hd]
    cases e with
    | zero => rfl
    | succ e => rw [dec_err hd (by omega)]; rfl
  rw [hsk]
  have hzm : ((sekE l ⟨key, m, 0, []⟩).getD noE).key.length ≤ 1048576 ∧ ((sekE l ⟨key, m, 0, []⟩).getD noE).val.length ≤ 1048576 := by
    cases h : sekE l ⟨key, m, 0, []⟩ with
    | none => exact ⟨Nat.zero_le _, Nat.zero_le _⟩
    | some z => exact hok2 z (List.mem_of_find?_eq_some h)
  clear hsk
  rintro _ w5 ⟨⟨X, cx, Y, cy, rfl, q1, q2⟩, hbx⟩
  replace hs := hs.below hbx
  clear hbx
  have hse8 := fun (w : World) => refSeek8_any (w := w) (A := R2) (K := K) (n := l.length) (c := rc2) (kn := key.length) (kc := kc) (m := m) (l := l) (key := key)
  obtain ⟨z, hz⟩ : ∃ q, (sekE l ⟨key, m, 0, []⟩).getD noE = q := ⟨_, rfl⟩
  obtain ⟨ib, hib⟩ : ∃ q, (sekE l ⟨key, m, 0, []⟩).isSome = q := ⟨_, rfl⟩
  rw [hz] at q1 q2 hzm
  simp only [hz, hib] at hse8 ⊢
  have hee : ¬ ¬ (e : Int) = (e : Int) := fun h => h rfl
  refine wl_mv rfl rfl ?_; apply wl_val; apply opv_extract; exact rfl; exact rfl; exact rfl; apply wl_val; apply opv_extract; exact rfl; exact rfl; exact rfl; apply wl_val; apply opv_extract; exact rfl; exact rfl; exact rfl
  refine wl_var (cs := enV z X cx Y cy) zeroE sE rfl (fun _ => rfl) rfl rfl fun g11 w6 hg11 a11 hbx => ?_
  replace hs := hs.newA hbx hg11 a11
  replace q1 := q1.below hbx
  replace q2 := q2.below hbx
  clear hbx hg11 a11
  refine wl_as rfl rfl ?_; refine wl_as rfl rfl ?_; refine wl_ns ?_; refine wc_seq ?_; refine wc_sr ?_; refine wl_mv rfl rfl ?_; refine wl_mv rfl rfl ?_; refine wl_bin rfl rfl bin_neq rfl ?_; refine wl_mv rfl rfl ?_; apply wl_take; exact rfl; exact rfl; exact rfl; refine bF ?_; (with_reducible assumption); refine wl_mv rfl rfl ?_; apply wl_take; exact rfl; exact rfl; exact rfl; refine bF ?_; (with_reducible assumption); refine wl_mv rfl rfl ?_; apply wl_take; exact rfl; exact rfl; exact rfl; refine bF ?_; (with_reducible assumption); refine wl_bin rfl rfl bin_neq rfl ?_; apply wl_val; apply opv_pickF; exact rfl; refine bF ?_; (with_reducible assumption); exact rfl; exact rfl; refine wl_mv rfl rfl ?_; apply wl_take; exact rfl; exact rfl; exact rfl; refine bF ?_; (with_reducible assumption); refine wl_mv rfl rfl ?_; apply wl_take; exact rfl; exact rfl; exact rfl; refine bF ?_; (with_reducible assumption); refine wl_mv rfl rfl ?_; apply wl_take; exact rfl; exact rfl; exact rfl; refine bF ?_; (with_reducible assumption)
  refine wl_call ok_caissonref07_SameList (sameListE_any (OwR.rd (hs.rsE 4 rfl)) (OwR.rd (hs.rsE 3 rfl)) rfl rfl (fun x h => by have := hok2 x h; simp only [maxLen]; omega) (by omega) (by omega)) ⟨rfl, rfl, trivial⟩ rfl ?_
  rintro _ w7 ⟨⟨q, rfl, hq⟩, hbx⟩
  obtain rfl := hq.2 rfl
  replace hs := hs.below hbx
  replace q1 := q1.below hbx
  replace q2 := q2.below hbx
  clear hbx hq
  apply wl_take; exact rfl; exact rfl; exact rfl; refine bF ?_; (with_reducible assumption); apply wl_val; apply opv_not; exact rfl; exact rfl; apply wl_val; apply opv_pickF; exact rfl; refine bF ?_; (with_reducible assumption); exact rfl; exact rfl; refine wl_ns ?_; apply wc_condFb; exact rfl; exact Bool.not_true; refine wc_skip ?_; refine we_seq ?_; refine wc_sr ?_; refine wl_mv rfl rfl ?_; refine wl_mv rfl rfl ?_; refine wl_mv rfl rfl ?_
  refine wl_call ok_caissonref08_Seek (hse8 _ (OwR.rd (hs.rsE 3 rfl)) trivial (by omega) (rk.below hs.bel) trivial (by simp only [maxLen]; omega) (fun x h => by have := hok2 x h; simp only [maxLen]; omega)) ⟨rfl, rfl, rfl, trivial⟩ rfl ?_
  rintro _ w8 ⟨⟨X2, cx2, Y2, cy2, rfl, q3, q4⟩, hbx⟩
  replace hs := hs.below hbx
  replace q1 := q1.below hbx
  replace q2 := q2.below hbx
  clear hbx
  refine wl_mv rfl rfl ?_; apply wl_val; apply opv_extract; exact rfl; exact rfl; exact rfl; apply wl_val; apply opv_extract; exact rfl; exact rfl; exact rfl
  refine wl_var (cs := enV z X2 cx2 Y2 cy2) zeroE sE rfl (fun _ => rfl) rfl rfl fun g14 w9 hg14 a14 hbx => ?_
  replace hs := hs.newA hbx hg14 a14
  replace q1 := q1.below hbx
  replace q2 := q2.below hbx
  replace q3 := q3.below hbx
  replace q4 := q4.below hbx
  clear hbx hg14 a14
  have hbb : (ib = ib) = True := by simp
  refine wl_as rfl rfl ?_; refine wl_ns ?_; refine wc_sr ?_; refine wl_mv rfl rfl ?_; refine wl_mv rfl rfl ?_; apply wl_val; apply opv_bin; exact rfl; exact rfl; exact bin_eqlB tyBool; exact rfl; refine wl_mv rfl rfl ?_; apply wl_take; exact rfl; exact rfl; exact rfl; refine bT ?_; (with_reducible rfl); apply wl_val; apply opv_loadX; exact rfl; exact hs.ar 1 rfl; exact sE; exact rfl; apply wl_take; exact rfl; exact rfl; exact rfl; refine bT ?_; (with_reducible rfl); apply wl_val; apply opv_loadX; exact rfl; exact hs.ar 0 rfl; exact sE; exact rfl; apply wl_take; exact rfl; exact rfl; exact rfl; refine bT ?_; (with_reducible rfl)
  refine wl_call ok_caissonref07_Same (sameE_any (x := z) (y := z) q1 q2 q3 q4 (by simp only [maxLen]; omega) (by simp only [maxLen]; omega)) ⟨rfl, rfl, trivial⟩ rfl ?_
  rintro _ w10 ⟨⟨q, rfl, hq⟩, hbx⟩
  obtain rfl := hq.2 rfl
  replace hs := hs.below hbx
  apply wl_val; apply opv_pickT; exact rfl; refine bT ?_; (with_reducible rfl); exact rfl; exact rfl; refine wl_as rfl rfl ?_; refine wl_ns ?_; refine wc_ret ?_
  exact we_ret1 rfl rfl ⟨_, rfl, rfl, hs.bel⟩
end Go.Proofs.Ytojncfdlddepdaa


/-
  Bytes of one's own that are turned over; twins of lists whose entries lie apart.
-/
namespace Go.Proofs.Ytojncfdlddepdaa
open Go.RowKit

theorem bvs_setO (l : List UInt8) (i : Nat) (b : UInt8) : (bvs l).set i (bv b) = bvs (l.set i b) := by rw [bvs, bvs, List.map_set]
/-- Bytes of one's own, whatever they are. -/
def jk (A : Option Addr) (n c : Nat) : Ck := ⟨fun w S => ∃ xs : List UInt8, xs.length = n ∧ (Cd.ow 5 A n c (bvs xs)).P w S, fun ⟨xs, h, h2⟩ hz hm => ⟨xs, h, Cd.move (c := .ow 5 _ _ _ (bvs xs)) h2 hz hm⟩⟩
theorem jk_of {A : Option Addr} {c : Nat} {xs : List UInt8} {w : World} {S : BS} (h : (Cd.ow 5 A xs.length c (bvs xs)).P w S) : (jk A xs.length c).P w S := ⟨xs, rfl, h⟩
theorem mem_perm {α : Type} {a : α} {l : List α} (h : a ∈ l) : ∃ r, l.Perm (a :: r) := by
  obtain ⟨s, t, rfl⟩ := List.append_of_mem h
  exact ⟨s ++ t, List.perm_middle⟩
/-- Two new rows of bytes. -/
theorem St.two {w w' : World} {A B : Option Addr} {n c m d : Nat} {xs ys : List Value} (hb : Below w.heap.size w w') (h1 : Ow w' w.heap.size 5 A n c xs) (h2 : Ow w' w.heap.size 5 B m d ys) (hne : ∀ a b, A = some a → B = some b → a.block ≠ b.block) : St NoB w w' [.ow 5 A n c xs, .ow 5 B m d ys] :=
  ⟨Mod.of_below hb _, fun b => ∃ a, A = some a ∧ b = a.block, fun b ⟨a, ha, hb⟩ => .inr (by rw [hb]; exact (Ow.lt h1 a ha).1), ⟨fun a ha => ⟨a, ha, rfl⟩, h1.mono (Nat.zero_le _)⟩,
    fun b => ∃ a, B = some a ∧ b = a.block, fun b ⟨a, ha, hb⟩ => ⟨.inr (by rw [hb]; exact (Ow.lt h2 a ha).1), fun ⟨a', ha', hb'⟩ => hne a' a ha' ha (by rw [← hb', hb])⟩, ⟨fun a ha => ⟨a, ha, rfl⟩, h2.mono (Nat.zero_le _)⟩, trivial⟩
theorem twin2_any {x : En} {A B : Option Addr} {c d : Nat} {w : World} (rx : RdB w A x.key) (rx2 : RdB w B x.val) (hl : x.key.length ≤ 140737488355328) (hl2 : x.val.length ≤ 140737488355328) :
    CallsV Try.prog 41 #[.agg (enV x A c B d).toArray] w (RetE2 w x) :=
  (twinE_any rx rx2 hl hl2).mono fun v w' ⟨C, e, D, f, hv, h1, h2, h3, hb⟩ => ⟨C, e, D, f, hv, St.two hb h1 h2 h3⟩
/-- Twins of entries, each in memory that lies apart. -/
def RetEs2 (w : World) (l : List En) (v : Value) (w' : World) : Prop := ∃ (A : Option Addr) (c : Nat), v = .slice A l.length c ∧ St NoB w w' [.ck (rsC 4 38 A c (l.map oE))]
theorem twins3_any {A : Option Addr} {n c : Nat} {l : List En} {w : World} (hr : RdR 4 w All A (l.map enEl)) (hn : l.length = n) (hok : ∀ x ∈ l, x.key.length ≤ 140737488355328 ∧ x.val.length ≤ 140737488355328) (hl : l.length ≤ 1099511627776) :
    CallsV Try.prog 17 #[.slice A n c] w (RetEs2 w l) := by
  subst hn
  have hmax : maxLen = 9223372036854775807 := rfl
  have hs := (St.init w).nilS 4 38
  refine calls_in (N := _) Try.func17 rfl Try.ntmps17 rfl ?_; show WC _ _ _ _ _ _
  refine wc_sr ?_; refine wl_as rfl rfl ?_; refine wl_ns ?_; refine wc_sr ?_; refine wl_as rfl rfl ?_; refine wl_ns ?_; refine wc_seq ?_; refine wc_sr ?_; refine wl_as rfl rfl ?_; refine wl_ns ?_; refine wc_block ?_
  refine wc_loop (fun L wr m => ∃ (k : Nat) (P : Option Addr) (cp : Nat), L = [(0, .slice A l.length c), (3, .slice P k cp), (4, .int .i64 (k : Int))] ∧ k ≤ l.length ∧ St NoB w wr [.ck (rsC 4 38 P cp ((l.take k).map oE))] ∧ m = l.length - k)
    [(0, .slice A l.length c), (3, .slice none 0 0), (4, .int .i64 (0 : Nat))] l.length ⟨0, none, 0, rfl, by omega, hs, rfl⟩ ⟨rfl, rfl, rfl, trivial⟩ ?_
  clear hs
  rintro _ w1 m ⟨k, P, cp, rfl, hk, hs, rfl⟩
  refine wc_seq ?_; refine wc_sr ?_; refine wl_mv rfl rfl ?_; refine wl_mv rfl rfl ?_; apply wl_val; apply opv_len; exact rfl; exact tkE.sl; exact rfl; refine wl_bin rfl rfl bin_lss rfl ?_; refine wl_ns ?_
  refine wc_cond rfl (fun h1 => ?_) (fun h1 => ?_)
  · obtain ⟨x, hx⟩ : ∃ x, l[k]? = some x := ⟨_, List.getElem?_eq_getElem (by omega)⟩
    have hox := hok x (List.mem_of_getElem? hx)
    obtain ⟨b, o, cs, rfl, _, _, hp, i1⟩ := RdR.at (k := 4) (by decide) hr (E := enEl x) (i := k) (by rw [List.getElem?_map, hx]; rfl)
    obtain ⟨X, cx, Y, cy, rfl, rx, _, ry, _⟩ := enEl.rd hp
    replace i1 := i1.below hs.bel
    refine wc_skip ?_; refine we_seq ?_; refine wc_seq ?_; refine wc_block ?_; refine wc_region ?_; refine wl_mv rfl rfl ?_; refine wl_mv rfl rfl ?_; refine wl_mv rfl rfl ?_; apply wl_val; apply opv_idxG tkE; exact rfl; exact rfl; exact rfl; omega; exact rfl; apply wl_val; apply opv_ldG; exact rfl; assumption; exact sE; exact rfl
    refine wl_call ok_caissonref07_Twin (twin2_any (x := x) (rx.below hs.bel) (ry.below hs.bel) hox.1 hox.2) ⟨rfl, trivial⟩ rfl ?_
    rintro _ w2 ⟨C, e, D, f, rfl, hsx⟩
    replace hs := ((hs.call hsx).pack (H1 := enOw x C e D f) (.ce (oE x) (enV x C e D f)) oE_of).front 1 rfl
    dsimp only [delC] at hs
    refine ws_pushS hs tkE (fun _ => rfl) (by simp; omega) ⟨_, rfl, rfl⟩ rfl rfl (by decide) (by omega) (by simp only [maxLen]; omega) rfl rfl ?_; clear hs; intro _ R2 c2 _ hs
    refine wl_as rfl rfl ?_; refine wl_nil ?_; refine we_block_norm ?_; refine we_seq ?_; refine wc_region ?_; refine wl_mv rfl rfl ?_; apply wl_val; apply opv_bin; exact rfl; exact rfl; exact bin_add64 (by omega); exact rfl; refine wl_as rfl rfl ?_; refine wl_nil ?_
    refine we_loop _ (l.length - (k + 1)) ⟨k + 1, R2, c2, rfl, by omega, by rw [take_getR hx]; simpa using hs, rfl⟩ (by omega) ⟨rfl, rfl, by simp [lookT], trivial⟩
  · obtain rfl : k = l.length := by omega
    rw [List.take_length] at hs
    refine wc_exit ?_; refine we_seq_exit ?_; refine we_loop_exit ?_; refine we_block_exit ?_; refine we_seq ?_; refine wc_sr ?_; refine wl_mv rfl rfl ?_; refine wl_as rfl rfl ?_; refine wl_ns ?_; refine wc_ret ?_
    exact we_ret1 rfl rfl ⟨_, rfl, P, cp, rfl, hs⟩
end Go.Proofs.Ytojncfdlddepdaa


/-
  Walk over the law BlockSeeks.
-/
namespace Go.Proofs.Ytojncfdlddepdaa
open Go.RowKit

def gtE (l : List En) (key : List UInt8) (m : Nat) : En := (getE l key m).getD noE
theorem refGet2_any {A K : Option Addr} {n c kc kn at' : Nat} {l : List En} {key : List UInt8} {w : World} (hr : RdR 4 w All A (l.map enEl)) (hn : l.length = n) (rk : RdB w K key) (hkn : key.length = kn) (hok : ∀ x ∈ l, x.key.length ≤ maxLen) (hl : l.length ≤ 4294967296) :
    CallsV Try.prog 18 #[.slice A n c, .slice K kn kc, .int .u64 (at' : Int)] w fun v w' => (∃ (X : Option Addr) (cx : Nat) (Y : Option Addr) (cy : Nat), v = .tuple #[.agg (enV (gtE l key at') X cx Y cy).toArray, .bool (getE l key at').isSome] ∧ RdB w' X (gtE l key at').key ∧ RdB w' Y (gtE l key at').val) ∧ Below w.heap.size w w' :=
  (getR_any hr hn rk hkn hok hl).mono fun v w' ⟨h, hb⟩ => ⟨by
    rw [gtE]
    cases hg : getE l key at' with
    | none => rw [hg] at h; exact ⟨none, 0, none, 0, h, Rd.nil _ _, Rd.nil _ _⟩
    | some x => rw [hg] at h; obtain ⟨X, cx, Y, cy, h⟩ := h; exact ⟨X, cx, Y, cy, h⟩, hb⟩
theorem gtE_mem {l : List En} {key : List UInt8} {m : Nat} : gtE l key m = noE ∨ gtE l key m ∈ l := by
  rw [gtE]
  cases hg : getE l key m with
  | none => exact .inl rfl
  | some x => exact .inr (List.mem_of_find?_eq_some hg)
/-- The first entry that is not ahead of a key's moment is the version at that moment, or of another key. -/
theorem sek_get {key : List UInt8} {m : Nat} : ∀ {l : List En}, Ord l → getE l key m = match sekE l ⟨key, m, 0, []⟩ with
    | some x => if x.key = key then some x else none
    | none => none
  | [], _ => rfl
  | a :: l, ho => by
    obtain ⟨h1, h2⟩ := List.pairwise_cons.1 ho
    have ih := sek_get (key := key) (m := m) h2
    rw [getE] at ih ⊢
    rw [sekE] at ih ⊢
    cases hl : lessE a ⟨key, m, 0, []⟩ with
    | true =>
      have hne : ¬ (a.key = key ∧ a.seq ≤ m) := fun ⟨e1, e2⟩ => by
        rcases lessE_iff.1 hl with h | ⟨_, h⟩
        · rw [show cmpB a.key (⟨key, m, 0, []⟩ : En).key = cmpB key key by rw [e1]] at h
          rw [cmp_refl] at h; omega
        · exact absurd h (Nat.not_lt.2 e2)
      rw [List.find?_cons, decide_eq_false hne, List.find?_cons, hl]
      exact ih
    | false =>
      rw [List.find?_cons (p := fun x => !lessE x ⟨key, m, 0, []⟩), hl]
      rw [Bool.not_false]
      show _ = if a.key = key then some a else none
      by_cases hk : a.key = key
      · have hm : a.seq ≤ m := by
          rcases Nat.lt_or_ge m a.seq with h | h
          · rw [lessE_iff.2 (.inr ⟨hk, h⟩)] at hl; cases hl
          · exact h
        rw [if_pos hk, List.find?_cons, decide_eq_true ⟨hk, hm⟩]
      · rw [if_neg hk, List.find?_cons, decide_eq_false fun h => hk h.1]
        refine List.find?_eq_none.2 fun x hx => ?_
        rw [decide_eq_true_eq]
        rintro ⟨e1, e2⟩
        have hax := h1 x hx
        rcases lessE_iff.1 hax with h | ⟨h, _⟩
        · rw [lessE_iff.2 (.inl (by rw [← e1]; exact h))] at hl; cases hl
        · exact hk (h.trans e1)
theorem sorted_mem8 {l : List En} {p : En → Prop} (h : ∀ x ∈ l, p x) : (sortedE l).length ≤ l.length ∧ ∀ x ∈ sortedE l, p x := by
  have := fold_facts h l.length
  rw [List.take_length] at this
  exact this
set_option maxRecDepth 8000 in
theorem seeks_any {A K : Option Addr} {n c kn kc : Nat} {ev : Int} {l0 : List En} {key : List UInt8} {w : World} (hev : -9223372036854775808 ≤ ev ∧ ev ≤ 9223372036854775807) (hr : RdR 4 w All A (l0.map enEl)) (hn : l0.length = n) (hc : n ≤ c) (hsq : ∀ x ∈ l0, x.seq < 2 ^ 64) (hl : sumB enB l0 ≤ 1048576) (rk : RdB w K key) (hkn : key.length = kn) (_hkc : key.length ≤ kc) (hkl : key.length ≤ 1048576) :
    CallsV Try.prog 5 #[.int .i64 ev, .slice A n c, .slice K kn kc] w (RetTr w) := by
  obtain ⟨hl1, hok1⟩ := ent_small hl
  subst hkn
  have hs := St.init w
  refine calls_in (N := _) Try.func5 rfl Try.ntmps5 rfl ?_; show WC _ _ _ _ _ _
  refine wc_sr ?_; refine wl_as rfl rfl ?_; refine wl_ns ?_; refine wc_seq ?_; refine wc_sr ?_
  refine wl_call ok_caissonlaw08_awake awake8_any trivial rfl ?_
  rintro _ w1 ⟨rfl, hbx⟩
  replace hs := hs.below hbx
  clear hbx
  apply wl_val; apply opv_not; exact rfl; exact rfl; refine wl_ns ?_; apply wc_condFb; exact rfl; exact Bool.not_true; refine wc_skip ?_; refine we_seq ?_; refine wc_seq ?_; refine wc_sr ?_; refine wl_mv rfl rfl ?_; apply wl_val; apply opv_len; exact rfl; exact tkE.sl; exact rfl; refine wl_bin rfl rfl bin_gtr rfl ?_; refine wl_ns ?_
  refine wc_cutE (fun L' w' => L' = [(0, .int .i64 ev), (1, .slice A (l0.take 40).length c), (2, .slice K key.length kc)] ∧ w' = w1) ?_ ?_
  · by_cases h : 40 < n
    · have h' : (n : Int) > 40 := by omega
      apply wc_decT; exact rfl; (with_reducible assumption); refine wc_region ?_; refine wl_mv rfl rfl ?_
      refine wl_slK (l := 0) (h := 40) tkE rfl rfl ⟨_, rfl⟩ (by omega) (by omega) rfl ?_
      rw [cutK_zero]
      refine wl_as rfl rfl ?_; refine wl_nil ?_
      exact we_cut _ ⟨rfl, rfl⟩ ⟨rfl, congrArg some (slice_eq (by simp; omega)), rfl, trivial⟩
    · have h' : ¬ (n : Int) > 40 := by omega
      apply wc_decF; exact rfl; (with_reducible assumption); refine wc_skip ?_
      exact we_cut _ ⟨rfl, rfl⟩ ⟨rfl, congrArg some (slice_eq (by simp; omega)), rfl, trivial⟩
  rintro _ _ ⟨rfl, rfl⟩
  refine we_seq ?_
  have hr2 := take_rdr (m := 40) hr (by omega)
  have hokA : ∀ x ∈ l0.take 40, (x.key.length ≤ 1048576 ∧ x.val.length ≤ 1048576) ∧ x.seq < 2 ^ 64 := fun x hx => ⟨hok1 x (few_mem hx), hsq x (few_mem hx)⟩
  have hlen : (l0.take 40).length ≤ 40 := by rw [List.length_take]; omega
  obtain ⟨k, hk'⟩ : ∃ q, l0.take 40 = q := ⟨_, rfl⟩
  rw [hk'] at hr2 hokA hlen
  rw [hk']
  clear hr hok1 hsq hk'
  refine wc_sr ?_; refine wl_mv rfl rfl ?_
  refine wl_call ok_caissonref07_Sorted (sorted_any (hr2.below hs.bel) rfl (fun x hx => by have := (hokA x hx).1; simp only [maxLen]; omega) (by omega)) ⟨rfl, trivial⟩ rfl ?_
  rintro _ w2 ⟨P, cp, rfl, hcp, hl2, hbx2⟩
  obtain ⟨hsl, hsm⟩ := sorted_mem8 hokA
  obtain ⟨hord, hchk⟩ := sorted_ok k
  obtain ⟨l, hld⟩ : ∃ q, sortedE k = q := ⟨_, rfl⟩
  rw [hld] at hl2 hsl hsm hord hchk hcp
  rw [hld]
  have hbw2 := hs.bel.trans (hbx2.mono hs.size)
  have hl3 : RdR 4 w2 All P (l.map enEl) := RdR.mono (by decide) hl2 fun _ _ _ => trivial
  replace hs := St.init w2
  replace rk := rk.below hbw2
  have hend : ∀ {wr : World}, Below w2.heap.size w2 wr → Below w.heap.size w wr := fun hb => hbw2.trans (hb.mono hbw2.size)
  have hmx : ∀ x ∈ l, x.key.length ≤ 1048576 ∧ x.val.length ≤ 1048576 := fun x hx => (hsm x hx).1
  clear hl2 hbx2 hld hr2 hokA
  refine wl_as rfl rfl ?_; refine wl_ns ?_; refine wc_seq ?_; refine wc_sr ?_; refine wl_mv rfl rfl ?_; refine wl_bin rfl rfl bin_lss rfl ?_; refine wl_ns ?_
  obtain ⟨every, he1, he2, hev2⟩ : ∃ e : Nat, 0 < e ∧ e ≤ 9223372036854775807 ∧ (e : Int) = if ev < 1 then 1 else ev := by
    by_cases h : ev < 1
    · exact ⟨1, by omega, by omega, by rw [if_pos h]; rfl⟩
    · exact ⟨ev.toNat, by omega, by omega, by rw [if_neg h]; omega⟩
  refine wc_cutE (fun L' w' => L' = [(0, .int .i64 (every : Int)), (1, .slice P l.length cp), (2, .slice K key.length kc)] ∧ w' = w2) ?_ ?_
  · rw [hev2]
    by_cases h : ev < 1
    · rw [if_pos h]
      apply wc_decT; exact rfl; (with_reducible assumption); refine wc_region ?_; refine wl_as rfl rfl ?_; refine wl_nil ?_
      exact we_cut _ ⟨rfl, rfl⟩ ⟨rfl, rfl, rfl, trivial⟩
    · rw [if_neg h]
      apply wc_decF; exact rfl; (with_reducible assumption); refine wc_skip ?_
      exact we_cut _ ⟨rfl, rfl⟩ ⟨rfl, rfl, rfl, trivial⟩
  rintro _ w2 ⟨rfl, rfl⟩
  refine we_seq ?_
  have hz2 : Siz2 l := fun x hx => by have := hmx x hx; exact ⟨by omega, by omega, (hsm x hx).2⟩
  refine wc_sr ?_; refine wl_mv rfl rfl ?_; refine wl_mv rfl rfl ?_
  refine wl_call ok_caissonref07_Twins (twins3_any (l := l) (hl3.below hs.bel) rfl (fun x h => by have := hmx x h; omega) (by omega)) ⟨rfl, trivial⟩ rfl ?_
  rintro _ w3 ⟨D, d, rfl, hsx⟩
  replace hs := hs.call hsx
  clear hsx
  dsimp only [List.cons_append, List.nil_append] at hs
  skip
  refine wl_call ok_block_Build (blkBuild_any (l := l) he1 he2 (OwR.rd (hs.rsE 0 rfl)) rfl (by omega) hz2) ⟨rfl, rfl, trivial⟩ rfl ?_
  have hck0 := check_of hchk
  have hor0 := ordE_of hord
  by_cases hbig : 1048576 < (blkB every l).length
  · have hbd : buildB every l = ([], 2) := by
      rw [buildB, hck0, if_neg (by omega), sealB, if_pos hbig]; rfl
    rw [hbd]
    rintro _ w6 ⟨BA, bc, rfl, oB, hbx⟩
    replace hs := hs.below hbx
    dsimp only
    have h2 : ((2 : Nat) : Int) = 2 := rfl
    refine wl_mv rfl rfl ?_; apply wl_val; apply opv_extract; exact rfl; exact rfl; exact rfl; apply wl_val; apply opv_extract; exact rfl; exact rfl; exact rfl; refine wl_as rfl rfl ?_; refine wl_as rfl rfl ?_; refine wl_ns ?_; refine wc_seq ?_; refine wc_sr ?_; refine wl_mv rfl rfl ?_; refine wl_bin rfl rfl bin_neq rfl ?_; refine wl_ns ?_; apply wc_condTb; exact rfl; exact rfl; refine wc_sr ?_; refine wl_mv rfl rfl ?_; refine wl_bin rfl rfl bin_eql rfl ?_; refine wl_as rfl rfl ?_; refine wl_ns ?_; refine wc_ret ?_; refine we_seq_ret ?_
    exact we_ret1 rfl rfl ⟨_, rfl, rfl, hend hs.1.below⟩
  obtain ⟨hbd, hdc⟩ := dec_build he1 hz2.siz hck0 hor0 (by omega)
  rw [hbd]
  obtain ⟨bs, hbs⟩ : ∃ q, crcRec (blkB every l) = q := ⟨_, rfl⟩
  rw [hbs] at hbd hdc
  rw [hbs]
  rintro _ w6 ⟨BA, bc, rfl, oB, hbx⟩
  replace hs := (hs.newN hbx oB).drop 1 rfl
  clear oB hbx
  dsimp only [delC] at hs ⊢
  have hbl : bs.length ≤ 1048584 := by rw [← hbs, crcRec_length]; omega
  have h00' : ((0 : Nat) : Int) = 0 := rfl
  refine wl_mv rfl rfl ?_; apply wl_val; apply opv_extract; exact rfl; exact rfl; exact rfl; apply wl_val; apply opv_extract; exact rfl; exact rfl; exact rfl; refine wl_as rfl rfl ?_; refine wl_as rfl rfl ?_; refine wl_ns ?_; refine wc_seq ?_; refine wc_sr ?_; refine wl_mv rfl rfl ?_; refine wl_bin rfl rfl bin_neq rfl ?_; refine wl_ns ?_; apply wc_condFb; exact rfl; exact rfl; refine wc_skip ?_; refine we_seq ?_; refine wc_seq ?_; refine wc_sr ?_
  refine ws_bs (vs := u64s [0, 1, 4, 18446744073709551615]) hs tyQ ⟨rfl, rfl, rfl, rfl, rfl, rfl, rfl, rfl, rfl, rfl, rfl, rfl, trivial⟩ rfl (by decide) rfl ?_
  clear hs; intro E0 w7 hs
  obtain ⟨ks, hks⟩ : ∃ q : List Nat, [0, 1, 4, 18446744073709551615] = q := ⟨_, rfl⟩
  have hk4 : ks.length = 4 := by rw [← hks]; rfl
  rw [hks] at hs
  clear hks
  apply wl_val; apply opv_len; exact rfl; exact tyQ.sl; exact rfl; refine wl_mv rfl rfl ?_; refine wl_ns ?_; refine wc_block ?_
  refine wc_loop (fun L wr mm => ∃ (j : Nat), L = [(1, .slice P l.length cp), (2, .slice K key.length kc), (7, .slice BA bs.length bc), (38, .slice E0 4 4), (39, .int .i64 4), (40, .int .i64 (j : Int))] ∧ j ≤ 4 ∧ St NoB w2 wr [.ow 33 E0 4 4 (u64s ks), .ck (nwC BA bc bs)] ∧ mm = 4 - j)
    [(1, .slice P l.length cp), (2, .slice K key.length kc), (7, .slice BA bs.length bc), (38, .slice E0 4 4), (39, .int .i64 4), (40, .int .i64 (0 : Nat))] 4 ⟨0, rfl, by omega, hs, rfl⟩ ⟨rfl, rfl, rfl, rfl, rfl, rfl, trivial⟩ ?_
  clear hs
  rintro _ w8 mm ⟨j, rfl, hj, hs, rfl⟩
  refine wc_sr ?_; refine wl_bin rfl rfl bin_lss rfl ?_; refine wl_ns ?_; refine wc_seq ?_
  refine wc_cond rfl (fun h2 => ?_) (fun h2 => ?_)
  · obtain ⟨m, hmj⟩ : ∃ m, ks[j]? = some m := ⟨_, List.getElem?_eq_getElem (by omega)⟩
    have hu := u64s_get hmj
    have hrow := (hs.ow 0 rfl).rd
    refine wc_skip ?_; refine we_seq ?_; refine wc_seq ?_; refine wc_block ?_; refine wc_sr ?_; apply wl_elK (T := tyQ) (hr := hrow) (hb := hu); exact rfl; exact rfl; exact rfl; exact rfl; exact rfl; intro _; refine wl_as rfl rfl ?_; refine wl_ns ?_; refine wc_sr ?_; refine wl_mv rfl rfl ?_; refine wl_mv rfl rfl ?_
    clear hrow
    have hj1 : ((j + 1 : Nat) : Int) = (j : Int) + 1 := by omega
    refine wl_call ok_caissonref01_Copy (copy_any (rk.below hs.bel) rfl (by omega)) ⟨rfl, trivial⟩ rfl ?_; rintro _ _ ⟨C1, c1, rfl, o_, hbx⟩; replace hs := hs.newO hbx o_ (Nat.le_refl _); try dsimp only [List.cons_append, List.nil_append, setC, delC] at hs
    refine wl_mv rfl rfl ?_
    obtain ⟨hbr, hbc⟩ := hs.nw 2 rfl
    refine wl_call ok_block_Seek (bseek_any (m := m) hbr rfl hbc (by omega) (hs.ow 0 rfl).rd rfl) ⟨rfl, rfl, rfl, trivial⟩ rfl ?_
    clear hbr hbc
    have hsg := sek_get (key := key) (m := m) hord
    have hsk : sekB bs ⟨key, m, 0, []⟩ = ((sekE l ⟨key, m, 0, []⟩).getD noE, (sekE l ⟨key, m, 0, []⟩).isSome, 0) := by rw [sekB, hdc]; rfl
    rw [hsk]
    clear hsk
    cases hse : sekE l ⟨key, m, 0, []⟩ with
    | none =>
      rw [hse] at hsg
      dsimp only at hsg
      have hgt : gtE l key m = noE := by rw [gtE, hsg]; rfl
      rintro _ w9 ⟨⟨X, cx, Y, cy, rfl, q1, q2⟩, hbx⟩
      replace hs := hs.below hbx
      clear hbx
      dsimp only [Option.getD_some, Option.isSome_some, Option.getD_none, Option.isSome_none] at q1 q2 ⊢
      refine wl_mv rfl rfl ?_; apply wl_val; apply opv_extract; exact rfl; exact rfl; exact rfl; apply wl_val; apply opv_extract; exact rfl; exact rfl; exact rfl; apply wl_val; apply opv_extract; exact rfl; exact rfl; exact rfl
      refine wl_var (cs := enV noE X cx Y cy) zeroE sE rfl (fun _ => rfl) rfl rfl fun g11 w10 hg11 a11 hbx => ?_
      replace hs := hs.newA hbx hg11 a11
      replace q1 := q1.below hbx
      replace q2 := q2.below hbx
      clear hbx hg11 a11
      refine wl_as rfl rfl ?_; refine wl_as rfl rfl ?_; refine wl_ns ?_; refine wc_sr ?_; refine wl_mv rfl rfl ?_; refine wl_mv rfl rfl ?_; refine wl_mv rfl rfl ?_
      refine wl_call ok_caissonref07_Get (refGet2_any (at' := m) (hl3.below hs.bel) rfl (rk.below hs.bel) rfl (fun x h => by have := hmx x h; simp only [maxLen]; omega) (by omega)) ⟨rfl, rfl, rfl, trivial⟩ rfl ?_
      rw [hsg, hgt]
      rintro _ w11 ⟨⟨X2, cx2, Y2, cy2, rfl, q3, q4⟩, hbx⟩
      replace hs := hs.below hbx
      replace q1 := q1.below hbx
      replace q2 := q2.below hbx
      clear hbx
      dsimp only [Option.isSome_some, Option.isSome_none]
      refine wl_mv rfl rfl ?_; apply wl_val; apply opv_extract; exact rfl; exact rfl; exact rfl; apply wl_val; apply opv_extract; exact rfl; exact rfl; exact rfl
      refine wl_var (cs := enV noE X2 cx2 Y2 cy2) zeroE sE rfl (fun _ => rfl) rfl rfl fun g14 w12 hg14 a14 hbx => ?_
      replace hs := hs.newA hbx hg14 a14
      replace q1 := q1.below hbx
      replace q2 := q2.below hbx
      replace q3 := q3.below hbx
      replace q4 := q4.below hbx
      clear hbx hg14 a14
      refine wl_as rfl rfl ?_; refine wl_ns ?_; refine wc_sr ?_; refine wl_mv rfl rfl ?_; refine wl_bin rfl rfl bin_neq rfl ?_; refine wl_mv rfl rfl ?_; apply wl_take; exact rfl; exact rfl; exact rfl; refine bF ?_; omega; refine wl_mv rfl rfl ?_; apply wl_take; exact rfl; exact rfl; exact rfl; refine bF ?_; omega; refine wl_mv rfl rfl ?_; apply wl_skip; exact rfl; exact rfl; exact rfl; exact bR2; exact rfl; apply wl_skip; exact rfl; exact rfl; exact rfl; exact bR2; exact rfl; apply wl_skip; exact rfl; exact rfl; exact rfl; exact bR2; exact rfl; apply wl_skip; exact rfl; exact rfl; exact rfl; exact bR2; exact rfl; apply wl_take; exact rfl; exact rfl; exact rfl; refine bF ?_; omega; apply wl_val; apply opv_pickF; exact rfl; exact rfl; exact rfl; exact rfl; apply wl_val; apply opv_pickF; exact rfl; refine bF ?_; omega; exact rfl; exact rfl; refine wl_mv rfl rfl ?_; apply wl_take; exact rfl; exact rfl; exact rfl; exact rfl; refine wl_mv rfl rfl ?_; apply wl_take; exact rfl; exact rfl; exact rfl; exact rfl; apply wl_val; apply opv_not; exact rfl; exact rfl; apply wl_take; exact rfl; exact rfl; exact rfl; exact rfl; refine wl_mv rfl rfl ?_; apply wl_take; exact rfl; exact rfl; exact rfl; exact Bool.not_false; refine wl_mv rfl rfl ?_; apply wl_take; exact rfl; exact rfl; exact rfl; exact rfl; apply wl_val; apply opv_pickT; exact rfl; exact Bool.not_false; exact rfl; exact rfl; apply wl_take; exact rfl; exact rfl; exact rfl; exact rfl; refine wl_mv rfl rfl ?_; apply wl_skip; exact rfl; exact rfl; exact rfl; exact bR2; exact rfl; apply wl_skip; exact rfl; exact rfl; exact rfl; exact bR2; exact rfl; apply wl_skip; exact rfl; exact rfl; exact rfl; exact bR2; exact rfl; apply wl_skip; exact rfl; exact rfl; exact rfl; exact bR2; exact rfl; apply wl_take; exact rfl; exact rfl; exact rfl; exact rfl; apply wl_val; apply opv_pickF; exact rfl; exact rfl; exact rfl; exact rfl; apply wl_val; apply opv_pickF; exact rfl; exact rfl; exact rfl; exact rfl; refine wl_ns ?_; apply wc_condFb; exact rfl; exact rfl; refine wc_skip ?_; refine we_block_norm ?_; refine we_seq ?_; refine wc_region ?_; apply wl_val; apply opv_bin; exact rfl; exact rfl; exact bin_add64 (by omega); exact rfl; refine wl_mv rfl rfl ?_; refine wl_nil ?_
      exact we_loop _ (4 - (j + 1)) ⟨j + 1, rfl, by omega, ((hs.drop 0 rfl).drop 0 rfl).drop 0 rfl, rfl⟩ (by omega) ⟨rfl, rfl, rfl, rfl, rfl, by simp [lookT], trivial⟩
    | some z =>
      rw [hse] at hsg
      dsimp only at hsg
      have hzm := hmx z (List.mem_of_find?_eq_some hse)
      by_cases hzk : z.key = key
      case neg =>
        rw [if_neg hzk] at hsg
        have hgt : gtE l key m = noE := by rw [gtE, hsg]; rfl
        rintro _ w9 ⟨⟨X, cx, Y, cy, rfl, q1, q2⟩, hbx⟩
        replace hs := hs.below hbx
        clear hbx
        dsimp only [Option.getD_some, Option.isSome_some, Option.getD_none, Option.isSome_none] at q1 q2 ⊢
        refine wl_mv rfl rfl ?_; apply wl_val; apply opv_extract; exact rfl; exact rfl; exact rfl; apply wl_val; apply opv_extract; exact rfl; exact rfl; exact rfl; apply wl_val; apply opv_extract; exact rfl; exact rfl; exact rfl
        refine wl_var (cs := enV z X cx Y cy) zeroE sE rfl (fun _ => rfl) rfl rfl fun g11 w10 hg11 a11 hbx => ?_
        replace hs := hs.newA hbx hg11 a11
        replace q1 := q1.below hbx
        replace q2 := q2.below hbx
        clear hbx hg11 a11
        refine wl_as rfl rfl ?_; refine wl_as rfl rfl ?_; refine wl_ns ?_; refine wc_sr ?_; refine wl_mv rfl rfl ?_; refine wl_mv rfl rfl ?_; refine wl_mv rfl rfl ?_
        refine wl_call ok_caissonref07_Get (refGet2_any (at' := m) (hl3.below hs.bel) rfl (rk.below hs.bel) rfl (fun x h => by have := hmx x h; simp only [maxLen]; omega) (by omega)) ⟨rfl, rfl, rfl, trivial⟩ rfl ?_
        rw [hsg, hgt]
        rintro _ w11 ⟨⟨X2, cx2, Y2, cy2, rfl, q3, q4⟩, hbx⟩
        replace hs := hs.below hbx
        replace q1 := q1.below hbx
        replace q2 := q2.below hbx
        clear hbx
        dsimp only [Option.isSome_some, Option.isSome_none]
        refine wl_mv rfl rfl ?_; apply wl_val; apply opv_extract; exact rfl; exact rfl; exact rfl; apply wl_val; apply opv_extract; exact rfl; exact rfl; exact rfl
        refine wl_var (cs := enV noE X2 cx2 Y2 cy2) zeroE sE rfl (fun _ => rfl) rfl rfl fun g14 w12 hg14 a14 hbx => ?_
        replace hs := hs.newA hbx hg14 a14
        replace q1 := q1.below hbx
        replace q2 := q2.below hbx
        replace q3 := q3.below hbx
        replace q4 := q4.below hbx
        clear hbx hg14 a14
        unfold enV at hs
        refine wl_as rfl rfl ?_; refine wl_ns ?_; refine wc_sr ?_; refine wl_mv rfl rfl ?_; refine wl_bin rfl rfl bin_neq rfl ?_; refine wl_mv rfl rfl ?_; apply wl_take; exact rfl; exact rfl; exact rfl; refine bF ?_; omega; refine wl_mv rfl rfl ?_; apply wl_take; exact rfl; exact rfl; exact rfl; refine bF ?_; omega; refine wl_mv rfl rfl ?_; apply wl_skip; exact rfl; exact rfl; exact rfl; exact bR2; exact rfl; apply wl_skip; exact rfl; exact rfl; exact rfl; exact bR2; exact rfl; apply wl_skip; exact rfl; exact rfl; exact rfl; exact bR2; exact rfl; apply wl_skip; exact rfl; exact rfl; exact rfl; exact bR2; exact rfl; apply wl_take; exact rfl; exact rfl; exact rfl; refine bF ?_; omega; apply wl_val; apply opv_pickF; exact rfl; exact rfl; exact rfl; exact rfl; apply wl_val; apply opv_pickF; exact rfl; refine bF ?_; omega; exact rfl; exact rfl; refine wl_mv rfl rfl ?_; apply wl_take; exact rfl; exact rfl; exact rfl; exact rfl; refine wl_mv rfl rfl ?_; apply wl_take; exact rfl; exact rfl; exact rfl; exact rfl; apply wl_val; apply opv_not; exact rfl; exact rfl; apply wl_take; exact rfl; exact rfl; exact rfl; exact rfl; refine wl_mv rfl rfl ?_; apply wl_take; exact rfl; exact rfl; exact rfl; exact Bool.not_false; refine wl_mv rfl rfl ?_; apply wl_take; exact rfl; exact rfl; exact rfl; exact rfl; apply wl_val; apply opv_pickT; exact rfl; exact Bool.not_false; exact rfl; exact rfl; apply wl_take; exact rfl; exact rfl; exact rfl; exact rfl; refine wl_mv rfl rfl ?_; apply wl_take; exact rfl; exact rfl; exact rfl; exact rfl; apply wl_val; apply opv_fa; exact fa_sE (by decide); exact rfl; exact rfl; apply wl_take; exact rfl; exact rfl; exact rfl; exact rfl; apply wl_val; apply opv_ldX; exact rfl; exact hs.ar 1 rfl; exact e1_by; exact rfl; exact rfl; apply wl_take; exact rfl; exact rfl; exact rfl; exact rfl; refine wl_mv rfl rfl ?_; apply wl_take; exact rfl; exact rfl; exact rfl; exact rfl
        refine wl_call ok_caissonref01_Equal (equal_any (xs := z.key) (ys := key) q1 (rk.below hs.bel) rfl rfl (by simp only [maxLen]; omega)) ⟨rfl, rfl, trivial⟩ rfl ?_
        rintro _ w13 ⟨rfl, hbx⟩
        replace hs := hs.below hbx
        clear hbx
        rw [decide_eq_false hzk]
        apply wl_take; exact rfl; exact rfl; exact rfl; exact rfl; apply wl_val; apply opv_pickT; exact rfl; exact rfl; exact rfl; exact rfl; apply wl_val; apply opv_pickF; exact rfl; exact rfl; exact rfl; exact rfl; refine wl_ns ?_; apply wc_condFb; exact rfl; exact rfl; refine wc_skip ?_; refine we_block_norm ?_; refine we_seq ?_; refine wc_region ?_; apply wl_val; apply opv_bin; exact rfl; exact rfl; exact bin_add64 (by omega); exact rfl; refine wl_mv rfl rfl ?_; refine wl_nil ?_
        exact we_loop _ (4 - (j + 1)) ⟨j + 1, rfl, by omega, ((hs.drop 0 rfl).drop 0 rfl).drop 0 rfl, rfl⟩ (by omega) ⟨rfl, rfl, rfl, rfl, rfl, by simp [lookT], trivial⟩
      case pos =>
        rw [if_pos hzk] at hsg
        have hgt : gtE l key m = z := by rw [gtE, hsg]; rfl
        rintro _ w9 ⟨⟨X, cx, Y, cy, rfl, q1, q2⟩, hbx⟩
        replace hs := hs.below hbx
        clear hbx
        dsimp only [Option.getD_some, Option.isSome_some, Option.getD_none, Option.isSome_none] at q1 q2 ⊢
        refine wl_mv rfl rfl ?_; apply wl_val; apply opv_extract; exact rfl; exact rfl; exact rfl; apply wl_val; apply opv_extract; exact rfl; exact rfl; exact rfl; apply wl_val; apply opv_extract; exact rfl; exact rfl; exact rfl
        refine wl_var (cs := enV z X cx Y cy) zeroE sE rfl (fun _ => rfl) rfl rfl fun g11 w10 hg11 a11 hbx => ?_
        replace hs := hs.newA hbx hg11 a11
        replace q1 := q1.below hbx
        replace q2 := q2.below hbx
        clear hbx hg11 a11
        refine wl_as rfl rfl ?_; refine wl_as rfl rfl ?_; refine wl_ns ?_; refine wc_sr ?_; refine wl_mv rfl rfl ?_; refine wl_mv rfl rfl ?_; refine wl_mv rfl rfl ?_
        refine wl_call ok_caissonref07_Get (refGet2_any (at' := m) (hl3.below hs.bel) rfl (rk.below hs.bel) rfl (fun x h => by have := hmx x h; simp only [maxLen]; omega) (by omega)) ⟨rfl, rfl, rfl, trivial⟩ rfl ?_
        rw [hsg, hgt]
        rintro _ w11 ⟨⟨X2, cx2, Y2, cy2, rfl, q3, q4⟩, hbx⟩
        replace hs := hs.below hbx
        replace q1 := q1.below hbx
        replace q2 := q2.below hbx
        clear hbx
        dsimp only [Option.isSome_some, Option.isSome_none]
        refine wl_mv rfl rfl ?_; apply wl_val; apply opv_extract; exact rfl; exact rfl; exact rfl; apply wl_val; apply opv_extract; exact rfl; exact rfl; exact rfl
        refine wl_var (cs := enV z X2 cx2 Y2 cy2) zeroE sE rfl (fun _ => rfl) rfl rfl fun g14 w12 hg14 a14 hbx => ?_
        replace hs := hs.newA hbx hg14 a14
        replace q1 := q1.below hbx
        replace q2 := q2.below hbx
        replace q3 := q3.below hbx
        replace q4 := q4.below hbx
        clear hbx hg14 a14
        unfold enV at hs
        refine wl_as rfl rfl ?_; refine wl_ns ?_; refine wc_sr ?_; refine wl_mv rfl rfl ?_; refine wl_bin rfl rfl bin_neq rfl ?_; refine wl_mv rfl rfl ?_; apply wl_take; exact rfl; exact rfl; exact rfl; refine bF ?_; omega; refine wl_mv rfl rfl ?_; apply wl_take; exact rfl; exact rfl; exact rfl; refine bF ?_; omega; refine wl_mv rfl rfl ?_; apply wl_take; exact rfl; exact rfl; exact rfl; exact rfl; apply wl_val; apply opv_loadX; exact rfl; exact hs.ar 1 rfl; exact sE; exact rfl; apply wl_take; exact rfl; exact rfl; exact rfl; exact rfl; apply wl_val; apply opv_loadX; exact rfl; exact hs.ar 0 rfl; exact sE; exact rfl; apply wl_take; exact rfl; exact rfl; exact rfl; exact rfl
        refine wl_call ok_caissonref07_Same (sameE_any (x := z) (y := z) q1 q2 q3 q4 (by simp only [maxLen]; omega) (by simp only [maxLen]; omega)) ⟨rfl, rfl, trivial⟩ rfl ?_
        rintro _ w13 ⟨⟨q, rfl, hq⟩, hbx⟩
        obtain rfl := hq.2 rfl
        replace hs := hs.below hbx
        clear hbx hq
        apply wl_take; exact rfl; exact rfl; exact rfl; exact rfl; apply wl_val; apply opv_not; exact rfl; exact rfl; apply wl_take; exact rfl; exact rfl; exact rfl; refine bF ?_; omega; apply wl_val; apply opv_pickT; exact rfl; exact rfl; exact rfl; exact rfl; apply wl_val; apply opv_pickF; exact rfl; refine bF ?_; omega; exact rfl; exact rfl; refine wl_mv rfl rfl ?_; apply wl_take; exact rfl; exact rfl; exact rfl; exact Bool.not_true; refine wl_mv rfl rfl ?_; apply wl_take; exact rfl; exact rfl; exact rfl; exact Bool.not_true; apply wl_val; apply opv_not; exact rfl; exact rfl; apply wl_take; exact rfl; exact rfl; exact rfl; exact Bool.not_true; refine wl_mv rfl rfl ?_; apply wl_skip; exact rfl; exact rfl; exact rfl; exact rfl; exact rfl; apply wl_take; exact rfl; exact rfl; exact rfl; exact Bool.not_true; apply wl_val; apply opv_pickF; exact rfl; exact Bool.not_true; exact rfl; exact rfl; apply wl_take; exact rfl; exact rfl; exact rfl; exact Bool.not_true; refine wl_mv rfl rfl ?_; apply wl_skip; exact rfl; exact rfl; exact rfl; exact bR2; exact rfl; apply wl_skip; exact rfl; exact rfl; exact rfl; exact bR2; exact rfl; apply wl_skip; exact rfl; exact rfl; exact rfl; exact bR2; exact rfl; apply wl_skip; exact rfl; exact rfl; exact rfl; exact bR2; exact rfl; apply wl_take; exact rfl; exact rfl; exact rfl; exact Bool.not_true; apply wl_val; apply opv_pickF; exact rfl; exact rfl; exact rfl; exact rfl; apply wl_val; apply opv_pickF; exact rfl; exact Bool.not_true; exact rfl; exact rfl; refine wl_ns ?_; apply wc_condFb; exact rfl; exact rfl; refine wc_skip ?_; refine we_block_norm ?_; refine we_seq ?_; refine wc_region ?_; apply wl_val; apply opv_bin; exact rfl; exact rfl; exact bin_add64 (by omega); exact rfl; refine wl_mv rfl rfl ?_; refine wl_nil ?_
        exact we_loop _ (4 - (j + 1)) ⟨j + 1, rfl, by omega, ((hs.drop 0 rfl).drop 0 rfl).drop 0 rfl, rfl⟩ (by omega) ⟨rfl, rfl, rfl, rfl, rfl, by simp [lookT], trivial⟩
  · refine wc_exit ?_; refine we_seq_exit ?_; refine we_loop_exit ?_; refine we_block_exit ?_; refine we_seq ?_; refine wc_sr ?_; refine wl_as rfl rfl ?_; refine wl_ns ?_; refine wc_ret ?_
    exact we_ret1 rfl rfl ⟨_, rfl, rfl, hend hs.1.below⟩
end Go.Proofs.Ytojncfdlddepdaa


/-
  Plain laws of bursts: bits that are turned within 32 of one another are seen by the sum, in a record too. No program in sight.
-/
namespace Go.Proofs.Ytojncfdlddepdaa

theorem xor_lowk (q r k : Nat) (hr : r < 2 ^ k) : q * 2 ^ k ^^^ r = q * 2 ^ k + r := by
  have hp : 0 < 2 ^ k := Nat.two_pow_pos k
  have h1 : (q * 2 ^ k ^^^ r) / 2 ^ k = q := by
    have := Nat.shiftRight_xor_distrib (a := q * 2 ^ k) (b := r) (i := k)
    simp only [Nat.shiftRight_eq_div_pow] at this
    rw [Nat.mul_div_cancel _ hp, Nat.div_eq_of_lt hr, Nat.xor_zero] at this
    exact this
  have h2 : (q * 2 ^ k ^^^ r) % 2 ^ k = r := by
    have := Nat.xor_mod_two_pow (a := q * 2 ^ k) (b := r) (n := k)
    rw [Nat.mul_mod_left, Nat.zero_xor, Nat.mod_eq_of_lt hr] at this
    exact this
  have h3 := Nat.div_add_mod (q * 2 ^ k ^^^ r) (2 ^ k)
  rw [h1, h2, Nat.mul_comm] at h3
  exact h3.symm
theorem xor_mulp (a b p : Nat) : (a ^^^ b) * 2 ^ p = a * 2 ^ p ^^^ b * 2 ^ p := by
  have := Nat.shiftLeft_xor_distrib (a := a) (b := b) (i := p)
  simpa only [Nat.shiftLeft_eq] using this
theorem mask_step {n k p : Nat} (h : n / 2 ^ k % 2 = 1) : n % 2 ^ k * 2 ^ p ^^^ 2 ^ (p + k) = n % 2 ^ (k + 1) * 2 ^ p := by
  have e : n % 2 ^ (k + 1) = 1 * 2 ^ k ^^^ n % 2 ^ k := by
    rw [xor_lowk _ _ _ (Nat.mod_lt _ (Nat.two_pow_pos k)), Nat.mod_pow_succ, h, Nat.mul_one, Nat.one_mul, Nat.add_comm]
  rw [e, xor_mulp, Nat.one_mul, ← Nat.pow_add, Nat.add_comm k p, Nat.xor_comm]
theorem mask_keep {n k : Nat} (h : ¬ n / 2 ^ k % 2 = 1) : n % 2 ^ (k + 1) = n % 2 ^ k := by
  rw [Nat.mod_pow_succ, show n / 2 ^ k % 2 = 0 by omega, Nat.mul_zero, Nat.add_zero]
theorem burst_raw {l m : List UInt8} {n p : Nat} (hn : n < 4294967296) (h0 : n ≠ 0) (hlen : l.length = m.length) (hp : p ≤ 8 * l.length) (hl : low l = low m ^^^ n * 2 ^ p) (x : Nat) : crcRaw x l ≠ crcRaw x m := fun h => by
  have h1 := raw_diff x hlen
  rw [h, Nat.xor_self, hl, Nat.xor_comm (low m), Nat.xor_assoc, Nat.xor_self, Nat.xor_zero] at h1
  exact burst_ne hn h0 hp h1.symm
theorem burst_crc {l m : List UInt8} {n p : Nat} (hn : n < 4294967296) (h0 : n ≠ 0) (hlen : l.length = m.length) (hp : p ≤ 8 * l.length) (hl : low l = low m ^^^ n * 2 ^ p) (a : List UInt8) : crcOf (a ++ l) ≠ crcOf (a ++ m) := fun h => by
  have h1 := burst_raw hn h0 hlen hp hl (crcRaw 4294967295 a)
  rw [← raw_append, ← raw_append] at h1
  have h2 : crcRaw 4294967295 (a ++ l) < 4294967296 := raw_lt _ (by decide)
  have h3 : crcRaw 4294967295 (a ++ m) < 4294967296 := raw_lt _ (by decide)
  unfold crcOf at h
  omega
/-- A record whose sum isn't its body's. -/
theorem openB_bad {b : List UInt8} {s : Nat} (h : b.length ≤ 1048576) (hs : s < 4294967296) (hne : crcOf (four b.length ++ b) ≠ s) : openB (four b.length ++ (four s ++ b)) 0 = ([], 0, 4) := by
  obtain ⟨y, hy⟩ : ∃ y, four b.length ++ (four s ++ b) = y := ⟨_, rfl⟩
  rw [hy]
  have e1 : y.take 4 = four b.length := by rw [← hy, List.take_append_of_le_length (by rw [four_length]; omega), List.take_of_length_le (by rw [four_length]; omega)]
  have e2 : numB (y.take 4) = b.length := by rw [e1, numB_four (by omega)]
  have e3 : (y.drop 4).take 4 = four s := by
    rw [← hy, List.drop_append_of_le_length (by rw [four_length]; omega), List.drop_of_length_le (by rw [four_length]; omega), List.nil_append,
      List.take_append_of_le_length (by rw [four_length]; omega), List.take_of_length_le (by rw [four_length]; omega)]
  have hl : y.length = 8 + b.length := by rw [← hy]; simp [four_length]; omega
  have e4 : (y.take (8 + b.length)).drop 8 = b := by
    rw [List.take_of_length_le (by omega), ← hy, ← List.append_assoc, List.drop_append_of_le_length (by simp [four_length]), List.drop_of_length_le (by simp [four_length]), List.nil_append]
  have ho : openH y = ([], 4) := openH_sum (by omega) (by omega) (by omega) (by rw [e2, e3, e4, e1, numB_four hs]; exact hne)
  exact openB_err (q := 0) (by omega) (by rw [List.drop_zero]; exact ho) (by decide)
end Go.Proofs.Ytojncfdlddepdaa


/-
  Walk over the law BlockBursts.
-/
namespace Go.Proofs.Ytojncfdlddepdaa
open Go.RowKit

/-- A sealed block with a change of bits is refused. -/
theorem dec_burst {b z : List UInt8} {m p : Nat} (hb : b.length ≤ 1048576) (hm : m < 4294967296) (h0 : m ≠ 0) (hz : z.length = b.length) (hp : p ≤ 8 * z.length) (hlow : low z = low b ^^^ m * 2 ^ p) :
    decB (four b.length ++ (four (crcOf (four b.length ++ b)) ++ z)) = ([], 4) := by
  have hne := burst_crc hm h0 hz hp hlow (four b.length)
  have ho : openB (four b.length ++ (four (crcOf (four b.length ++ b)) ++ z)) 0 = ([], 0, 4) := by
    have := openB_bad (b := z) (s := crcOf (four b.length ++ b)) (by omega) (crcOf_lt _) (by rw [hz]; exact hne)
    rw [hz] at this
    exact this
  unfold decB
  rw [ho]
  rfl
set_option maxRecDepth 8000 in
set_option maxHeartbeats 2000000 in
theorem bursts8_any {A : Option Addr} {n c m : Nat} {p : Int} {l0 : List En} {w : World} (hr : RdR 4 w All A (l0.map enEl)) (hn : l0.length = n) (hc : n ≤ c) (hsq : ∀ x ∈ l0, x.seq < 2 ^ 64) (hl : sumB enB l0 ≤ 1048576) (hp : -9223372036854775808 ≤ p ∧ p ≤ 9223372036854775807) (hm : m < 4294967296) :
    CallsV Try.prog 3 #[.slice A n c, .int .i64 p, .int .u32 (m : Int)] w (RetTr w) := by
  obtain ⟨hl1, hok1⟩ := ent_small hl
  have hs := St.init w
  refine calls_in (N := _) Try.func3 rfl Try.ntmps3 rfl ?_; show WC _ _ _ _ _ _
  refine wc_sr ?_; refine wl_as rfl rfl ?_; refine wl_ns ?_; refine wc_seq ?_; refine wc_sr ?_
  refine wl_call ok_caissonlaw08_awake awake8_any trivial rfl ?_
  rintro _ w1 ⟨rfl, hbx⟩
  replace hs := hs.below hbx
  clear hbx
  apply wl_val; apply opv_not; exact rfl; exact rfl; refine wl_ns ?_; apply wc_condFb; exact rfl; exact Bool.not_true; refine wc_skip ?_; refine we_seq ?_; refine wc_seq ?_; refine wc_sr ?_; refine wl_mv rfl rfl ?_; apply wl_val; apply opv_len; exact rfl; exact tkE.sl; exact rfl; refine wl_bin rfl rfl bin_gtr rfl ?_; refine wl_ns ?_
  refine wc_cutE (fun L' w' => L' = [(0, .slice A (l0.take 40).length c), (1, .int .i64 p), (2, .int .u32 (m : Int))] ∧ w' = w1) ?_ ?_
  · by_cases h : 40 < n
    · have h' : (n : Int) > 40 := by omega
      apply wc_decT; exact rfl; (with_reducible assumption); refine wc_region ?_; refine wl_mv rfl rfl ?_
      refine wl_slK (l := 0) (h := 40) tkE rfl rfl ⟨_, rfl⟩ (by omega) (by omega) rfl ?_
      rw [cutK_zero]
      refine wl_as rfl rfl ?_; refine wl_nil ?_
      exact we_cut _ ⟨rfl, rfl⟩ ⟨congrArg some (slice_eq (by simp; omega)), rfl, rfl, trivial⟩
    · have h' : ¬ (n : Int) > 40 := by omega
      apply wc_decF; exact rfl; (with_reducible assumption); refine wc_skip ?_
      exact we_cut _ ⟨rfl, rfl⟩ ⟨congrArg some (slice_eq (by simp; omega)), rfl, rfl, trivial⟩
  rintro _ _ ⟨rfl, rfl⟩
  refine we_seq ?_
  have hr2 := take_rdr (m := 40) hr (by omega)
  have hokA : ∀ x ∈ l0.take 40, (x.key.length ≤ 1048576 ∧ x.val.length ≤ 1048576) ∧ x.seq < 2 ^ 64 := fun x hx => ⟨hok1 x (few_mem hx), hsq x (few_mem hx)⟩
  have hlen : (l0.take 40).length ≤ 40 := by rw [List.length_take]; omega
  obtain ⟨k, hk'⟩ : ∃ q, l0.take 40 = q := ⟨_, rfl⟩
  rw [hk'] at hr2 hokA hlen
  rw [hk']
  clear hr hok1 hsq hk'
  refine wc_sr ?_; refine wl_mv rfl rfl ?_
  refine wl_call ok_caissonref07_Sorted (sorted_any (hr2.below hs.bel) rfl (fun x hx => by have := (hokA x hx).1; simp only [maxLen]; omega) (by omega)) ⟨rfl, trivial⟩ rfl ?_
  rintro _ w2 ⟨P, cp, rfl, hcp, hl2, hbx2⟩
  obtain ⟨hsl, hsm⟩ := sorted_mem8 hokA
  obtain ⟨hord, hchk⟩ := sorted_ok k
  obtain ⟨l, hld⟩ : ∃ q, sortedE k = q := ⟨_, rfl⟩
  rw [hld] at hl2 hsl hsm hord hchk hcp
  rw [hld]
  have hl3 : RdR 4 w2 All P (l.map enEl) := RdR.mono (by decide) hl2 fun _ _ _ => trivial
  replace hs := hs.below hbx2
  have hmx : ∀ x ∈ l, x.key.length ≤ 1048576 ∧ x.val.length ≤ 1048576 := fun x hx => (hsm x hx).1
  clear hl2 hbx2 hld hr2 hokA
  have hz2 : Siz2 l := fun x hx => by have := hmx x hx; exact ⟨by omega, by omega, (hsm x hx).2⟩
  skip
  refine wl_call ok_block_Build (blkBuild_any (every := 3) (l := l) (by decide) (by decide) hl3 rfl (by omega) hz2) ⟨rfl, rfl, trivial⟩ rfl ?_
  have hck0 := check_of hchk
  have hor0 := ordE_of hord
  by_cases hbig : 1048576 < (blkB 3 l).length
  · have hbd : buildB 3 l = ([], 2) := by
      rw [buildB, hck0, if_neg (by omega), sealB, if_pos hbig]; rfl
    rw [hbd]
    rintro _ w6 ⟨BA, bc, rfl, oB, hbx⟩
    replace hs := hs.below hbx
    dsimp only
    have h2 : ¬ ((2 : Nat) : Int) = 0 := by omega
    refine wl_mv rfl rfl ?_; apply wl_val; apply opv_extract; exact rfl; exact rfl; exact rfl; apply wl_val; apply opv_extract; exact rfl; exact rfl; exact rfl; refine wl_as rfl rfl ?_; refine wl_as rfl rfl ?_; refine wl_ns ?_; refine wc_seq ?_; refine wc_sr ?_; refine wl_mv rfl rfl ?_; refine wl_bin rfl rfl bin_neq rfl ?_; refine wl_mv rfl rfl ?_; apply wl_skip; exact rfl; exact rfl; exact rfl; refine bTn ?_; (with_reducible assumption); exact rfl; apply wl_skip; exact rfl; exact rfl; exact rfl; refine bTn ?_; (with_reducible assumption); exact rfl; apply wl_val; apply opv_pickT; exact rfl; refine bT ?_; (with_reducible assumption); exact rfl; exact rfl; refine wl_mv rfl rfl ?_; apply wl_skip; exact rfl; exact rfl; exact rfl; exact bR1; exact rfl; apply wl_skip; exact rfl; exact rfl; exact rfl; exact bR1; exact rfl; apply wl_val; apply opv_pickT; exact rfl; exact rfl; exact rfl; exact rfl; refine wl_mv rfl rfl ?_; apply wl_skip; exact rfl; exact rfl; exact rfl; exact bR1; exact rfl; apply wl_skip; exact rfl; exact rfl; exact rfl; exact bR1; exact rfl; apply wl_skip; exact rfl; exact rfl; exact rfl; exact bR1; exact rfl; apply wl_skip; exact rfl; exact rfl; exact rfl; exact bR1; exact rfl; apply wl_skip; exact rfl; exact rfl; exact rfl; exact bR1; exact rfl; apply wl_skip; exact rfl; exact rfl; exact rfl; exact bR1; exact rfl; apply wl_val; apply opv_pickT; exact rfl; exact rfl; exact rfl; exact rfl; refine wl_ns ?_; apply wc_condTb; exact rfl; exact rfl; refine wc_sr ?_; refine wl_as rfl rfl ?_; refine wl_ns ?_; refine wc_ret ?_; refine we_seq_ret ?_
    exact we_ret1 rfl rfl ⟨_, rfl, rfl, hs.bel⟩
  obtain ⟨hbd, _⟩ := dec_build (every := 3) (by decide) hz2.siz hck0 hor0 (by omega)
  rw [hbd]
  obtain ⟨bl, hbl⟩ : ∃ q, blkB 3 l = q := ⟨_, rfl⟩
  rw [hbl] at hbd hbig
  rw [hbl]
  have hcl : (crcRec bl).length = 8 + bl.length := crcRec_length bl
  rintro _ w6 ⟨BA, bc, rfl, oB, hbx⟩
  dsimp only at oB ⊢
  have h00 : ((0 : Nat) : Int) = 0 := rfl
  by_cases hm0 : m = 0
  · have hm0' : (m : Int) = 0 := by omega
    replace hs := hs.below hbx
    refine wl_mv rfl rfl ?_; apply wl_val; apply opv_extract; exact rfl; exact rfl; exact rfl; apply wl_val; apply opv_extract; exact rfl; exact rfl; exact rfl; refine wl_as rfl rfl ?_; refine wl_as rfl rfl ?_; refine wl_ns ?_; refine wc_seq ?_; refine wc_sr ?_; refine wl_mv rfl rfl ?_; refine wl_bin rfl rfl bin_neq rfl ?_; refine wl_mv rfl rfl ?_; apply wl_take; exact rfl; exact rfl; exact rfl; refine bF ?_; omega; refine wl_mv rfl rfl ?_; apply wl_take; exact rfl; exact rfl; exact rfl; refine bF ?_; omega; refine wl_bin rfl rfl bin_eql rfl ?_; apply wl_val; apply opv_pickF; exact rfl; refine bF ?_; omega; exact rfl; exact rfl; refine wl_mv rfl rfl ?_; apply wl_skip; exact rfl; exact rfl; exact rfl; refine bTn ?_; (with_reducible assumption); exact rfl; apply wl_skip; exact rfl; exact rfl; exact rfl; refine bTn ?_; (with_reducible assumption); exact rfl; apply wl_val; apply opv_pickT; exact rfl; refine bT ?_; (with_reducible assumption); exact rfl; exact rfl; refine wl_mv rfl rfl ?_; apply wl_skip; exact rfl; exact rfl; exact rfl; exact bR1; exact rfl; apply wl_skip; exact rfl; exact rfl; exact rfl; exact bR1; exact rfl; apply wl_skip; exact rfl; exact rfl; exact rfl; exact bR1; exact rfl; apply wl_skip; exact rfl; exact rfl; exact rfl; exact bR1; exact rfl; apply wl_skip; exact rfl; exact rfl; exact rfl; exact bR1; exact rfl; apply wl_skip; exact rfl; exact rfl; exact rfl; exact bR1; exact rfl; apply wl_val; apply opv_pickT; exact rfl; exact rfl; exact rfl; exact rfl; refine wl_ns ?_; apply wc_condTb; exact rfl; exact rfl; refine wc_sr ?_; refine wl_as rfl rfl ?_; refine wl_ns ?_; refine wc_ret ?_; refine we_seq_ret ?_
    exact we_ret1 rfl rfl ⟨_, rfl, rfl, hs.bel⟩
  have hm0' : ¬ (m : Int) = 0 := by omega
  by_cases hp1 : p < 64
  · replace hs := hs.below hbx
    refine wl_mv rfl rfl ?_; apply wl_val; apply opv_extract; exact rfl; exact rfl; exact rfl; apply wl_val; apply opv_extract; exact rfl; exact rfl; exact rfl; refine wl_as rfl rfl ?_; refine wl_as rfl rfl ?_; refine wl_ns ?_; refine wc_seq ?_; refine wc_sr ?_; refine wl_mv rfl rfl ?_; refine wl_bin rfl rfl bin_neq rfl ?_; refine wl_mv rfl rfl ?_; apply wl_take; exact rfl; exact rfl; exact rfl; refine bF ?_; omega; refine wl_mv rfl rfl ?_; apply wl_take; exact rfl; exact rfl; exact rfl; refine bF ?_; omega; refine wl_bin rfl rfl bin_eql rfl ?_; apply wl_val; apply opv_pickF; exact rfl; refine bF ?_; omega; exact rfl; exact rfl; refine wl_mv rfl rfl ?_; apply wl_take; exact rfl; exact rfl; exact rfl; refine bF ?_; (with_reducible assumption); refine wl_mv rfl rfl ?_; apply wl_take; exact rfl; exact rfl; exact rfl; refine bF ?_; (with_reducible assumption); refine wl_bin rfl rfl bin_lss rfl ?_; apply wl_val; apply opv_pickF; exact rfl; refine bF ?_; (with_reducible assumption); exact rfl; exact rfl; refine wl_mv rfl rfl ?_; apply wl_skip; exact rfl; exact rfl; exact rfl; refine bTn ?_; (with_reducible assumption); exact rfl; apply wl_skip; exact rfl; exact rfl; exact rfl; refine bTn ?_; (with_reducible assumption); exact rfl; apply wl_skip; exact rfl; exact rfl; exact rfl; refine bTn ?_; (with_reducible assumption); exact rfl; apply wl_skip; exact rfl; exact rfl; exact rfl; refine bTn ?_; (with_reducible assumption); exact rfl; apply wl_skip; exact rfl; exact rfl; exact rfl; refine bTn ?_; (with_reducible assumption); exact rfl; apply wl_skip; exact rfl; exact rfl; exact rfl; refine bTn ?_; (with_reducible assumption); exact rfl; apply wl_val; apply opv_pickT; exact rfl; refine bT ?_; (with_reducible assumption); exact rfl; exact rfl; refine wl_ns ?_; apply wc_condTb; exact rfl; exact rfl; refine wc_sr ?_; refine wl_as rfl rfl ?_; refine wl_ns ?_; refine wc_ret ?_; refine we_seq_ret ?_
    exact we_ret1 rfl rfl ⟨_, rfl, rfl, hs.bel⟩
  by_cases hp2 : p > 8 * ((crcRec bl).length : Int) - 32
  · replace hs := hs.below hbx
    refine wl_mv rfl rfl ?_; apply wl_val; apply opv_extract; exact rfl; exact rfl; exact rfl; apply wl_val; apply opv_extract; exact rfl; exact rfl; exact rfl; refine wl_as rfl rfl ?_; refine wl_as rfl rfl ?_; refine wl_ns ?_; refine wc_seq ?_; refine wc_sr ?_; refine wl_mv rfl rfl ?_; refine wl_bin rfl rfl bin_neq rfl ?_; refine wl_mv rfl rfl ?_; apply wl_take; exact rfl; exact rfl; exact rfl; refine bF ?_; omega; refine wl_mv rfl rfl ?_; apply wl_take; exact rfl; exact rfl; exact rfl; refine bF ?_; omega; refine wl_bin rfl rfl bin_eql rfl ?_; apply wl_val; apply opv_pickF; exact rfl; refine bF ?_; omega; exact rfl; exact rfl; refine wl_mv rfl rfl ?_; apply wl_take; exact rfl; exact rfl; exact rfl; refine bF ?_; (with_reducible assumption); refine wl_mv rfl rfl ?_; apply wl_take; exact rfl; exact rfl; exact rfl; refine bF ?_; (with_reducible assumption); refine wl_bin rfl rfl bin_lss rfl ?_; apply wl_val; apply opv_pickF; exact rfl; refine bF ?_; (with_reducible assumption); exact rfl; exact rfl; refine wl_mv rfl rfl ?_; apply wl_take; exact rfl; exact rfl; exact rfl; refine bF ?_; (with_reducible assumption); refine wl_mv rfl rfl ?_; apply wl_take; exact rfl; exact rfl; exact rfl; refine bF ?_; (with_reducible assumption); refine wl_mv rfl rfl ?_; apply wl_take; exact rfl; exact rfl; exact rfl; refine bF ?_; (with_reducible assumption); apply wl_val; apply opv_len; exact rfl; exact tyB.sl; exact rfl; apply wl_take; exact rfl; exact rfl; exact rfl; refine bF ?_; (with_reducible assumption); apply wl_val; apply opv_bin; exact rfl; exact rfl; exact bin_mul64 (by omega); exact rfl; apply wl_take; exact rfl; exact rfl; exact rfl; refine bF ?_; (with_reducible assumption); apply wl_val; apply opv_bin; exact rfl; exact rfl; exact bin_sub64 (by omega); exact rfl; apply wl_take; exact rfl; exact rfl; exact rfl; refine bF ?_; (with_reducible assumption); refine wl_bin rfl rfl bin_gtr rfl ?_; apply wl_val; apply opv_pickF; exact rfl; refine bF ?_; (with_reducible assumption); exact rfl; exact rfl; refine wl_ns ?_; apply wc_decT; exact rfl; (with_reducible assumption); refine wc_sr ?_; refine wl_as rfl rfl ?_; refine wl_ns ?_; refine wc_ret ?_; refine we_seq_ret ?_
    exact we_ret1 rfl rfl ⟨_, rfl, rfl, hs.bel⟩
  obtain ⟨q, rfl⟩ := Int.eq_ofNat_of_zero_le (show 0 ≤ p by omega)
  rcases oB with ⟨_, _, hnil⟩ | ⟨g, cs, rfl, hg, ar, hlc, hcc, htk⟩
  · have h9 := congrArg List.length hnil
    rw [hcl, List.length_nil] at h9; omega
  replace hs := hs.newA hbx (Nat.le_trans (Nat.le_refl _) hg) ar
  clear hbx ar
  obtain ⟨s0, hs0⟩ : ∃ z, crcOf (four bl.length ++ bl) = z := ⟨_, rfl⟩
  have h44 : (four bl.length ++ four s0).length = 8 := by simp [four_length]
  have ec : crcRec bl = (four bl.length ++ four s0) ++ bl := by rw [crcRec, hs0, List.append_assoc]
  rw [ec] at htk
  refine wl_mv rfl rfl ?_; apply wl_val; apply opv_extract; exact rfl; exact rfl; exact rfl; apply wl_val; apply opv_extract; exact rfl; exact rfl; exact rfl; refine wl_as rfl rfl ?_; refine wl_as rfl rfl ?_; refine wl_ns ?_; refine wc_seq ?_; refine wc_sr ?_; refine wl_mv rfl rfl ?_; refine wl_bin rfl rfl bin_neq rfl ?_; refine wl_mv rfl rfl ?_; apply wl_take; exact rfl; exact rfl; exact rfl; refine bF ?_; omega; refine wl_mv rfl rfl ?_; apply wl_take; exact rfl; exact rfl; exact rfl; refine bF ?_; omega; refine wl_bin rfl rfl bin_eql rfl ?_; apply wl_val; apply opv_pickF; exact rfl; refine bF ?_; omega; exact rfl; exact rfl; refine wl_mv rfl rfl ?_; apply wl_take; exact rfl; exact rfl; exact rfl; refine bF ?_; (with_reducible assumption); refine wl_mv rfl rfl ?_; apply wl_take; exact rfl; exact rfl; exact rfl; refine bF ?_; (with_reducible assumption); refine wl_bin rfl rfl bin_lss rfl ?_; apply wl_val; apply opv_pickF; exact rfl; refine bF ?_; (with_reducible assumption); exact rfl; exact rfl; refine wl_mv rfl rfl ?_; apply wl_take; exact rfl; exact rfl; exact rfl; refine bF ?_; (with_reducible assumption); refine wl_mv rfl rfl ?_; apply wl_take; exact rfl; exact rfl; exact rfl; refine bF ?_; (with_reducible assumption); refine wl_mv rfl rfl ?_; apply wl_take; exact rfl; exact rfl; exact rfl; refine bF ?_; (with_reducible assumption); apply wl_val; apply opv_len; exact rfl; exact tyB.sl; exact rfl; apply wl_take; exact rfl; exact rfl; exact rfl; refine bF ?_; (with_reducible assumption); apply wl_val; apply opv_bin; exact rfl; exact rfl; exact bin_mul64 (by omega); exact rfl; apply wl_take; exact rfl; exact rfl; exact rfl; refine bF ?_; (with_reducible assumption); apply wl_val; apply opv_bin; exact rfl; exact rfl; exact bin_sub64 (by omega); exact rfl; apply wl_take; exact rfl; exact rfl; exact rfl; refine bF ?_; (with_reducible assumption); refine wl_bin rfl rfl bin_gtr rfl ?_; apply wl_val; apply opv_pickF; exact rfl; refine bF ?_; (with_reducible assumption); exact rfl; exact rfl; refine wl_ns ?_; apply wc_decF; exact rfl; (with_reducible assumption); refine wc_skip ?_; refine we_seq ?_; refine wc_seq ?_; refine wc_sr ?_; refine wl_as rfl rfl ?_; refine wl_ns ?_; refine wc_block ?_
  refine wc_loop (fun L wr mm => ∃ (j : Nat) (z : List UInt8) (cs : List Value), L = [(1, .int .i64 (q : Int)), (2, .int .u32 (m : Int)), (7, .slice (some ⟨g, 0, none⟩) (crcRec bl).length bc), (9, .int .i64 (j : Int))] ∧ j ≤ 32 ∧ z.length = bl.length ∧ low z = low bl ^^^ m % 2 ^ j * 2 ^ (q - 64) ∧ bc ≤ cs.length ∧ cs.take (crcRec bl).length = bvs ((four bl.length ++ four s0) ++ z) ∧ St NoB w wr [.blk g 5 cs] ∧ mm = 32 - j)
    [(1, .int .i64 (q : Int)), (2, .int .u32 (m : Int)), (7, .slice (some ⟨g, 0, none⟩) (crcRec bl).length bc), (9, .int .i64 (0 : Nat))] 32 ⟨0, bl, cs, rfl, by omega, rfl, by simp [Nat.mod_one], hcc, htk, hs, rfl⟩ ⟨rfl, rfl, rfl, rfl, trivial⟩ ?_
  clear hs htk hcc
  rintro _ w8 mm ⟨j, z, cs, rfl, hj, hzl, hlow, hcc, htk, hs, rfl⟩
  refine wc_seq ?_; refine wc_sr ?_; refine wl_mv rfl rfl ?_; refine wl_bin rfl rfl bin_lss rfl ?_; refine wl_ns ?_
  refine wc_cond rfl (fun h1 => ?_) (fun h1 => ?_)
  · have hmk : m / 2 ^ j < 2 ^ 32 := Nat.lt_of_le_of_lt (Nat.div_le_self _ _) hm
    refine wc_skip ?_; refine we_seq ?_; refine wc_seq ?_; refine wc_block ?_; refine wc_sr ?_; refine wl_mv rfl rfl ?_; refine wl_mv rfl rfl ?_
    refine wl_val (opv_bin rfl rfl (bin_shr hm)) rfl ?_
    refine wl_val (opv_bin (b := .int .u32 (1 : Nat)) rfl rfl (bin_and rfl hmk (by decide))) rfl ?_
    refine wl_bin rfl rfl bin_eql rfl ?_; refine wl_ns ?_
    refine wc_cond rfl (fun h2 => ?_) (fun h2 => ?_)
    · have h2' : m / 2 ^ j % 2 = 1 := by rw [← Nat.and_one_is_mod]; omega
      clear h2 hmk
      obtain ⟨s, hs1⟩ : ∃ s, q + j = s := ⟨_, rfl⟩
      have hi : s / 8 - 8 < z.length := by omega
      obtain ⟨x, hx⟩ : ∃ x, z[s / 8 - 8]? = some x := ⟨_, List.getElem?_eq_getElem hi⟩
      have hxl := x.toNat_lt
      have h8 : 2 ^ (s % 8) < 256 := Nat.lt_of_lt_of_le (Nat.pow_lt_pow_right (by decide) (Nat.mod_lt _ (by decide))) (Nat.le_refl (2 ^ 8))
      have hxx : x.toNat ^^^ 2 ^ (s % 8) < 256 := Nat.xor_lt_two_pow (n := 8) hxl h8
      have hset := low_set z (s / 8 - 8) (s % 8) x hx (Nat.mod_lt _ (by decide))
      rw [show 8 * (s / 8 - 8) + s % 8 = (q - 64) + j by omega, hlow, Nat.xor_assoc, mask_step h2'] at hset
      have hYx : ((four bl.length ++ four s0) ++ z)[s / 8]? = some x := by rw [List.getElem?_append_right (by omega), h44]; exact hx
      have hcs : cs[s / 8]? = some (bv x) := by
        have h : (cs.take (crcRec bl).length)[s / 8]? = (bvs ((four bl.length ++ four s0) ++ z))[s / 8]? := by rw [htk]
        rw [List.getElem?_take_of_lt (by omega)] at h
        rw [h, bvs, List.getElem?_map, hYx]; rfl
      have hcl2 : s / 8 < cs.length := (List.getElem?_eq_some_iff.1 hcs).1
      have hcs0 : cs[0 + s / 8]? = some (bv x) := by rw [Nat.zero_add]; exact hcs
      refine wc_sr ?_; refine wl_mv rfl rfl ?_; refine wl_mv rfl rfl ?_; apply wl_val; apply opv_bin; exact rfl; exact rfl; exact bin_add64 (by omega); exact rfl; refine wl_as rfl rfl ?_; refine wl_ns ?_
      rw [show (q : Int) + (j : Int) = (s : Int) by omega]
      have hS := (Below.refl w8.heap.size w8).drew
      replace hs := hs.below hS
      refine wc_held (fun _ => True) mixed ?_
      apply wh_take 0; exact rfl; kernel_rfl; kernel_rfl; kernel_rfl; exact trivial; intro _ hw_; apply opv_move; exact rfl; exact rfl; apply wh_take 1; exact rfl; kernel_rfl; kernel_rfl; kernel_rfl; exact trivial; intro _ hw_; apply opv_move; exact rfl; exact rfl
      refine wh_take 2 rfl (by kernel_rfl) (by kernel_rfl) (by kernel_rfl) trivial (fun _ _ => opv_bin (b := .int .i64 (8 : Nat)) rfl rfl (bin_quo (by decide) (IntWalk.i64_in _ (by omega)))) rfl ?_
      refine wh_take 3 rfl (by kernel_rfl) (by kernel_rfl) (by kernel_rfl) trivial (fun _ _ => opv_idx (kk := s / 8) tyB rfl rfl rfl (by omega)) rfl ?_
      apply wh_take 5; exact rfl; kernel_rfl; kernel_rfl; kernel_rfl; exact trivial; intro _ hw_; apply opv_move; exact rfl; exact rfl
      refine wh_take 6 rfl (by kernel_rfl) (by kernel_rfl) (by kernel_rfl) trivial (fun _ _ => opv_bin (b := .int .i64 (8 : Nat)) rfl rfl (bin_rem (by decide))) rfl ?_
      refine wh_take 7 rfl (by kernel_rfl) (by kernel_rfl) (by kernel_rfl) trivial (fun _ _ => opv_bin (a := .int .u8 (1 : Nat)) rfl rfl ((bin_shl rfl).to (congrArg (fun z : Nat => Value.int .u8 (z : Int)) (show 1 * 2 ^ (s % 8) % 2 ^ IntKind.u8.bits = 2 ^ (s % 8) by rw [Nat.one_mul]; exact Nat.mod_eq_of_lt h8)))) rfl ?_
      refine wh_one 4 (o := ⟨_, _, _, _, _, _⟩) (by kernel_rfl) rfl ?_
      refine wl_val (v := .int .u8 (x.toNat : Int)) (opv_ldX rfl (hs.ar 0 rfl) e1_u8 hcs0) rfl ?_
      refine wl_nil ?_
      refine we_held trivial ?_
      refine wh_one 8 (o := ⟨_, _, _, _, _, _⟩) (by kernel_rfl) rfl ?_
      refine wl_val (opv_bin rfl rfl (bin_xor rfl hxl h8)) rfl ?_
      refine wl_nil ?_
      refine we_held trivial ?_
      refine wh_take 9 rfl (by kernel_rfl) (by kernel_rfl) (by kernel_rfl) trivial (fun _ _ => opv_idx (kk := s / 8) tyB rfl rfl rfl (by omega)) rfl ?_
      refine wh_one 10 (o := ⟨_, _, _, _, _, _⟩) (by kernel_rfl) rfl ?_
      refine ws_st (kk := 0 + s / 8) hs 0 rfl rfl e1_u8 (by rw [Nat.blt_eq]; omega) rfl rfl ?_
      clear hs; intro w9 hs; dsimp only [setC] at hs
      have eu : Value.int .u8 ((x.toNat ^^^ 2 ^ (s % 8) : Nat) : Int) = bv (UInt8.ofNat (x.toNat ^^^ 2 ^ (s % 8))) := by
        unfold bv; rw [UInt8.toNat_ofNat', Nat.mod_eq_of_lt hxx]
      rw [eu, Nat.zero_add] at hs
      have htk2 : (cs.set (s / 8) (bv (UInt8.ofNat (x.toNat ^^^ 2 ^ (s % 8))))).take (crcRec bl).length = bvs ((four bl.length ++ four s0) ++ z.set (s / 8 - 8) (UInt8.ofNat (x.toNat ^^^ 2 ^ (s % 8)))) := by
        rw [List.take_set, htk, bvs_set, List.set_append_right _ _ (by omega), h44]
      refine wl_nil ?_
      refine we_held trivial ?_
      refine wh_done (by kernel_rfl) ?_
      refine we_block_norm ?_; refine we_seq ?_; refine wc_region ?_; refine wl_mv rfl rfl ?_; apply wl_val; apply opv_bin; exact rfl; exact rfl; exact bin_add64 (by omega); exact rfl; refine wl_as rfl rfl ?_; refine wl_nil ?_
      exact we_loop _ (32 - (j + 1)) ⟨j + 1, z.set (s / 8 - 8) (UInt8.ofNat (x.toNat ^^^ 2 ^ (s % 8))), _, rfl, by omega, by rw [List.length_set]; exact hzl, hset, by rw [List.length_set]; exact hcc, htk2, hs, rfl⟩ (by omega) ⟨rfl, rfl, rfl, by simp [lookT], trivial⟩
    · have h2' : ¬ m / 2 ^ j % 2 = 1 := by rw [← Nat.and_one_is_mod]; omega
      rw [← mask_keep h2'] at hlow
      refine wc_skip ?_; refine we_block_norm ?_; refine we_seq ?_; refine wc_region ?_; refine wl_mv rfl rfl ?_; apply wl_val; apply opv_bin; exact rfl; exact rfl; exact bin_add64 (by omega); exact rfl; refine wl_as rfl rfl ?_; refine wl_nil ?_
      exact we_loop _ (32 - (j + 1)) ⟨j + 1, z, cs, rfl, by omega, hzl, hlow, hcc, htk, hs, rfl⟩ (by omega) ⟨rfl, rfl, rfl, by simp [lookT], trivial⟩
  · obtain rfl : j = 32 := by omega
    rw [Nat.mod_eq_of_lt (show m < 2 ^ 32 from hm)] at hlow
    have hd := dec_burst (b := bl) (by omega) hm hm0 hzl (by omega) hlow
    rw [hs0, ← List.append_assoc] at hd
    obtain ⟨ys, hys⟩ : ∃ y, (four bl.length ++ four s0) ++ z = y := ⟨_, rfl⟩
    have hyl : ys.length = (crcRec bl).length := by rw [← hys, List.length_append, h44, hzl, hcl]
    rw [hys] at hd htk
    have har := hs.ar 0 rfl
    have n9 : NwB w8 w.heap.size (some ⟨g, 0, none⟩) bc ys := .inr ⟨g, cs, rfl, hs.new_lt 0 rfl, har, by omega, hcc, by rw [hyl]; exact htk⟩
    refine wc_exit ?_; refine we_seq_exit ?_; refine we_loop_exit ?_; refine we_block_exit ?_; refine we_seq ?_; refine wc_sr ?_; refine wl_mv rfl rfl ?_
    refine wl_call ok_block_Decode (decode_any n9.rd hyl (by omega) (by omega)) ⟨rfl, trivial⟩ rfl ?_
    rw [hd]
    rintro _ w9 ⟨R1, c1, rfl, hsx⟩
    replace hs := hs.call hsx
    dsimp only
    have h04 : ((4 : Nat) : Int) = 4 := rfl
    have hl00 : (([] : List En).length : Int) = 0 := rfl
    refine wl_mv rfl rfl ?_; apply wl_val; apply opv_extract; exact rfl; exact rfl; exact rfl; apply wl_val; apply opv_extract; exact rfl; exact rfl; exact rfl; refine wl_as rfl rfl ?_; refine wl_as rfl rfl ?_; refine wl_ns ?_; refine wc_sr ?_; refine wl_mv rfl rfl ?_; refine wl_bin rfl rfl bin_eql rfl ?_; refine wl_mv rfl rfl ?_; apply wl_take; exact rfl; exact rfl; exact rfl; refine bT ?_; (with_reducible assumption); refine wl_mv rfl rfl ?_; apply wl_take; exact rfl; exact rfl; exact rfl; refine bT ?_; (with_reducible assumption); apply wl_val; apply opv_len; exact rfl; exact tkE.sl; exact rfl; apply wl_take; exact rfl; exact rfl; exact rfl; refine bT ?_; (with_reducible assumption); refine wl_bin rfl rfl bin_eql rfl ?_; apply wl_val; apply opv_pickT; exact rfl; refine bT ?_; (with_reducible assumption); exact rfl; exact rfl; refine wl_as rfl rfl ?_; refine wl_ns ?_; refine wc_ret ?_
    exact we_ret1 rfl rfl ⟨_, rfl, rfl, hs.bel⟩
end Go.Proofs.Ytojncfdlddepdaa
