/-
  The texts of this proof, joined: Br, Bs, Bt, Bu, Yb, Bv, Ph, Bw, Ka, Kb, Kc, Kd, Ke, Yc, Mw.
-/
import Derived.Test.YtojncfdlddepdaaKeeM5
import Derived.Test.YtojncfdlddepdaaKeeM3
import Derived.Test.YtojncfdlddepdaaKeeM4
import Derived.Test.YtojncfdlddepdaaKeeM2

/-
  Walk over the document's Decode of blocks.
-/
namespace Go.Proofs.Ytojncfdlddepdaa
open Go.RowKit

theorem ow_len8 {w : World} {base c : Nat} {A : Option Addr} {xs : List UInt8} (h : OwB w base A c xs) : xs.length ≤ maxLen := by
  rcases h.2 with ⟨_, hn⟩ | ⟨g, cap, cur, hv, _, _, hnc, hm, _⟩
  · rw [hn]; exact Nat.zero_le _
  · injection hv with _ _ hc
    exact Nat.le_trans hnc hm
theorem rdL_siz {b : List UInt8} {r : List (En × Nat)} (h : rdL b b.length 0 [] = some r) (_hl : b.length ≤ 1048576) : ∀ y ∈ r, y.1.key.length ≤ b.length ∧ y.1.val.length ≤ b.length ∧ y.1.seq < 2 ^ 64 := by
  have key : ∀ (f : Nat) (done : List (En × Nat)) (p : Nat) (key : List UInt8), DecI b done p key f → ∀ r', rdL b f p key = some r' → ∀ y ∈ done ++ r', y.1.key.length ≤ b.length ∧ y.1.val.length ≤ b.length ∧ y.1.seq < 2 ^ 64 := by
    intro f
    induction f with
    | zero =>
      intro done p key hI r' h
      rw [rdL] at h
      split at h
      · cases h
      · cases h; rw [List.append_nil]; exact hI.siz
    | succ f ih =>
      intro done p key hI r' h
      by_cases hlt : p < b.length
      · cases hr : rdE b p key with
        | none => rw [rdL_bad hlt hr] at h; cases h
        | some z =>
          obtain ⟨x, p'⟩ := z
          rw [rdL_step hlt hr] at h
          obtain ⟨r2, h2, rfl⟩ := Option.map_eq_some_iff.1 h
          have h1 := rdE_inv hr
          have h3 := rdE_bnd hr
          have hk := hI.key
          have hl := hI.len
          have hf := hI.fuel
          have hI2 : DecI b (done ++ [(x, p)]) p' x.key f := by
            refine ⟨by rw [hI.all, rdL_step hlt hr, opt_map_app], by omega, h1.2, by omega, by rw [List.length_append]; simp; omega, fun y hy => ?_⟩
            rcases List.mem_append.1 hy with hy | hy
            · exact hI.siz y hy
            · rw [List.mem_singleton.1 hy]
              show x.key.length ≤ b.length ∧ x.val.length ≤ b.length ∧ x.seq < 2 ^ 64
              exact ⟨by omega, by omega, h3.2.2⟩
          have := ih _ _ _ hI2 r2 h2
          rwa [List.append_assoc, List.singleton_append] at this
      · rw [rdL_end hlt] at h; cases h; rw [List.append_nil]; exact hI.siz
  exact fun y hy => key _ _ _ _ (DecI.start b) r h y (by simpa using hy)
set_option maxRecDepth 8000 in
set_option maxHeartbeats 2000000 in
theorem refDecode_any {A : Option Addr} {n c : Nat} {xs : List UInt8} {w : World} (hr : RdB w A xs) (hn : xs.length = n) (hc : xs.length ≤ c) (hl : xs.length ≤ 1099511627776) :
    CallsV Try.prog 12 #[.slice A n c] w fun v w' => ∃ (R : Option Addr) (rc : Nat), v = .tuple #[.slice R (decB xs).1.length rc, .int .i64 ((decB xs).2 : Nat)] ∧ St NoB w w' [.ck (rsC 4 38 R rc ((decB xs).1.map oE))] := by
  subst hn
  have hs := St.init w
  refine calls_in (N := _) Try.func12 rfl Try.ntmps12 rfl ?_; show WC _ _ _ _ _ _
  refine wc_sr ?_; refine wl_as rfl rfl ?_; refine wl_as rfl rfl ?_; refine wl_ns ?_; refine wc_sr ?_; refine wl_mv rfl rfl ?_
  obtain ⟨⟨body, nx, e⟩, ho⟩ : ∃ q, openB xs 0 = q := ⟨_, rfl⟩
  refine wl_call ok_caissonref03_Open (refOpen_at ho hr rfl hc (by omega) (by decide)) ⟨rfl, rfl, trivial⟩ rfl ?_
  rintro _ w1 ⟨B, bc, rfl, o1, hb⟩
  have hcap : body.length ≤ bc := o1.cap
  replace hs := hs.newO hb o1 (Nat.le_refl _)
  clear o1 hb
  dsimp only at hs ⊢
  cases e with
  | succ e =>
    have hd : decB xs = ([], e + 1) := by unfold decB; rw [ho]; rfl
    rw [hd]
    have h1 : ¬ ((e + 1 : Nat) : Int) = 0 := by omega
    refine wl_mv rfl rfl ?_; apply wl_val; apply opv_extract; exact rfl; exact rfl; exact rfl; apply wl_val; apply opv_extract; exact rfl; exact rfl; exact rfl; apply wl_val; apply opv_extract; exact rfl; exact rfl; exact rfl; refine wl_as rfl rfl ?_; refine wl_as rfl rfl ?_; refine wl_as rfl rfl ?_; refine wl_ns ?_; refine wc_seq ?_; refine wc_sr ?_; refine wl_mv rfl rfl ?_; refine wl_bin rfl rfl bin_neq rfl ?_; refine wl_ns ?_; apply wc_condTb; exact rfl; exact rfl; refine wc_sr ?_; refine wl_mv rfl rfl ?_; refine wl_as rfl rfl ?_; refine wl_as rfl rfl ?_; refine wl_ns ?_; refine wc_ret ?_; refine we_seq_ret ?_
    exact we_ret2 rfl rfl rfl ⟨_, rfl, none, 0, rfl, (hs.drop 0 rfl).nilS 4 38⟩
  | zero =>
    obtain ⟨i1, i2, i3⟩ := openB_inv (q := 0) (Nat.zero_le _) ho
    have h00 : ((0 : Nat) : Int) = 0 := rfl
    by_cases h1 : nx < xs.length
    · have h1' : ¬ (nx : Int) = (xs.length : Int) := by omega
      have hd : decB xs = ([], 3) := by unfold decB; rw [ho]; exact if_pos (.inl h1)
      rw [hd]
      refine wl_mv rfl rfl ?_; apply wl_val; apply opv_extract; exact rfl; exact rfl; exact rfl; apply wl_val; apply opv_extract; exact rfl; exact rfl; exact rfl; apply wl_val; apply opv_extract; exact rfl; exact rfl; exact rfl; refine wl_as rfl rfl ?_; refine wl_as rfl rfl ?_; refine wl_as rfl rfl ?_; refine wl_ns ?_; refine wc_seq ?_; refine wc_sr ?_; refine wl_mv rfl rfl ?_; refine wl_bin rfl rfl bin_neq rfl ?_; refine wl_ns ?_; apply wc_condFb; exact rfl; exact rfl; refine wc_skip ?_; refine we_seq ?_; refine wc_seq ?_; refine wc_sr ?_; refine wl_mv rfl rfl ?_; refine wl_mv rfl rfl ?_; apply wl_val; apply opv_len; exact rfl; exact tyB.sl; exact rfl; refine wl_bin rfl rfl bin_neq rfl ?_; refine wl_mv rfl rfl ?_; apply wl_skip; exact rfl; exact rfl; exact rfl; refine bTn ?_; (with_reducible assumption); exact rfl; apply wl_skip; exact rfl; exact rfl; exact rfl; refine bTn ?_; (with_reducible assumption); exact rfl; apply wl_skip; exact rfl; exact rfl; exact rfl; refine bTn ?_; (with_reducible assumption); exact rfl; apply wl_val; apply opv_pickT; exact rfl; refine bT ?_; (with_reducible assumption); exact rfl; exact rfl; refine wl_ns ?_; apply wc_condTb; exact rfl; exact rfl; refine wc_sr ?_; refine wl_as rfl rfl ?_; refine wl_as rfl rfl ?_; refine wl_ns ?_; refine wc_ret ?_; refine we_seq_ret ?_
      exact we_ret2 rfl rfl rfl ⟨_, rfl, none, 0, rfl, (hs.drop 0 rfl).nilS 4 38⟩
    have h1' : (nx : Int) = (xs.length : Int) := by omega
    have h1n : nx = xs.length := by omega
    by_cases h2 : body.length < 4
    · have h2' : (body.length : Int) < 4 := by omega
      have hd : decB xs = ([], 3) := by unfold decB; rw [ho]; exact if_pos (.inr h2)
      rw [hd]
      refine wl_mv rfl rfl ?_; apply wl_val; apply opv_extract; exact rfl; exact rfl; exact rfl; apply wl_val; apply opv_extract; exact rfl; exact rfl; exact rfl; apply wl_val; apply opv_extract; exact rfl; exact rfl; exact rfl; refine wl_as rfl rfl ?_; refine wl_as rfl rfl ?_; refine wl_as rfl rfl ?_; refine wl_ns ?_; refine wc_seq ?_; refine wc_sr ?_; refine wl_mv rfl rfl ?_; refine wl_bin rfl rfl bin_neq rfl ?_; refine wl_ns ?_; apply wc_condFb; exact rfl; exact rfl; refine wc_skip ?_; refine we_seq ?_; refine wc_seq ?_; refine wc_sr ?_; refine wl_mv rfl rfl ?_; refine wl_mv rfl rfl ?_; apply wl_val; apply opv_len; exact rfl; exact tyB.sl; exact rfl; refine wl_bin rfl rfl bin_neq rfl ?_; refine wl_mv rfl rfl ?_; apply wl_take; exact rfl; exact rfl; exact rfl; refine bF ?_; omega; refine wl_mv rfl rfl ?_; apply wl_take; exact rfl; exact rfl; exact rfl; refine bF ?_; omega; apply wl_val; apply opv_len; exact rfl; exact tyB.sl; exact rfl; apply wl_take; exact rfl; exact rfl; exact rfl; refine bF ?_; omega; refine wl_bin rfl rfl bin_lss rfl ?_; apply wl_val; apply opv_pickF; exact rfl; refine bF ?_; omega; exact rfl; exact rfl; refine wl_ns ?_; apply wc_decT; exact rfl; (with_reducible assumption); refine wc_sr ?_; refine wl_as rfl rfl ?_; refine wl_as rfl rfl ?_; refine wl_ns ?_; refine wc_ret ?_; refine we_seq_ret ?_
      exact we_ret2 rfl rfl rfl ⟨_, rfl, none, 0, rfl, (hs.drop 0 rfl).nilS 4 38⟩
    have h2' : ¬ (body.length : Int) < 4 := by omega
    have hm4 : (body.length : Int) - 4 = ((body.length - 4 + 0 : Nat) : Int) := by omega
    have l1 : (body.drop (body.length - 4)).length = 4 := by rw [List.length_drop]; omega
    refine wl_mv rfl rfl ?_; apply wl_val; apply opv_extract; exact rfl; exact rfl; exact rfl; apply wl_val; apply opv_extract; exact rfl; exact rfl; exact rfl; apply wl_val; apply opv_extract; exact rfl; exact rfl; exact rfl; refine wl_as rfl rfl ?_; refine wl_as rfl rfl ?_; refine wl_as rfl rfl ?_; refine wl_ns ?_; refine wc_seq ?_; refine wc_sr ?_; refine wl_mv rfl rfl ?_; refine wl_bin rfl rfl bin_neq rfl ?_; refine wl_ns ?_; apply wc_condFb; exact rfl; exact rfl; refine wc_skip ?_; refine we_seq ?_; refine wc_seq ?_; refine wc_sr ?_; refine wl_mv rfl rfl ?_; refine wl_mv rfl rfl ?_; apply wl_val; apply opv_len; exact rfl; exact tyB.sl; exact rfl; refine wl_bin rfl rfl bin_neq rfl ?_; refine wl_mv rfl rfl ?_; apply wl_take; exact rfl; exact rfl; exact rfl; refine bF ?_; omega; refine wl_mv rfl rfl ?_; apply wl_take; exact rfl; exact rfl; exact rfl; refine bF ?_; omega; apply wl_val; apply opv_len; exact rfl; exact tyB.sl; exact rfl; apply wl_take; exact rfl; exact rfl; exact rfl; refine bF ?_; omega; refine wl_bin rfl rfl bin_lss rfl ?_; apply wl_val; apply opv_pickF; exact rfl; refine bF ?_; omega; exact rfl; exact rfl; refine wl_ns ?_; apply wc_decF; exact rfl; (with_reducible assumption); refine wc_skip ?_; refine we_seq ?_; refine wc_sr ?_; refine wl_as rfl rfl ?_; refine wl_ns ?_; refine wc_seq ?_; refine wc_sr ?_; refine wl_mv rfl rfl ?_; apply wl_val; apply opv_len; exact rfl; exact tyB.sl; exact rfl; apply wl_val; apply opv_bin; exact rfl; exact rfl; exact bin_sub64 (by omega); exact rfl; refine wl_as rfl rfl ?_; refine wl_ns ?_; refine wc_block ?_
    rw [hm4]
    skip
    refine wc_loop (fun L wr mm => ∃ j : Nat, L = [(0, .slice A xs.length c), (4, .slice B body.length bc), (7, .int .i64 (numB ((body.drop (body.length - 4)).take j) : Nat)), (8, .int .i64 ((body.length - 4 + j : Nat) : Int))] ∧ j ≤ 4 ∧ St NoB w wr [.ow 5 B body.length bc (bvs body)] ∧ mm = 4 - j)
      [(0, .slice A xs.length c), (4, .slice B body.length bc), (7, .int .i64 0), (8, .int .i64 ((body.length - 4 + 0 : Nat) : Int))] 4 ⟨0, rfl, by omega, hs, rfl⟩ ⟨rfl, rfl, rfl, rfl, trivial⟩ ?_
    clear hs
    rintro _ w2 mm ⟨j, rfl, hj, hs, rfl⟩
    have hnl := numB_lt4' (l := body.drop (body.length - 4)) hj
    refine wc_seq ?_; refine wc_sr ?_; refine wl_mv rfl rfl ?_; refine wl_mv rfl rfl ?_; apply wl_val; apply opv_len; exact rfl; exact tyB.sl; exact rfl; refine wl_bin rfl rfl bin_lss rfl ?_; refine wl_ns ?_
    refine wc_cond rfl (fun h3 => ?_) (fun h3 => ?_)
    · obtain ⟨x, hx⟩ : ∃ x, body[body.length - 4 + j]? = some x := ⟨_, List.getElem?_eq_getElem (by omega)⟩
      have hrow : RdB w2 B body := (hs.ow 0 rfl).rd
      have hst := numB_step (l := body.drop (body.length - 4)) (k := j) (x := x) (by rw [List.getElem?_drop]; exact hx)
      have hxl := x.toNat_lt
      refine wc_skip ?_; refine we_seq ?_; refine wc_seq ?_; refine wc_block ?_; refine wc_region ?_; refine wl_mv rfl rfl ?_; apply wl_val; apply opv_bin; exact rfl; exact rfl; exact bin_mul64 (by omega); exact rfl; refine wl_mv rfl rfl ?_; refine wl_mv rfl rfl ?_; apply wl_byK (T := tyB) (hr := hrow) (hb := hx); exact rfl; exact rfl; exact rfl; exact rfl; exact rfl; intro _; apply wl_val; apply opv_convR; exact rfl; exact Try.underlying5; exact Try.underlying3; exact IntWalk.i64_in _ (by omega); exact rfl; apply wl_val; apply opv_bin; exact rfl; exact rfl; exact bin_add64 (by omega); exact rfl; refine wl_as rfl rfl ?_; refine wl_nil ?_; refine we_block_norm ?_; refine we_seq ?_; refine wc_region ?_; refine wl_mv rfl rfl ?_; apply wl_val; apply opv_bin; exact rfl; exact rfl; exact bin_add64 (by omega); exact rfl; refine wl_as rfl rfl ?_; refine wl_nil ?_
      have e1 : ((numB ((body.drop (body.length - 4)).take (j + 1)) : Nat) : Int) = (numB ((body.drop (body.length - 4)).take j) : Int) * 256 + (x.toNat : Int) := by rw [hst]; omega
      exact we_loop _ (4 - (j + 1)) ⟨j + 1, rfl, by omega, hs, rfl⟩ (by omega) ⟨rfl, rfl, by rw [e1]; rfl, by rw [show body.length - 4 + (j + 1) = body.length - 4 + j + 1 by omega]; rfl, trivial⟩
    · obtain rfl : j = 4 := by omega
      rw [List.take_of_length_le (Nat.le_of_eq l1)] at hnl ⊢
      obtain ⟨k, hk⟩ : ∃ q, numB (body.drop (body.length - 4)) = q := ⟨_, rfl⟩
      rw [hk] at hnl ⊢
      by_cases h5 : (body.length - 4) / 4 < k
      · have hd : decB xs = ([], 3) := by unfold decB; rw [ho]; simp only; rw [if_neg (by omega), hk, if_pos h5]
        rw [hd]
        have h5' : 4 * (k : Int) + 4 > (body.length : Int) := by omega
        refine wc_exit ?_; refine we_seq_exit ?_; refine we_loop_exit ?_; refine we_block_exit ?_; refine we_seq ?_; refine wc_seq ?_; refine wc_sr ?_; refine wl_mv rfl rfl ?_; apply wl_val; apply opv_bin; exact rfl; exact rfl; exact bin_mul64 (by omega); exact rfl; apply wl_val; apply opv_bin; exact rfl; exact rfl; exact bin_add64 (by omega); exact rfl; refine wl_mv rfl rfl ?_; apply wl_val; apply opv_len; exact rfl; exact tyB.sl; exact rfl; refine wl_bin rfl rfl bin_gtr rfl ?_; refine wl_ns ?_; apply wc_decT; exact rfl; (with_reducible assumption); refine wc_sr ?_; refine wl_as rfl rfl ?_; refine wl_as rfl rfl ?_; refine wl_ns ?_; refine wc_ret ?_; refine we_seq_ret ?_
        exact we_ret2 rfl rfl rfl ⟨_, rfl, none, 0, rfl, (hs.drop 0 rfl).nilS 4 38⟩
      have h5' : ¬ 4 * (k : Int) + 4 > (body.length : Int) := by omega
      obtain ⟨q, hq⟩ : ∃ q, body.length - 4 - 4 * k = q := ⟨_, rfl⟩
      have hqi : (body.length : Int) - 4 - 4 * (k : Int) = (q : Int) := by omega
      have lq : (body.take q).length = q := by rw [List.length_take]; omega
      obtain ⟨ss, hss⟩ : ∃ s, startsB (body.take (body.length - 4)) q k = s := ⟨_, rfl⟩
      have hsl : ss.length = k := by rw [← hss]; exact startsB_len _ _ _
      have hd : decB xs = match rdL (body.take q) q 0 [] with
        | none => ([], 3)
        | some r => if buildB (evL ss (r.map (·.2))) (r.map (·.1)) = (xs, 0) then (r.map (·.1), 0) else ([], 3) := by
        unfold decB; rw [ho]; simp only; rw [if_neg (by omega), hk, if_neg h5, hq, hss]
        rfl
      refine wc_exit ?_; refine we_seq_exit ?_; refine we_loop_exit ?_; refine we_block_exit ?_; refine we_seq ?_; refine wc_seq ?_; refine wc_sr ?_; refine wl_mv rfl rfl ?_; apply wl_val; apply opv_bin; exact rfl; exact rfl; exact bin_mul64 (by omega); exact rfl; apply wl_val; apply opv_bin; exact rfl; exact rfl; exact bin_add64 (by omega); exact rfl; refine wl_mv rfl rfl ?_; apply wl_val; apply opv_len; exact rfl; exact tyB.sl; exact rfl; refine wl_bin rfl rfl bin_gtr rfl ?_; refine wl_ns ?_; apply wc_decF; exact rfl; (with_reducible assumption); refine wc_skip ?_; refine we_seq ?_; refine wc_sr ?_; refine wl_mv rfl rfl ?_; refine wl_mv rfl rfl ?_; apply wl_val; apply opv_len; exact rfl; exact tyB.sl; exact rfl; apply wl_val; apply opv_bin; exact rfl; exact rfl; exact bin_sub64 (by omega); exact rfl; refine wl_mv rfl rfl ?_; apply wl_val; apply opv_bin; exact rfl; exact rfl; exact bin_mul64 (by omega); exact rfl; apply wl_val; apply opv_bin; exact rfl; exact rfl; exact bin_sub64 (by omega); exact rfl
      rw [hqi]
      refine wl_sl (l := 0) (h := q) tyB rfl rfl ⟨_, rfl⟩ (Nat.zero_le _) (by omega) rfl ?_
      have rq : RdB w2 (cutA B bc 0) (body.take q) := by
        have := cutB_rd (l := 0) (h := q) (c := bc) (xs := body) (hs.ow 0 rfl).rd (Nat.zero_le _) (by omega) hcap
        rw [List.drop_zero] at this; exact this
      rw [Nat.sub_zero, Nat.sub_zero]
      refine wl_call ok_caissonref08_read (refRead_any rq lq (by omega) (by omega)) ⟨rfl, trivial⟩ rfl ?_
      rw [lq]
      intro v w3 hv
      cases hrd : rdL (body.take q) q 0 [] with
      | none =>
        rw [hrd] at hv hd
        obtain ⟨rfl, hbx⟩ := hv
        replace hs := hs.below hbx
        rw [hd]
        refine wl_mv rfl rfl ?_; apply wl_val; apply opv_extract; exact rfl; exact rfl; exact rfl; apply wl_val; apply opv_extract; exact rfl; exact rfl; exact rfl; apply wl_val; apply opv_extract; exact rfl; exact rfl; exact rfl; refine wl_as rfl rfl ?_; refine wl_as rfl rfl ?_; refine wl_as rfl rfl ?_; refine wl_ns ?_; refine wc_seq ?_; refine wc_sr ?_; refine wl_mv rfl rfl ?_; apply wl_val; apply opv_not; exact rfl; exact rfl; refine wl_ns ?_; apply wc_condTb; exact rfl; exact Bool.not_false; refine wc_sr ?_; refine wl_as rfl rfl ?_; refine wl_as rfl rfl ?_; refine wl_ns ?_; refine wc_ret ?_; refine we_seq_ret ?_
        exact we_ret2 rfl rfl rfl ⟨_, rfl, none, 0, rfl, (hs.drop 0 rfl).nilS 4 38⟩
      | some r =>
        rw [hrd] at hv hd
        obtain ⟨R, rc, Q, qc, rfl, hsx⟩ := hv
        replace hs := hs.call hsx
        clear hsx
        dsimp only [List.cons_append, List.nil_append] at hs hd
        obtain ⟨l, hrl⟩ : ∃ q, r.map (·.1) = q := ⟨_, rfl⟩
        obtain ⟨ps, hrp⟩ : ∃ q, r.map (·.2) = q := ⟨_, rfl⟩
        have hll : r.length = l.length := by rw [← hrl, List.length_map]
        have hpl : ps.length = l.length := by rw [← hrl, ← hrp]; simp
        have hinc := (rdL_inc hrd).2
        have hrd2 : rdL (body.take q) (body.take q).length 0 [] = some r := by rw [lq]; exact hrd
        have hl9 := rdL_len hrd2 (Nat.zero_le _)
        have hlb : l.length ≤ 1048576 := by omega
        rw [hrp] at hinc
        rw [hrl, hrp] at hs hd
        rw [hll] at hs ⊢
        rw [hd]
        by_cases hne : l = []
        · subst hne
          have hpn : ps = [] := List.eq_nil_of_length_eq_zero hpl
          subst hpn
          have hev : evL ss [] = 1 := rfl
          obtain ⟨hb1, _⟩ := dec_build (every := 1) (l := []) (by decide) (fun x h => by cases h) rfl rfl (by rw [blkB_length]; decide)
          have hz0 : (([] : List En).length : Int) = 0 := rfl
          rw [hev, hb1]
          obtain ⟨bs, hbs⟩ : ∃ q, crcRec (blkB 1 []) = q := ⟨_, rfl⟩
          rw [hbs] at hb1 ⊢
          refine wl_mv rfl rfl ?_; apply wl_val; apply opv_extract; exact rfl; exact rfl; exact rfl; apply wl_val; apply opv_extract; exact rfl; exact rfl; exact rfl; apply wl_val; apply opv_extract; exact rfl; exact rfl; exact rfl; refine wl_as rfl rfl ?_; refine wl_as rfl rfl ?_; refine wl_as rfl rfl ?_; refine wl_ns ?_; refine wc_seq ?_; refine wc_sr ?_; refine wl_mv rfl rfl ?_; apply wl_val; apply opv_not; exact rfl; exact rfl; refine wl_ns ?_; apply wc_condFb; exact rfl; exact Bool.not_true; refine wc_skip ?_; refine we_seq ?_; refine wc_seq ?_; refine wc_sr ?_; refine wl_mv rfl rfl ?_; apply wl_val; apply opv_len; exact rfl; exact tkE.sl; exact rfl; refine wl_bin rfl rfl bin_eql rfl ?_; refine wl_ns ?_; apply wc_condTb; exact rfl; exact rfl; refine wc_sr ?_
          refine wl_call ok_caissonref08_Build (refBuild_any (every := 1) (l := []) (by decide) (by decide) (RdR.nil none) rfl (by decide) (fun x h => by cases h)) ⟨rfl, rfl, trivial⟩ rfl ?_
          rw [hb1]
          rintro _ w4 ⟨G, gc, rfl, oG, hbx⟩
          replace hs := hs.below hbx
          clear hbx
          dsimp only at oG ⊢
          refine wl_mv rfl rfl ?_; apply wl_val; apply opv_extract; exact rfl; exact rfl; exact rfl; apply wl_val; apply opv_extract; exact rfl; exact rfl; exact rfl; refine wl_as rfl rfl ?_; refine wl_as rfl rfl ?_; refine wl_ns ?_; refine wc_seq ?_; refine wc_sr ?_; refine wl_mv rfl rfl ?_; refine wl_mv rfl rfl ?_
          refine wl_call ok_caissonref01_Equal (equal_any (xs := bs) (ys := xs) oG.rd (hr.below hs.bel) rfl rfl (by rw [← hbs, crcRec_length, blkB_length]; decide)) ⟨rfl, rfl, trivial⟩ rfl ?_
          rintro _ w5 ⟨rfl, hbx⟩
          replace hs := hs.below hbx
          clear hbx
          by_cases he : bs = xs
          · rw [decide_eq_true he, if_pos (by rw [he])]
            apply wl_val; apply opv_not; exact rfl; exact rfl; refine wl_ns ?_; apply wc_condFb; exact rfl; exact Bool.not_true; refine wc_skip ?_; refine we_seq ?_; refine wc_sr ?_; refine wl_as rfl rfl ?_; refine wl_as rfl rfl ?_; refine wl_ns ?_; refine wc_ret ?_; refine we_seq_ret ?_
            exact we_ret2 rfl rfl rfl ⟨_, rfl, none, 0, rfl, (hs.nil).nilS 4 38⟩
          · rw [decide_eq_false he, if_neg fun h => he (Prod.mk.inj h).1]
            apply wl_val; apply opv_not; exact rfl; exact rfl; refine wl_ns ?_; apply wc_condTb; exact rfl; exact Bool.not_false; refine wc_sr ?_; refine wl_as rfl rfl ?_; refine wl_as rfl rfl ?_; refine wl_ns ?_; refine wc_ret ?_; refine we_seq_ret ?_; refine we_seq_ret ?_
            exact we_ret2 rfl rfl rfl ⟨_, rfl, none, 0, rfl, (hs.nil).nilS 4 38⟩
        have hlp : 0 < l.length := List.length_pos_iff.2 hne
        have hz0 : ¬ (l.length : Int) = 0 := by omega
        rw [← ev8_eq (b := xs) (r := r) ho hk hsl hrl hrp hinc hne]
        have hpq : ∀ {w' : World}, (∃ T, (Cd.ow 3 Q l.length qc (natV ps)).P w' T) → Rd w' Q l.length (natV ps) := fun ⟨T, h⟩ => h.2.rd
        refine wl_mv rfl rfl ?_; apply wl_val; apply opv_extract; exact rfl; exact rfl; exact rfl; apply wl_val; apply opv_extract; exact rfl; exact rfl; exact rfl; apply wl_val; apply opv_extract; exact rfl; exact rfl; exact rfl; refine wl_as rfl rfl ?_; refine wl_as rfl rfl ?_; refine wl_as rfl rfl ?_; refine wl_ns ?_; refine wc_seq ?_; refine wc_sr ?_; refine wl_mv rfl rfl ?_; apply wl_val; apply opv_not; exact rfl; exact rfl; refine wl_ns ?_; apply wc_condFb; exact rfl; exact Bool.not_true; refine wc_skip ?_; refine we_seq ?_; refine wc_seq ?_; refine wc_sr ?_; refine wl_mv rfl rfl ?_; apply wl_val; apply opv_len; exact rfl; exact tkE.sl; exact rfl; refine wl_bin rfl rfl bin_eql rfl ?_; refine wl_ns ?_; apply wc_decF; exact rfl; (with_reducible assumption); refine wc_skip ?_; refine we_seq ?_; refine wc_sr ?_; refine wl_mv rfl rfl ?_; apply wl_val; apply opv_len; exact rfl; exact tkE.sl; exact rfl; refine wl_as rfl rfl ?_; refine wl_ns ?_; refine wc_seq ?_; refine wc_sr ?_; refine wl_mv rfl rfl ?_; refine wl_bin rfl rfl bin_gtr rfl ?_; refine wl_ns ?_
        refine wc_cutE (fun L' w' => L' = [(0, .slice A xs.length c), (9, .slice R l.length rc), (14, .int .i64 (ev8 ss k ps : Nat))] ∧ w' = w3) ?_ ?_
        · by_cases hk1 : 1 < k
          · have hk1' : (k : Int) > 1 := by omega
            have hat : (body.length : Int) - 4 * (k : Int) = ((q + 4 + 0 : Nat) : Int) := by omega
            have hat2 : ((q + 4 + 0 : Nat) : Int) = ((q + 4 : Nat) : Int) := rfl
            apply wc_decT; exact rfl; (with_reducible assumption); refine wc_sr ?_; refine wl_as rfl rfl ?_; refine wl_ns ?_; refine wc_sr ?_; refine wl_mv rfl rfl ?_; apply wl_val; apply opv_len; exact rfl; exact tyB.sl; exact rfl; refine wl_mv rfl rfl ?_; apply wl_val; apply opv_bin; exact rfl; exact rfl; exact bin_mul64 (by omega); exact rfl; apply wl_val; apply opv_bin; exact rfl; exact rfl; exact bin_sub64 (by omega); exact rfl; refine wl_as rfl rfl ?_; refine wl_ns ?_; refine wc_seq ?_; refine wc_sr ?_; refine wl_mv rfl rfl ?_; refine wl_as rfl rfl ?_; refine wl_ns ?_; refine wc_block ?_
            rw [hat]
            have l4 : ((body.drop (q + 4)).take 4).length = 4 := by rw [List.length_take, List.length_drop]; omega
            refine wc_loop (fun L wr mm => ∃ j : Nat, L = [(0, .slice A xs.length c), (4, .slice B body.length bc), (9, .slice R l.length rc), (10, .slice Q l.length qc), (14, .int .i64 (l.length : Int)), (15, .int .i64 (numB ((body.drop (q + 4)).take j) : Nat)), (16, .int .i64 ((q + 4 : Nat) : Int)), (17, .int .i64 ((q + 4 + j : Nat) : Int))] ∧ j ≤ 4 ∧ wr = w3 ∧ mm = 4 - j)
              [(0, .slice A xs.length c), (4, .slice B body.length bc), (9, .slice R l.length rc), (10, .slice Q l.length qc), (14, .int .i64 (l.length : Int)), (15, .int .i64 0), (16, .int .i64 ((q + 4 : Nat) : Int)), (17, .int .i64 ((q + 4 + 0 : Nat) : Int))] 4 ⟨0, rfl, by omega, rfl, rfl⟩ ⟨rfl, rfl, rfl, rfl, rfl, rfl, rfl, rfl, trivial⟩ ?_
            rintro _ w3 mm ⟨j, rfl, hj, rfl, rfl⟩
            have hnl2 := numB_lt4' (l := body.drop (q + 4)) hj
            refine wc_seq ?_; refine wc_sr ?_; refine wl_mv rfl rfl ?_; refine wl_mv rfl rfl ?_; apply wl_val; apply opv_bin; exact rfl; exact rfl; exact bin_add64 (by omega); exact rfl; refine wl_bin rfl rfl bin_lss rfl ?_; refine wl_ns ?_
            refine wc_cond rfl (fun h3 => ?_) (fun h3 => ?_)
            · obtain ⟨x, hx⟩ : ∃ x, body[q + 4 + j]? = some x := ⟨_, List.getElem?_eq_getElem (by omega)⟩
              have hrow : RdB _ B body := (hs.ow 2 rfl).rd
              have hst := numB_step (l := body.drop (q + 4)) (k := j) (x := x) (by rw [List.getElem?_drop]; exact hx)
              have hxl := x.toNat_lt
              refine wc_skip ?_; refine we_seq ?_; refine wc_seq ?_; refine wc_block ?_; refine wc_region ?_; refine wl_mv rfl rfl ?_; apply wl_val; apply opv_bin; exact rfl; exact rfl; exact bin_mul64 (by omega); exact rfl; refine wl_mv rfl rfl ?_; refine wl_mv rfl rfl ?_; apply wl_byK (T := tyB) (hr := hrow) (hb := hx); exact rfl; exact rfl; exact rfl; exact rfl; exact rfl; intro _; apply wl_val; apply opv_convR; exact rfl; exact Try.underlying5; exact Try.underlying3; exact IntWalk.i64_in _ (by omega); exact rfl; apply wl_val; apply opv_bin; exact rfl; exact rfl; exact bin_add64 (by omega); exact rfl; refine wl_as rfl rfl ?_; refine wl_nil ?_; refine we_block_norm ?_; refine we_seq ?_; refine wc_region ?_; refine wl_mv rfl rfl ?_; apply wl_val; apply opv_bin; exact rfl; exact rfl; exact bin_add64 (by omega); exact rfl; refine wl_as rfl rfl ?_; refine wl_nil ?_
              have e1 : ((numB ((body.drop (q + 4)).take (j + 1)) : Nat) : Int) = (numB ((body.drop (q + 4)).take j) : Int) * 256 + (x.toNat : Int) := by rw [hst]; omega
              exact we_loop _ (4 - (j + 1)) ⟨j + 1, rfl, by omega, rfl, rfl⟩ (by omega) ⟨rfl, rfl, rfl, rfl, rfl, by rw [e1]; rfl, rfl, by rw [show q + 4 + (j + 1) = q + 4 + j + 1 by omega]; rfl, trivial⟩
            · obtain rfl : j = 4 := by omega
              obtain ⟨sd, hsd⟩ : ∃ z, numB ((body.drop (q + 4)).take 4) = z := ⟨_, rfl⟩
              rw [hsd] at hnl2 ⊢
              have hs1 : ss[1]? = some sd := by
                rw [← hss, startsB, List.getElem?_map, List.getElem?_range (by omega)]
                simp only [Option.map_some, Option.some.injEq]
                rw [← hsd, List.drop_take, List.take_take, Nat.min_eq_left (by omega)]
              have e8 : ev8 ss k ps = evR sd ps ps.length ps.length := by rw [ev8, if_pos hk1, hs1]; rfl
              rw [e8]
              refine wc_exit ?_; refine we_seq_exit ?_; refine we_loop_exit ?_; refine we_block_exit ?_; refine we_seq ?_; refine wc_sr ?_; refine wl_as rfl rfl ?_; refine wl_ns ?_; refine wc_block ?_
              refine wc_loop (fun L wr mm => ∃ i : Nat, L = [(0, .slice A xs.length c), (9, .slice R l.length rc), (10, .slice Q l.length qc), (14, .int .i64 (evR sd ps ps.length i : Nat)), (15, .int .i64 (sd : Nat)), (18, .int .i64 (i : Int))] ∧ i ≤ ps.length ∧ wr = w3 ∧ mm = ps.length - i)
                [(0, .slice A xs.length c), (9, .slice R l.length rc), (10, .slice Q l.length qc), (14, .int .i64 (l.length : Int)), (15, .int .i64 (sd : Nat)), (18, .int .i64 (0 : Nat))] ps.length ⟨0, by rw [evR, hpl], by omega, rfl, rfl⟩ ⟨rfl, rfl, rfl, rfl, rfl, rfl, trivial⟩ ?_
              rintro _ _ mm ⟨i, rfl, hi, rfl, rfl⟩
              refine wc_seq ?_; refine wc_sr ?_; refine wl_mv rfl rfl ?_; refine wl_mv rfl rfl ?_; apply wl_val; apply opv_len; exact rfl; exact tyI.sl; exact rfl; refine wl_bin rfl rfl bin_lss rfl ?_; refine wl_ns ?_
              refine wc_cond rfl (fun h6 => ?_) (fun h6 => ?_)
              · obtain ⟨u, hu0⟩ : ∃ u, ps[i]? = some u := ⟨_, List.getElem?_eq_getElem (by omega)⟩
                have hu : (natV ps)[i]? = some (.int .i64 (u : Int)) := by rw [natV, List.getElem?_map, hu0]; rfl
                have hrow := (hs.ow 0 rfl).rd
                have hes : evR sd ps ps.length (i + 1) = if u = sd then i else evR sd ps ps.length i := by
                  rw [evR, hu0]
                  by_cases h : u = sd
                  · rw [if_pos h, if_pos (by rw [h])]
                  · rw [if_neg h, if_neg fun h' => h (Option.some.inj h')]
                by_cases h7 : u = sd
                · have h7' : (u : Int) = (sd : Int) := by omega
                  rw [if_pos h7] at hes
                  refine wc_skip ?_; refine we_seq ?_; refine wc_seq ?_; refine wc_block ?_; refine wc_sr ?_; refine wl_mv rfl rfl ?_; refine wl_mv rfl rfl ?_; apply wl_elK (T := tyI) (hr := hrow) (hb := hu); exact rfl; exact rfl; exact rfl; exact rfl; exact rfl; intro _; refine wl_mv rfl rfl ?_; refine wl_bin rfl rfl bin_eql rfl ?_; refine wl_ns ?_; apply wc_decT; exact rfl; (with_reducible assumption); refine wc_region ?_; refine wl_mv rfl rfl ?_; refine wl_as rfl rfl ?_; refine wl_nil ?_; refine we_block_norm ?_; refine we_seq ?_; refine wc_region ?_; refine wl_mv rfl rfl ?_; apply wl_val; apply opv_bin; exact rfl; exact rfl; exact bin_add64 (by omega); exact rfl; refine wl_as rfl rfl ?_; refine wl_nil ?_
                  exact we_loop _ (ps.length - (i + 1)) ⟨i + 1, rfl, by omega, rfl, rfl⟩ (by omega) ⟨rfl, rfl, rfl, by rw [hes]; rfl, rfl, by simp [lookT], trivial⟩
                · have h7' : ¬ (u : Int) = (sd : Int) := by omega
                  rw [if_neg h7] at hes
                  refine wc_skip ?_; refine we_seq ?_; refine wc_seq ?_; refine wc_block ?_; refine wc_sr ?_; refine wl_mv rfl rfl ?_; refine wl_mv rfl rfl ?_; apply wl_elK (T := tyI) (hr := hrow) (hb := hu); exact rfl; exact rfl; exact rfl; exact rfl; exact rfl; intro _; refine wl_mv rfl rfl ?_; refine wl_bin rfl rfl bin_eql rfl ?_; refine wl_ns ?_; apply wc_decF; exact rfl; (with_reducible assumption); refine wc_skip ?_; refine we_block_norm ?_; refine we_seq ?_; refine wc_region ?_; refine wl_mv rfl rfl ?_; apply wl_val; apply opv_bin; exact rfl; exact rfl; exact bin_add64 (by omega); exact rfl; refine wl_as rfl rfl ?_; refine wl_nil ?_
                  exact we_loop _ (ps.length - (i + 1)) ⟨i + 1, rfl, by omega, rfl, rfl⟩ (by omega) ⟨rfl, rfl, rfl, by rw [hes]; rfl, rfl, by simp [lookT], trivial⟩
              · obtain rfl : i = ps.length := by omega
                refine wc_exit ?_; refine we_seq_exit ?_; refine we_loop_exit ?_; refine we_block_exit ?_
                exact we_cut _ ⟨rfl, rfl⟩ ⟨rfl, rfl, rfl, trivial⟩
          · have hk1' : ¬ (k : Int) > 1 := by omega
            have e8 : ev8 ss k ps = l.length := by rw [ev8, if_neg hk1, hpl]
            rw [e8]
            apply wc_decF; exact rfl; (with_reducible assumption); refine wc_skip ?_
            exact we_cut _ ⟨rfl, rfl⟩ ⟨rfl, rfl, rfl, trivial⟩
        rintro _ _ ⟨rfl, rfl⟩
        refine we_seq ?_
        refine wc_seq ?_; refine wc_sr ?_; refine wl_mv rfl rfl ?_; refine wl_bin rfl rfl bin_eql rfl ?_; refine wl_ns ?_
        have hel : ev8 ss k ps ≤ l.length := by
          have key : ∀ i, i ≤ ps.length → evR (ss[1]?.getD 0) ps ps.length i ≤ ps.length := by
            intro i
            induction i with
            | zero => intro _; exact Nat.le_refl _
            | succ i ih => intro h; have := ih (by omega); rw [evR]; split <;> omega
          rw [ev8, ← hpl]; split
          · exact key _ (Nat.le_refl _)
          · exact Nat.le_refl _
        obtain ⟨ev, hevd⟩ : ∃ z, ev8 ss k ps = z := ⟨_, rfl⟩
        rw [hevd] at hel ⊢
        by_cases h8 : ev = 0
        · subst h8
          rw [if_pos rfl]
          apply wc_condTb; exact rfl; exact rfl; refine wc_sr ?_; refine wl_as rfl rfl ?_; refine wl_as rfl rfl ?_; refine wl_ns ?_; refine wc_ret ?_; refine we_seq_ret ?_
          exact we_ret2 rfl rfl rfl ⟨_, rfl, none, 0, rfl, (hs.nil).nilS 4 38⟩
        have h8' : ¬ (ev : Int) = 0 := by omega
        rw [if_neg h8]
        have hz2 : Siz2 l := fun x hx => by
          rw [← hrl] at hx
          obtain ⟨y, hy, rfl⟩ := List.mem_map.1 hx
          have := rdL_siz hrd2 (by omega) y hy
          exact ⟨by omega, by omega, this.2.2⟩
        apply wc_decF; exact rfl; (with_reducible assumption); refine wc_skip ?_; refine we_seq ?_; refine wc_sr ?_; refine wl_mv rfl rfl ?_; refine wl_mv rfl rfl ?_
        refine wl_call ok_caissonref08_Build (refBuild_any (every := ev) (l := l) (by omega) (by omega) (OwR.rd (hs.rsE 1 rfl)) rfl (by omega) hz2) ⟨rfl, rfl, trivial⟩ rfl ?_
        obtain ⟨⟨G, eb⟩, hbB⟩ : ∃ z, buildB ev l = z := ⟨_, rfl⟩
        rw [hbB]
        rintro _ w4 ⟨GA, gc, rfl, oG, hbx⟩
        replace hs := hs.below hbx
        clear hbx
        dsimp only at oG ⊢
        by_cases h9 : eb = 0
        · subst h9
          refine wl_mv rfl rfl ?_; apply wl_val; apply opv_extract; exact rfl; exact rfl; exact rfl; apply wl_val; apply opv_extract; exact rfl; exact rfl; exact rfl; refine wl_as rfl rfl ?_; refine wl_as rfl rfl ?_; refine wl_ns ?_; refine wc_seq ?_; refine wc_sr ?_; refine wl_mv rfl rfl ?_; refine wl_bin rfl rfl bin_neq rfl ?_; refine wl_mv rfl rfl ?_; apply wl_take; exact rfl; exact rfl; exact rfl; refine bF ?_; omega; refine wl_mv rfl rfl ?_; apply wl_take; exact rfl; exact rfl; exact rfl; refine bF ?_; omega; refine wl_mv rfl rfl ?_; apply wl_take; exact rfl; exact rfl; exact rfl; refine bF ?_; omega
          refine wl_call ok_caissonref01_Equal (equal_any (xs := G) (ys := xs) oG.rd (hr.below hs.bel) rfl rfl (by have := ow_len8 oG; exact this)) ⟨rfl, rfl, trivial⟩ rfl ?_
          rintro _ w5 ⟨rfl, hbx⟩
          replace hs := hs.below hbx
          clear hbx
          by_cases he : G = xs
          · rw [decide_eq_true he, if_pos (by rw [he])]
            apply wl_take; exact rfl; exact rfl; exact rfl; refine bF ?_; omega; apply wl_val; apply opv_not; exact rfl; exact rfl; apply wl_val; apply opv_pickF; exact rfl; refine bF ?_; omega; exact rfl; exact rfl; refine wl_ns ?_; apply wc_condFb; exact rfl; exact Bool.not_true; refine wc_skip ?_; refine we_seq ?_; refine wc_sr ?_; refine wl_mv rfl rfl ?_; refine wl_as rfl rfl ?_; refine wl_as rfl rfl ?_; refine wl_ns ?_; refine wc_ret ?_
            exact we_ret2 rfl rfl rfl ⟨_, rfl, R, rc, rfl, (hs.drop 2 rfl).drop 0 rfl⟩
          · rw [decide_eq_false he, if_neg fun h => he (Prod.mk.inj h).1]
            apply wl_take; exact rfl; exact rfl; exact rfl; refine bF ?_; omega; apply wl_val; apply opv_not; exact rfl; exact rfl; apply wl_val; apply opv_pickF; exact rfl; refine bF ?_; omega; exact rfl; exact rfl; refine wl_ns ?_; apply wc_condTb; exact rfl; exact Bool.not_false; refine wc_sr ?_; refine wl_as rfl rfl ?_; refine wl_as rfl rfl ?_; refine wl_ns ?_; refine wc_ret ?_; refine we_seq_ret ?_
            exact we_ret2 rfl rfl rfl ⟨_, rfl, none, 0, rfl, (hs.nil).nilS 4 38⟩
        · have h9' : ¬ (eb : Int) = 0 := by omega
          rw [if_neg fun h => h9 (Prod.mk.inj h).2]
          refine wl_mv rfl rfl ?_; apply wl_val; apply opv_extract; exact rfl; exact rfl; exact rfl; apply wl_val; apply opv_extract; exact rfl; exact rfl; exact rfl; refine wl_as rfl rfl ?_; refine wl_as rfl rfl ?_; refine wl_ns ?_; refine wc_seq ?_; refine wc_sr ?_; refine wl_mv rfl rfl ?_; refine wl_bin rfl rfl bin_neq rfl ?_; refine wl_mv rfl rfl ?_; apply wl_skip; exact rfl; exact rfl; exact rfl; refine bTn ?_; (with_reducible assumption); exact rfl; apply wl_skip; exact rfl; exact rfl; exact rfl; refine bTn ?_; (with_reducible assumption); exact rfl; apply wl_skip; exact rfl; exact rfl; exact rfl; refine bTn ?_; (with_reducible assumption); exact rfl; apply wl_skip; exact rfl; exact rfl; exact rfl; refine bTn ?_; (with_reducible assumption); exact rfl; apply wl_val; apply opv_pickT; exact rfl; refine bT ?_; (with_reducible assumption); exact rfl; exact rfl; refine wl_ns ?_; apply wc_condTb; exact rfl; exact rfl; refine wc_sr ?_; refine wl_as rfl rfl ?_; refine wl_as rfl rfl ?_; refine wl_ns ?_; refine wc_ret ?_; refine we_seq_ret ?_
          exact we_ret2 rfl rfl rfl ⟨_, rfl, none, 0, rfl, (hs.nil).nilS 4 38⟩
end Go.Proofs.Ytojncfdlddepdaa


/-
  Walk over the document's Seek of blocks, and over the fixed fact of its laws.
-/
namespace Go.Proofs.Ytojncfdlddepdaa
open Go.RowKit

theorem refSeek8_any {A K : Option Addr} {n c kn kc m : Nat} {l : List En} {key : List UInt8} {w : World} (hr : RdR 4 w All A (l.map enEl)) (hn : l.length = n) (hl : l.length ≤ 4294967296) (rk : RdB w K key) (hkn : key.length = kn) (hkl : key.length ≤ maxLen) (hok : ∀ x ∈ l, x.key.length ≤ maxLen) :
    CallsV Try.prog 15 #[.slice A n c, .slice K kn kc, .int .u64 (m : Int)] w fun v w' => (∃ (X : Option Addr) (cx : Nat) (Y : Option Addr) (cy : Nat), v = .tuple #[.agg (enV ((sekE l ⟨key, m, 0, []⟩).getD noE) X cx Y cy).toArray, .bool (sekE l ⟨key, m, 0, []⟩).isSome] ∧ RdB w' X ((sekE l ⟨key, m, 0, []⟩).getD noE).key ∧ RdB w' Y ((sekE l ⟨key, m, 0, []⟩).getD noE).val) ∧ Below w.heap.size w w' := by
  subst hn hkn
  have hs := St.init w
  refine calls_in (N := _) Try.func15 rfl Try.ntmps15 rfl ?_; show WC _ _ _ _ _ _
  refine wc_sr ?_
  refine ws_new hs zeroE rfl ?_; clear hs; intro g6 _ hs
  unfold zE at hs
  refine wl_as rfl rfl ?_; refine wl_ns ?_; refine wc_seq ?_; refine wc_sr ?_; refine wl_as rfl rfl ?_; refine wl_ns ?_; refine wc_block ?_
  refine wc_loop (fun L wr mm => ∃ i : Nat, L = [(0, .slice A l.length c), (1, .slice K key.length kc), (2, .int .u64 (m : Int)), (6, .pointer (some ⟨g6, 0, none⟩)), (8, .int .i64 (i : Int))] ∧ i ≤ l.length ∧ sekE l ⟨key, m, 0, []⟩ = sekE (l.drop i) ⟨key, m, 0, []⟩ ∧ St NoB w wr [.blk g6 38 [.slice none 0 0, .int .u64 0, .int .u8 0, .slice none 0 0]] ∧ mm = l.length - i)
    [(0, .slice A l.length c), (1, .slice K key.length kc), (2, .int .u64 (m : Int)), (6, .pointer (some ⟨g6, 0, none⟩)), (8, .int .i64 (0 : Nat))] l.length ⟨0, rfl, by omega, rfl, hs, rfl⟩ ⟨rfl, rfl, rfl, rfl, rfl, trivial⟩ ?_
  clear hs
  rintro _ w2 mm ⟨i, rfl, hi, hse, hs, rfl⟩
  refine wc_seq ?_; refine wc_sr ?_; refine wl_mv rfl rfl ?_; refine wl_mv rfl rfl ?_; apply wl_val; apply opv_len; exact rfl; exact tkE.sl; exact rfl; refine wl_bin rfl rfl bin_lss rfl ?_; refine wl_ns ?_
  refine wc_cond rfl (fun h1 => ?_) (fun h1 => ?_)
  · obtain ⟨x, hx⟩ : ∃ x, l[i]? = some x := ⟨_, List.getElem?_eq_getElem (by omega)⟩
    obtain ⟨b, o, cs, rfl, _, _, hp, i0⟩ := RdR.at (k := 4) (by decide) hr (E := enEl x) (i := i) (by rw [List.getElem?_map, hx]; rfl)
    obtain ⟨X, cx, X2, cx2, rfl, rx, hcx, rx2, hcx2⟩ := enEl.rd hp
    have i1 := i0.below hs.bel
    have hdr := drop_getB hx
    refine wc_skip ?_; refine we_seq ?_; refine wc_seq ?_; refine wc_block ?_; refine wc_sr ?_; refine wl_mv rfl rfl ?_; refine wl_mv rfl rfl ?_; apply wl_val; apply opv_idxG tkE; exact rfl; exact rfl; exact rfl; omega; exact rfl; apply wl_val; apply opv_ldG; exact rfl; assumption; exact sE; exact rfl; refine wl_mv rfl rfl ?_; refine wl_mv rfl rfl ?_
    refine wl_val (opv_build (vs := [(0, .slice K key.length kc), (1, .int .u64 (m : Int))]) (cs := enV ⟨key, m, 0, []⟩ K kc none 0) ⟨rfl, rfl, rfl, rfl, trivial⟩ (by kernel_rfl)) rfl ?_
    skip
    refine wl_call ok_caissonref07_Less (refLess_any (x := x) (y := ⟨key, m, 0, []⟩) (rx.below hs.bel) (rk.below hs.bel) (hok x (List.mem_of_getElem? hx)) hkl) ⟨rfl, rfl, trivial⟩ rfl ?_
    rintro _ w3 ⟨rfl, hbx⟩
    replace hs := hs.below hbx
    clear hbx i1
    have i1 := i0.below hs.bel
    cases hless : lessE x ⟨key, m, 0, []⟩ with
    | true =>
      apply wl_val; apply opv_not; exact rfl; exact rfl; refine wl_ns ?_; apply wc_condFb; exact rfl; exact Bool.not_true; refine wc_skip ?_; refine we_block_norm ?_; refine we_seq ?_; refine wc_region ?_; refine wl_mv rfl rfl ?_; apply wl_val; apply opv_bin; exact rfl; exact rfl; exact bin_add64 (by omega); exact rfl; refine wl_as rfl rfl ?_; refine wl_nil ?_
      exact we_loop _ (l.length - (i + 1)) ⟨i + 1, rfl, by omega, by rw [hse, hdr, sekE, List.find?_cons, hless]; rfl, hs, rfl⟩ (by omega) ⟨rfl, rfl, rfl, rfl, by simp [lookT], trivial⟩
    | false =>
      have hsx : sekE l ⟨key, m, 0, []⟩ = some x := by rw [hse, hdr, sekE, List.find?_cons, hless]; rfl
      rw [hsx]
      apply wl_val; apply opv_not; exact rfl; exact rfl; refine wl_ns ?_; apply wc_condTb; exact rfl; exact Bool.not_false; refine wc_sr ?_; refine wl_mv rfl rfl ?_; refine wl_mv rfl rfl ?_; apply wl_val; apply opv_idxG tkE; exact rfl; exact rfl; exact rfl; omega; exact rfl; apply wl_val; apply opv_ldG; exact rfl; assumption; exact sE; exact rfl; apply ws_stS hs 0; exact rfl; exact rfl; exact rfl; exact sE; exact rfl; exact rfl; clear hs; intro _ hs; dsimp only [setC] at hs; refine wl_as rfl rfl ?_; refine wl_ns ?_; refine wc_ret ?_; refine we_block_ret ?_; refine we_seq_ret ?_; refine we_loop_ret ?_; refine we_block_ret ?_; refine we_seq_ret ?_
      exact we_retC1 rfl rfl rfl (hs.ar 0 rfl) sE ⟨_, rfl, ⟨X, cx, X2, cx2, rfl, rx.below hs.bel, rx2.below hs.bel⟩, hs.bel⟩
  · obtain rfl : i = l.length := by omega
    rw [List.drop_length] at hse
    have hsx : sekE l ⟨key, m, 0, []⟩ = none := hse
    rw [hsx]
    refine wc_exit ?_; refine we_seq_exit ?_; refine we_loop_exit ?_; refine we_block_exit ?_; refine we_seq ?_; refine wc_sr ?_
    refine wl_val (opv_build (vs := []) (cs := zE) trivial (by kernel_rfl)) rfl ?_
    unfold zE
    apply ws_stS hs 0; exact rfl; exact rfl; exact rfl; exact sE; exact rfl; exact rfl; clear hs; intro _ hs; dsimp only [setC] at hs; refine wl_as rfl rfl ?_; refine wl_ns ?_; refine wc_ret ?_
    exact we_retC1 rfl rfl rfl (hs.ar 0 rfl) sE ⟨_, rfl, ⟨none, 0, none, 0, rfl, Rd.nil _ _, Rd.nil _ _⟩, hs.bel⟩
end Go.Proofs.Ytojncfdlddepdaa


/-
  The fixed fact of the laws of blocks.
-/
namespace Go.Proofs.Ytojncfdlddepdaa
open Go.RowKit

def aw8 : List En := [⟨[97, 98], 5, 1, [120]⟩, ⟨[97, 98, 99], 7, 2, []⟩]
theorem putU_small {n : Nat} (h : n < 128) : putU n = [UInt8.ofNat n] := by rw [putU, if_pos h]
theorem aw8_blk : blkB 2 aw8 = [0, 2, 5, 1, 1, 97, 98, 120, 2, 1, 7, 2, 0, 99, 0, 0, 0, 0, 0, 0, 0, 1] := by
  have h0 : shrN 2 aw8 0 = 0 := rfl
  have h1 : shrN 2 aw8 1 = 2 := by decide
  have hb1 : bodyB 2 aw8 1 = [0, 2, 5, 1, 1, 97, 98, 120] := by
    rw [bodyB, h0]; simp [aw8, entB, putU_small, bodyB]
  have hb : bodyB 2 aw8 2 = [0, 2, 5, 1, 1, 97, 98, 120, 2, 1, 7, 2, 0, 99] := by
    rw [bodyB, hb1, h1]; simp [aw8, entB, putU_small]
  have hr : resB 2 aw8 2 = [0, 0, 0, 0] := by
    rw [resB, resB]; simp [resB, bodyB]; decide
  have hst : stN 2 2 = 1 := by decide
  have hl : aw8.length = 2 := rfl
  rw [blkB, hl, hb, hr, hst]; decide
theorem aw8_build : ∃ bs, buildB 2 aw8 = (bs, 0) ∧ bs.length = 30 ∧ bs[8]? = some 0 ∧ bs[9]? = some 2 ∧ bs[10]? = some 5 ∧ bs[16]? = some 2 ∧ bs[17]? = some 1 ∧ bs[18]? = some 7 := by
  obtain ⟨h, _⟩ := dec_build (every := 2) (l := aw8) (by decide) (by simp [Siz, aw8]) (by decide) (by decide) (by rw [aw8_blk]; decide)
  obtain ⟨s, hs⟩ : ∃ s, crcOf (four (blkB 2 aw8).length ++ blkB 2 aw8) = s := ⟨_, rfl⟩
  have e : crcRec (blkB 2 aw8) = (four (blkB 2 aw8).length ++ four s) ++ blkB 2 aw8 := by rw [crcRec, hs, List.append_assoc]
  have l8 : (four (blkB 2 aw8).length ++ four s).length = 8 := by rw [List.length_append, four_length, four_length]
  have hg : ∀ i, (crcRec (blkB 2 aw8))[8 + i]? = (blkB 2 aw8)[i]? := fun i => by rw [e, List.getElem?_append_right (by omega), l8, Nat.add_sub_cancel_left]
  refine ⟨_, h, by rw [crcRec_length, aw8_blk]; rfl, ?_⟩
  rw [hg 0, hg 1, hg 2, hg 8, hg 9, hg 10, aw8_blk]
  exact ⟨rfl, rfl, rfl, rfl, rfl, rfl⟩
theorem awake8_any {w : World} : CallsV Try.prog 7 #[] w fun v w' => v = .bool true ∧ Below w.heap.size w w' := by
  have hs := St.init w
  obtain ⟨bs, hbd, hbl, h8, h9, h10, h16, h17, h18⟩ := aw8_build
  refine calls_in (N := _) Try.func7 rfl Try.ntmps7 rfl ?_; show WC _ _ _ _ _ _
  refine wc_sr ?_; refine wl_as rfl rfl ?_; refine wl_ns ?_; refine wc_sr ?_
  refine ws_lit hs [97, 98] tyB Try.underlying5 ⟨rfl, rfl, rfl, rfl, rfl, rfl, trivial⟩ rfl (by decide) (by decide) rfl rfl ?_
  clear hs; intro _ A w2 hs
  skip
  refine ws_lit hs [120] tyB Try.underlying5 ⟨rfl, rfl, rfl, trivial⟩ rfl (by decide) (by decide) rfl rfl ?_
  clear hs; intro _ B w3 hs
  skip
  refine wl_val (opv_build (vs := [(0, .slice A 2 2), (1, .int .u64 5), (2, .int .u8 1), (3, .slice B 1 1)]) (cs := enV ⟨[97, 98], 5, 1, [120]⟩ A 2 B 1) ⟨rfl, rfl, rfl, rfl, rfl, rfl, rfl, rfl, trivial⟩ (by kernel_rfl)) rfl ?_
  skip
  refine ws_lit hs [97, 98, 99] tyB Try.underlying5 ⟨rfl, rfl, rfl, rfl, rfl, rfl, rfl, rfl, rfl, trivial⟩ rfl (by decide) (by decide) rfl rfl ?_
  clear hs; intro _ C w4 hs
  skip
  refine wl_val (opv_build (vs := [(0, .slice C 3 3), (1, .int .u64 7), (2, .int .u8 2)]) (cs := enV ⟨[97, 98, 99], 7, 2, []⟩ C 3 none 0) ⟨rfl, rfl, rfl, rfl, rfl, rfl, trivial⟩ (by kernel_rfl)) rfl ?_
  skip
  refine wl_bsG (css := [enV ⟨[97, 98], 5, 1, [120]⟩ A 2 B 1, enV ⟨[97, 98, 99], 7, 2, []⟩ C 3 none 0]) tkE ⟨rfl, ⟨_, rfl, rfl⟩, rfl, rfl, ⟨_, rfl, rfl⟩, rfl, trivial⟩ (els := [enV ⟨[97, 98], 5, 1, [120]⟩ A 2 B 1, enV ⟨[97, 98, 99], 7, 2, []⟩ C 3 none 0].map rawEl) (S := NoB) rfl (by decide) (by decide)
    (grp_raw (by simp [enV])) rfl fun R w8 hR hbx _ => ?_
  replace hs := hs.newG hbx hR (Nat.le_refl _) fun _ _ h => h.elim
  clear hR hbx
  have hr : RdR 4 w8 All R (aw8.map enEl) := by
    obtain ⟨T1, hT1, hrg, T2, hT2, h2, T3, hT3, h3, T4, hT4, h4, _⟩ := hs.2
    obtain ⟨ho, _⟩ := OwR.raw (css := [enV ⟨[97, 98], 5, 1, [120]⟩ A 2 B 1, enV ⟨[97, 98, 99], 7, 2, []⟩ C 3 none 0]) hrg.2
    refine ⟨[enV ⟨[97, 98], 5, 1, [120]⟩ A 2 B 1, enV ⟨[97, 98, 99], 7, 2, []⟩ C 3 none 0], (Grp.one (E := enEl ⟨[97, 98], 5, 1, [120]⟩) (enEl.mk ?_ ?_) rfl).append (Grp.one (E := enEl ⟨[97, 98, 99], 7, 2, []⟩) (enEl.mk ?_ ?_) rfl), own_rd ho, fun a ha _ => trivial⟩
    · exact El.all h4
    · exact El.all h3
    · exact El.all h2
    · exact byEl.mk (xs := []) (Rd.nil _ _) (Nat.zero_le _) fun a h _ => by cases h
  refine wl_call ok_block_Build (blkBuild_any (every := 2) (l := aw8) (by decide) (by decide) hr rfl (by decide) (by simp [Siz2, aw8])) ⟨rfl, rfl, trivial⟩ rfl ?_
  rw [hbd]
  rintro _ w9 ⟨G, gc, rfl, oG, hbx⟩
  replace hs := hs.below hbx
  clear hbx
  have hb : RdB w9 G bs := oG.rd
  dsimp only
  have h00 : ((0 : Nat) : Int) = 0 := rfl
  have hl30 : (bs.length : Int) = 30 := by omega
  refine wl_mv rfl rfl ?_; apply wl_val; apply opv_extract; exact rfl; exact rfl; exact rfl; apply wl_val; apply opv_extract; exact rfl; exact rfl; exact rfl; refine wl_as rfl rfl ?_; refine wl_as rfl rfl ?_; refine wl_ns ?_; refine wc_sr ?_; refine wl_mv rfl rfl ?_; refine wl_bin rfl rfl bin_eql rfl ?_; refine wl_mv rfl rfl ?_; apply wl_take; exact rfl; exact rfl; exact rfl; refine bT ?_; (with_reducible assumption); refine wl_mv rfl rfl ?_; apply wl_take; exact rfl; exact rfl; exact rfl; refine bT ?_; (with_reducible assumption); apply wl_val; apply opv_len; exact rfl; exact tyB.sl; exact rfl; apply wl_take; exact rfl; exact rfl; exact rfl; refine bT ?_; (with_reducible assumption); refine wl_bin rfl rfl bin_eql rfl ?_; apply wl_val; apply opv_pickT; exact rfl; refine bT ?_; (with_reducible assumption); exact rfl; exact rfl; refine wl_mv rfl rfl ?_; apply wl_take; exact rfl; exact rfl; exact rfl; refine bT ?_; (with_reducible assumption); refine wl_mv rfl rfl ?_; apply wl_byTK (T := tyB) (hr := hb) (hb := h8); exact rfl; exact rfl; exact rfl; refine bT ?_; (with_reducible assumption); exact rfl; exact rfl; exact rfl; exact rfl; refine bT ?_; (with_reducible assumption); exact rfl; exact rfl; exact rfl; exact rfl; exact rfl; intro _; apply wl_take; exact rfl; exact rfl; exact rfl; refine bT ?_; (with_reducible assumption); refine wl_bin rfl rfl bin_eql rfl ?_; apply wl_val; apply opv_pickT; exact rfl; refine bT ?_; (with_reducible assumption); exact rfl; exact rfl; refine wl_mv rfl rfl ?_; apply wl_take; exact rfl; exact rfl; exact rfl; refine bT ?_; exact rfl; refine wl_mv rfl rfl ?_; apply wl_byTK (T := tyB) (hr := hb) (hb := h9); exact rfl; exact rfl; exact rfl; refine bT ?_; exact rfl; exact rfl; exact rfl; exact rfl; exact rfl; refine bT ?_; exact rfl; exact rfl; exact rfl; exact rfl; exact rfl; exact rfl; intro _; apply wl_take; exact rfl; exact rfl; exact rfl; refine bT ?_; exact rfl; refine wl_bin rfl rfl bin_eql rfl ?_; apply wl_val; apply opv_pickT; exact rfl; refine bT ?_; exact rfl; exact rfl; exact rfl; refine wl_mv rfl rfl ?_; apply wl_take; exact rfl; exact rfl; exact rfl; refine bT ?_; exact rfl; refine wl_mv rfl rfl ?_; apply wl_byTK (T := tyB) (hr := hb) (hb := h10); exact rfl; exact rfl; exact rfl; refine bT ?_; exact rfl; exact rfl; exact rfl; exact rfl; exact rfl; refine bT ?_; exact rfl; exact rfl; exact rfl; exact rfl; exact rfl; exact rfl; intro _; apply wl_take; exact rfl; exact rfl; exact rfl; refine bT ?_; exact rfl; refine wl_bin rfl rfl bin_eql rfl ?_; apply wl_val; apply opv_pickT; exact rfl; refine bT ?_; exact rfl; exact rfl; exact rfl; refine wl_mv rfl rfl ?_; apply wl_take; exact rfl; exact rfl; exact rfl; refine bT ?_; exact rfl; refine wl_mv rfl rfl ?_; apply wl_byTK (T := tyB) (hr := hb) (hb := h16); exact rfl; exact rfl; exact rfl; refine bT ?_; exact rfl; exact rfl; exact rfl; exact rfl; exact rfl; refine bT ?_; exact rfl; exact rfl; exact rfl; exact rfl; exact rfl; exact rfl; intro _; apply wl_take; exact rfl; exact rfl; exact rfl; refine bT ?_; exact rfl; refine wl_bin rfl rfl bin_eql rfl ?_; apply wl_val; apply opv_pickT; exact rfl; refine bT ?_; exact rfl; exact rfl; exact rfl; refine wl_mv rfl rfl ?_; apply wl_take; exact rfl; exact rfl; exact rfl; refine bT ?_; exact rfl; refine wl_mv rfl rfl ?_; apply wl_byTK (T := tyB) (hr := hb) (hb := h17); exact rfl; exact rfl; exact rfl; refine bT ?_; exact rfl; exact rfl; exact rfl; exact rfl; exact rfl; refine bT ?_; exact rfl; exact rfl; exact rfl; exact rfl; exact rfl; exact rfl; intro _; apply wl_take; exact rfl; exact rfl; exact rfl; refine bT ?_; exact rfl; refine wl_bin rfl rfl bin_eql rfl ?_; apply wl_val; apply opv_pickT; exact rfl; refine bT ?_; exact rfl; exact rfl; exact rfl; refine wl_mv rfl rfl ?_; apply wl_take; exact rfl; exact rfl; exact rfl; refine bT ?_; exact rfl; refine wl_mv rfl rfl ?_; apply wl_byTK (T := tyB) (hr := hb) (hb := h18); exact rfl; exact rfl; exact rfl; refine bT ?_; exact rfl; exact rfl; exact rfl; exact rfl; exact rfl; refine bT ?_; exact rfl; exact rfl; exact rfl; exact rfl; exact rfl; exact rfl; intro _; apply wl_take; exact rfl; exact rfl; exact rfl; refine bT ?_; exact rfl; refine wl_bin rfl rfl bin_eql rfl ?_; apply wl_val; apply opv_pickT; exact rfl; refine bT ?_; exact rfl; exact rfl; exact rfl; refine wl_as rfl rfl ?_; refine wl_ns ?_; refine wc_ret ?_
  exact we_ret1 rfl rfl ⟨_, rfl, rfl, hs.bel⟩
end Go.Proofs.Ytojncfdlddepdaa


/-
  Walk over the law BlockReads.
-/
namespace Go.Proofs.Ytojncfdlddepdaa
open Go.RowKit

theorem dec_key {b : List UInt8} {l : List En} {e : Nat} (h : decB b = (l, e)) : ∀ x ∈ l, x.key.length ≤ 1048576 ∧ x.val.length ≤ 1048576 := by
  rw [dec_spl] at h
  obtain ⟨⟨⟨body, ss⟩, e'⟩, hsp⟩ : ∃ q, splB b = q := ⟨_, rfl⟩
  have hs := spl_small hsp
  rw [hsp] at h
  cases e' with
  | succ e' => cases h; simp
  | zero =>
    replace h : (match rdL body body.length 0 [] with
      | none => ([], 3)
      | some r => if buildB (evL ss (r.map (·.2))) (r.map (·.1)) = (b, 0) then (r.map (·.1), 0) else ([], 3)) = (l, e) := h
    cases hr : rdL body body.length 0 [] with
    | none => rw [hr] at h; cases h; simp
    | some r =>
      rw [hr] at h
      dsimp only at h
      split at h
      · cases h
        intro x hx
        obtain ⟨y, hy, rfl⟩ := List.mem_map.1 hx
        have := rdL_siz hr hs.1 y hy
        omega
      · cases h; simp
theorem dec_err {b : List UInt8} {l : List En} {e : Nat} (h : decB b = (l, e)) (he : ¬ e = 0) : l = [] := by
  unfold decB at h
  split at h
  · split at h
    · exact (Prod.mk.inj h).1.symm
    · split at h
      · exact (Prod.mk.inj h).1.symm
      · split at h
        · exact (Prod.mk.inj h).1.symm
        · split at h
          · exact absurd (Prod.mk.inj h).2.symm he
          · exact (Prod.mk.inj h).1.symm
  · exact (Prod.mk.inj h).1.symm
theorem reads_any {A K : Option Addr} {n c kn kc m : Nat} {xs key : List UInt8} {w : World} (hr : RdB w A xs) (hn : xs.length = n) (_hc : xs.length ≤ c) (_hl : xs.length ≤ 140737488355328) (rk : RdB w K key) (hkn : key.length = kn) (_hkc : key.length ≤ kc) (hkl : key.length ≤ 140737488355328) (_hm : m < 18446744073709551616) :
    CallsV Try.prog 4 #[.slice A n c, .slice K kn kc, .int .u64 (m : Int)] w (RetTrue w) := by
  subst hn hkn
  have hs := St.init w
  refine calls_in (N := _) Try.func4 rfl Try.ntmps4 rfl ?_; show WC _ _ _ _ _ _
  refine wc_sr ?_; refine wl_as rfl rfl ?_; refine wl_ns ?_; refine wc_seq ?_; refine wc_sr ?_
  refine wl_call ok_caissonlaw08_awake (awake8_any) trivial rfl ?_; rintro _ _ ⟨rfl, hbx⟩; replace hs := hs.below hbx; try dsimp only [List.cons_append, List.nil_append, setC, delC] at hs
  apply wl_val; apply opv_not; exact rfl; exact rfl; refine wl_ns ?_; apply wc_condFb; exact rfl; exact Bool.not_true; refine wc_skip ?_; refine we_seq ?_; refine wc_seq ?_; refine wc_sr ?_; refine wl_mv rfl rfl ?_; apply wl_val; apply opv_len; exact rfl; exact tyB.sl; exact rfl; refine wl_bin rfl rfl bin_gtr rfl ?_; refine wl_ns ?_
  by_cases hbig : 20000 < xs.length
  · have hbig' : (xs.length : Int) > 20000 := by omega
    apply wc_decT; exact rfl; (with_reducible assumption); refine wc_sr ?_; refine wl_as rfl rfl ?_; refine wl_ns ?_; refine wc_ret ?_; refine we_seq_ret ?_
    exact we_ret1 rfl rfl ⟨_, rfl, rfl, hs.bel⟩
  have hbig' : ¬ (xs.length : Int) > 20000 := by omega
  apply wc_decF; exact rfl; (with_reducible assumption); refine wc_skip ?_; refine we_seq ?_; refine wc_sr ?_; refine wl_mv rfl rfl ?_
  refine wl_call ok_caissonref01_Copy (copy_any (hr.below hs.bel) rfl (by omega)) ⟨rfl, trivial⟩ rfl ?_; rintro _ _ ⟨C1, c1, rfl, o_, hbx⟩; replace hs := hs.newO hbx o_ (Nat.le_refl _); try dsimp only [List.cons_append, List.nil_append, setC, delC] at hs
  have hc1 := ow_cap (hs.ow 0 rfl)
  obtain ⟨⟨l, e⟩, hd⟩ : ∃ q, decB xs = q := ⟨_, rfl⟩
  obtain ⟨hok1, _⟩ := dec_ok hd
  have hok2 := dec_key hd
  skip
  refine wl_call ok_block_Decode (decode_any (hs.ow 0 rfl).rd rfl hc1 (by omega)) ⟨rfl, trivial⟩ rfl ?_
  rw [hd]
  rintro _ w3 ⟨R, rc, rfl, hsx⟩
  replace hs := hs.call hsx
  clear hsx
  dsimp only [List.cons_append, List.nil_append] at hs ⊢
  refine wl_mv rfl rfl ?_; apply wl_val; apply opv_extract; exact rfl; exact rfl; exact rfl; apply wl_val; apply opv_extract; exact rfl; exact rfl; exact rfl; refine wl_as rfl rfl ?_; refine wl_as rfl rfl ?_; refine wl_ns ?_; refine wc_sr ?_; refine wl_mv rfl rfl ?_
  refine wl_call ok_caissonref08_Decode (refDecode_any (hr.below hs.bel) rfl _hc (by omega)) ⟨rfl, trivial⟩ rfl ?_
  rw [hd]
  rintro _ w4 ⟨R2, rc2, rfl, hsx⟩
  replace hs := hs.call hsx
  clear hsx
  dsimp only [List.cons_append, List.nil_append] at hs ⊢
  refine wl_mv rfl rfl ?_; apply wl_val; apply opv_extract; exact rfl; exact rfl; exact rfl; apply wl_val; apply opv_extract; exact rfl; exact rfl; exact rfl; refine wl_as rfl rfl ?_; refine wl_as rfl rfl ?_; refine wl_ns ?_; refine wc_sr ?_; refine wl_mv rfl rfl ?_
  refine wl_call ok_caissonref01_Copy (copy_any (hr.below hs.bel) rfl (by omega)) ⟨rfl, trivial⟩ rfl ?_; rintro _ _ ⟨C3, c3, rfl, o_, hbx⟩; replace hs := hs.newO hbx o_ (Nat.le_refl _); try dsimp only [List.cons_append, List.nil_append, setC, delC] at hs
  refine wl_mv rfl rfl ?_
  refine wl_call ok_caissonref01_Copy (copy_any (rk.below hs.bel) rfl (by omega)) ⟨rfl, trivial⟩ rfl ?_; rintro _ _ ⟨C4, c4, rfl, o_, hbx⟩; replace hs := hs.newO hbx o_ (Nat.le_refl _); try dsimp only [List.cons_append, List.nil_append, setC, delC] at hs
  have hc3 := ow_cap (hs.ow 1 rfl)
  refine wl_mv rfl rfl ?_
  refine wl_call ok_block_Seek (bseek_any (m := m) (hs.ow 1 rfl).rd rfl hc3 (by omega) (hs.ow 0 rfl).rd rfl) ⟨rfl, rfl, rfl, trivial⟩ rfl ?_
  have hsk : sekB xs ⟨key, m, 0, []⟩ = ((sekE l ⟨key, m, 0, []⟩).getD noE, (sekE l ⟨key, m, 0, []⟩).isSome, e) := by
    rw [sekB, hd]
    cases e with
    | zero => rfl
    | succ e => rw [dec_err hd (by omega)]; rfl
  rw [hsk]
  have hzm : ((sekE l ⟨key, m, 0, []⟩).getD noE).key.length ≤ 1048576 ∧ ((sekE l ⟨key, m, 0, []⟩).getD noE).val.length ≤ 1048576 := by
    cases h : sekE l ⟨key, m, 0, []⟩ with
    | none => exact ⟨Nat.zero_le _, Nat.zero_le _⟩
    | some z => exact hok2 z (List.mem_of_find?_eq_some h)
  clear hsk
  rintro _ w5 ⟨⟨X, cx, Y, cy, rfl, q1, q2⟩, hbx⟩
  replace hs := hs.below hbx
  clear hbx
  have hse8 := fun (w : World) => refSeek8_any (w := w) (A := R2) (K := K) (n := l.length) (c := rc2) (kn := key.length) (kc := kc) (m := m) (l := l) (key := key)
  obtain ⟨z, hz⟩ : ∃ q, (sekE l ⟨key, m, 0, []⟩).getD noE = q := ⟨_, rfl⟩
  obtain ⟨ib, hib⟩ : ∃ q, (sekE l ⟨key, m, 0, []⟩).isSome = q := ⟨_, rfl⟩
  rw [hz] at q1 q2 hzm
  simp only [hz, hib] at hse8 ⊢
  have hee : ¬ ¬ (e : Int) = (e : Int) := fun h => h rfl
  refine wl_mv rfl rfl ?_; apply wl_val; apply opv_extract; exact rfl; exact rfl; exact rfl; apply wl_val; apply opv_extract; exact rfl; exact rfl; exact rfl; apply wl_val; apply opv_extract; exact rfl; exact rfl; exact rfl
  refine wl_var (cs := enV z X cx Y cy) zeroE sE rfl (fun _ => rfl) rfl rfl fun g11 w6 hg11 a11 hbx => ?_
  replace hs := hs.newA hbx hg11 a11
  replace q1 := q1.below hbx
  replace q2 := q2.below hbx
  clear hbx hg11 a11
  refine wl_as rfl rfl ?_; refine wl_as rfl rfl ?_; refine wl_ns ?_; refine wc_seq ?_; refine wc_sr ?_; refine wl_mv rfl rfl ?_; refine wl_mv rfl rfl ?_; refine wl_bin rfl rfl bin_neq rfl ?_; refine wl_mv rfl rfl ?_; apply wl_take; exact rfl; exact rfl; exact rfl; refine bF ?_; (with_reducible assumption); refine wl_mv rfl rfl ?_; apply wl_take; exact rfl; exact rfl; exact rfl; refine bF ?_; (with_reducible assumption); refine wl_mv rfl rfl ?_; apply wl_take; exact rfl; exact rfl; exact rfl; refine bF ?_; (with_reducible assumption); refine wl_bin rfl rfl bin_neq rfl ?_; apply wl_val; apply opv_pickF; exact rfl; refine bF ?_; (with_reducible assumption); exact rfl; exact rfl; refine wl_mv rfl rfl ?_; apply wl_take; exact rfl; exact rfl; exact rfl; refine bF ?_; (with_reducible assumption); refine wl_mv rfl rfl ?_; apply wl_take; exact rfl; exact rfl; exact rfl; refine bF ?_; (with_reducible assumption); refine wl_mv rfl rfl ?_; apply wl_take; exact rfl; exact rfl; exact rfl; refine bF ?_; (with_reducible assumption)
  refine wl_call ok_caissonref07_SameList (sameListE_any (OwR.rd (hs.rsE 4 rfl)) (OwR.rd (hs.rsE 3 rfl)) rfl rfl (fun x h => by have := hok2 x h; simp only [maxLen]; omega) (by omega) (by omega)) ⟨rfl, rfl, trivial⟩ rfl ?_
  rintro _ w7 ⟨⟨q, rfl, hq⟩, hbx⟩
  obtain rfl := hq.2 rfl
  replace hs := hs.below hbx
  replace q1 := q1.below hbx
  replace q2 := q2.below hbx
  clear hbx hq
  apply wl_take; exact rfl; exact rfl; exact rfl; refine bF ?_; (with_reducible assumption); apply wl_val; apply opv_not; exact rfl; exact rfl; apply wl_val; apply opv_pickF; exact rfl; refine bF ?_; (with_reducible assumption); exact rfl; exact rfl; refine wl_ns ?_; apply wc_condFb; exact rfl; exact Bool.not_true; refine wc_skip ?_; refine we_seq ?_; refine wc_sr ?_; refine wl_mv rfl rfl ?_; refine wl_mv rfl rfl ?_; refine wl_mv rfl rfl ?_
  refine wl_call ok_caissonref08_Seek (hse8 _ (OwR.rd (hs.rsE 3 rfl)) trivial (by omega) (rk.below hs.bel) trivial (by simp only [maxLen]; omega) (fun x h => by have := hok2 x h; simp only [maxLen]; omega)) ⟨rfl, rfl, rfl, trivial⟩ rfl ?_
  rintro _ w8 ⟨⟨X2, cx2, Y2, cy2, rfl, q3, q4⟩, hbx⟩
  replace hs := hs.below hbx
  replace q1 := q1.below hbx
  replace q2 := q2.below hbx
  clear hbx
  refine wl_mv rfl rfl ?_; apply wl_val; apply opv_extract; exact rfl; exact rfl; exact rfl; apply wl_val; apply opv_extract; exact rfl; exact rfl; exact rfl
  refine wl_var (cs := enV z X2 cx2 Y2 cy2) zeroE sE rfl (fun _ => rfl) rfl rfl fun g14 w9 hg14 a14 hbx => ?_
  replace hs := hs.newA hbx hg14 a14
  replace q1 := q1.below hbx
  replace q2 := q2.below hbx
  replace q3 := q3.below hbx
  replace q4 := q4.below hbx
  clear hbx hg14 a14
  have hbb : (ib = ib) = True := by simp
  refine wl_as rfl rfl ?_; refine wl_ns ?_; refine wc_sr ?_; refine wl_mv rfl rfl ?_; refine wl_mv rfl rfl ?_; apply wl_val; apply opv_bin; exact rfl; exact rfl; exact bin_eqlB tyBool; exact rfl; refine wl_mv rfl rfl ?_; apply wl_take; exact rfl; exact rfl; exact rfl; refine bT ?_; (with_reducible rfl); apply wl_val; apply opv_loadX; exact rfl; exact hs.ar 1 rfl; exact sE; exact rfl; apply wl_take; exact rfl; exact rfl; exact rfl; refine bT ?_; (with_reducible rfl); apply wl_val; apply opv_loadX; exact rfl; exact hs.ar 0 rfl; exact sE; exact rfl; apply wl_take; exact rfl; exact rfl; exact rfl; refine bT ?_; (with_reducible rfl)
  refine wl_call ok_caissonref07_Same (sameE_any (x := z) (y := z) q1 q2 q3 q4 (by simp only [maxLen]; omega) (by simp only [maxLen]; omega)) ⟨rfl, rfl, trivial⟩ rfl ?_
  rintro _ w10 ⟨⟨q, rfl, hq⟩, hbx⟩
  obtain rfl := hq.2 rfl
  replace hs := hs.below hbx
  apply wl_val; apply opv_pickT; exact rfl; refine bT ?_; (with_reducible rfl); exact rfl; exact rfl; refine wl_as rfl rfl ?_; refine wl_ns ?_; refine wc_ret ?_
  exact we_ret1 rfl rfl ⟨_, rfl, rfl, hs.bel⟩
end Go.Proofs.Ytojncfdlddepdaa


/-
  Bytes of one's own that are turned over; twins of lists whose entries lie apart.
-/
namespace Go.Proofs.Ytojncfdlddepdaa
open Go.RowKit

theorem bvs_setO (l : List UInt8) (i : Nat) (b : UInt8) : (bvs l).set i (bv b) = bvs (l.set i b) := by rw [bvs, bvs, List.map_set]
/-- Bytes of one's own, whatever they are. -/
def jk (A : Option Addr) (n c : Nat) : Ck := ⟨fun w S => ∃ xs : List UInt8, xs.length = n ∧ (Cd.ow 5 A n c (bvs xs)).P w S, fun ⟨xs, h, h2⟩ hz hm => ⟨xs, h, Cd.move (c := .ow 5 _ _ _ (bvs xs)) h2 hz hm⟩⟩
theorem jk_of {A : Option Addr} {c : Nat} {xs : List UInt8} {w : World} {S : BS} (h : (Cd.ow 5 A xs.length c (bvs xs)).P w S) : (jk A xs.length c).P w S := ⟨xs, rfl, h⟩
theorem mem_perm {α : Type} {a : α} {l : List α} (h : a ∈ l) : ∃ r, l.Perm (a :: r) := by
  obtain ⟨s, t, rfl⟩ := List.append_of_mem h
  exact ⟨s ++ t, List.perm_middle⟩
/-- Two new rows of bytes. -/
theorem St.two {w w' : World} {A B : Option Addr} {n c m d : Nat} {xs ys : List Value} (hb : Below w.heap.size w w') (h1 : Ow w' w.heap.size 5 A n c xs) (h2 : Ow w' w.heap.size 5 B m d ys) (hne : ∀ a b, A = some a → B = some b → a.block ≠ b.block) : St NoB w w' [.ow 5 A n c xs, .ow 5 B m d ys] :=
  ⟨Mod.of_below hb _, fun b => ∃ a, A = some a ∧ b = a.block, fun b ⟨a, ha, hb⟩ => .inr (by rw [hb]; exact (Ow.lt h1 a ha).1), ⟨fun a ha => ⟨a, ha, rfl⟩, h1.mono (Nat.zero_le _)⟩,
    fun b => ∃ a, B = some a ∧ b = a.block, fun b ⟨a, ha, hb⟩ => ⟨.inr (by rw [hb]; exact (Ow.lt h2 a ha).1), fun ⟨a', ha', hb'⟩ => hne a' a ha' ha (by rw [← hb', hb])⟩, ⟨fun a ha => ⟨a, ha, rfl⟩, h2.mono (Nat.zero_le _)⟩, trivial⟩
theorem twin2_any {x : En} {A B : Option Addr} {c d : Nat} {w : World} (rx : RdB w A x.key) (rx2 : RdB w B x.val) (hl : x.key.length ≤ 140737488355328) (hl2 : x.val.length ≤ 140737488355328) :
    CallsV Try.prog 41 #[.agg (enV x A c B d).toArray] w (RetE2 w x) :=
  (twinE_any rx rx2 hl hl2).mono fun v w' ⟨C, e, D, f, hv, h1, h2, h3, hb⟩ => ⟨C, e, D, f, hv, St.two hb h1 h2 h3⟩
/-- Twins of entries, each in memory that lies apart. -/
def RetEs2 (w : World) (l : List En) (v : Value) (w' : World) : Prop := ∃ (A : Option Addr) (c : Nat), v = .slice A l.length c ∧ St NoB w w' [.ck (rsC 4 38 A c (l.map oE))]
theorem twins3_any {A : Option Addr} {n c : Nat} {l : List En} {w : World} (hr : RdR 4 w All A (l.map enEl)) (hn : l.length = n) (hok : ∀ x ∈ l, x.key.length ≤ 140737488355328 ∧ x.val.length ≤ 140737488355328) (hl : l.length ≤ 1099511627776) :
    CallsV Try.prog 17 #[.slice A n c] w (RetEs2 w l) := by
  subst hn
  have hmax : maxLen = 9223372036854775807 := rfl
  have hs := (St.init w).nilS 4 38
  refine calls_in (N := _) Try.func17 rfl Try.ntmps17 rfl ?_; show WC _ _ _ _ _ _
  refine wc_sr ?_; refine wl_as rfl rfl ?_; refine wl_ns ?_; refine wc_sr ?_; refine wl_as rfl rfl ?_; refine wl_ns ?_; refine wc_seq ?_; refine wc_sr ?_; refine wl_as rfl rfl ?_; refine wl_ns ?_; refine wc_block ?_
  refine wc_loop (fun L wr m => ∃ (k : Nat) (P : Option Addr) (cp : Nat), L = [(0, .slice A l.length c), (3, .slice P k cp), (4, .int .i64 (k : Int))] ∧ k ≤ l.length ∧ St NoB w wr [.ck (rsC 4 38 P cp ((l.take k).map oE))] ∧ m = l.length - k)
    [(0, .slice A l.length c), (3, .slice none 0 0), (4, .int .i64 (0 : Nat))] l.length ⟨0, none, 0, rfl, by omega, hs, rfl⟩ ⟨rfl, rfl, rfl, trivial⟩ ?_
  clear hs
  rintro _ w1 m ⟨k, P, cp, rfl, hk, hs, rfl⟩
  refine wc_seq ?_; refine wc_sr ?_; refine wl_mv rfl rfl ?_; refine wl_mv rfl rfl ?_; apply wl_val; apply opv_len; exact rfl; exact tkE.sl; exact rfl; refine wl_bin rfl rfl bin_lss rfl ?_; refine wl_ns ?_
  refine wc_cond rfl (fun h1 => ?_) (fun h1 => ?_)
  · obtain ⟨x, hx⟩ : ∃ x, l[k]? = some x := ⟨_, List.getElem?_eq_getElem (by omega)⟩
    have hox := hok x (List.mem_of_getElem? hx)
    obtain ⟨b, o, cs, rfl, _, _, hp, i1⟩ := RdR.at (k := 4) (by decide) hr (E := enEl x) (i := k) (by rw [List.getElem?_map, hx]; rfl)
    obtain ⟨X, cx, Y, cy, rfl, rx, _, ry, _⟩ := enEl.rd hp
    replace i1 := i1.below hs.bel
    refine wc_skip ?_; refine we_seq ?_; refine wc_seq ?_; refine wc_block ?_; refine wc_region ?_; refine wl_mv rfl rfl ?_; refine wl_mv rfl rfl ?_; refine wl_mv rfl rfl ?_; apply wl_val; apply opv_idxG tkE; exact rfl; exact rfl; exact rfl; omega; exact rfl; apply wl_val; apply opv_ldG; exact rfl; assumption; exact sE; exact rfl
    refine wl_call ok_caissonref07_Twin (twin2_any (x := x) (rx.below hs.bel) (ry.below hs.bel) hox.1 hox.2) ⟨rfl, trivial⟩ rfl ?_
    rintro _ w2 ⟨C, e, D, f, rfl, hsx⟩
    replace hs := ((hs.call hsx).pack (H1 := enOw x C e D f) (.ce (oE x) (enV x C e D f)) oE_of).front 1 rfl
    dsimp only [delC] at hs
    refine ws_pushS hs tkE (fun _ => rfl) (by simp; omega) ⟨_, rfl, rfl⟩ rfl rfl (by decide) (by omega) (by simp only [maxLen]; omega) rfl rfl ?_; clear hs; intro _ R2 c2 _ hs
    refine wl_as rfl rfl ?_; refine wl_nil ?_; refine we_block_norm ?_; refine we_seq ?_; refine wc_region ?_; refine wl_mv rfl rfl ?_; apply wl_val; apply opv_bin; exact rfl; exact rfl; exact bin_add64 (by omega); exact rfl; refine wl_as rfl rfl ?_; refine wl_nil ?_
    refine we_loop _ (l.length - (k + 1)) ⟨k + 1, R2, c2, rfl, by omega, by rw [take_getR hx]; simpa using hs, rfl⟩ (by omega) ⟨rfl, rfl, by simp [lookT], trivial⟩
  · obtain rfl : k = l.length := by omega
    rw [List.take_length] at hs
    refine wc_exit ?_; refine we_seq_exit ?_; refine we_loop_exit ?_; refine we_block_exit ?_; refine we_seq ?_; refine wc_sr ?_; refine wl_mv rfl rfl ?_; refine wl_as rfl rfl ?_; refine wl_ns ?_; refine wc_ret ?_
    exact we_ret1 rfl rfl ⟨_, rfl, P, cp, rfl, hs⟩
end Go.Proofs.Ytojncfdlddepdaa


/-
  Walk over the law BlockSeeks.
-/
namespace Go.Proofs.Ytojncfdlddepdaa
open Go.RowKit

def gtE (l : List En) (key : List UInt8) (m : Nat) : En := (getE l key m).getD noE
theorem refGet2_any {A K : Option Addr} {n c kc kn at' : Nat} {l : List En} {key : List UInt8} {w : World} (hr : RdR 4 w All A (l.map enEl)) (hn : l.length = n) (rk : RdB w K key) (hkn : key.length = kn) (hok : ∀ x ∈ l, x.key.length ≤ maxLen) (hl : l.length ≤ 4294967296) :
    CallsV Try.prog 18 #[.slice A n c, .slice K kn kc, .int .u64 (at' : Int)] w fun v w' => (∃ (X : Option Addr) (cx : Nat) (Y : Option Addr) (cy : Nat), v = .tuple #[.agg (enV (gtE l key at') X cx Y cy).toArray, .bool (getE l key at').isSome] ∧ RdB w' X (gtE l key at').key ∧ RdB w' Y (gtE l key at').val) ∧ Below w.heap.size w w' :=
  (getR_any hr hn rk hkn hok hl).mono fun v w' ⟨h, hb⟩ => ⟨by
    rw [gtE]
    cases hg : getE l key at' with
    | none => rw [hg] at h; exact ⟨none, 0, none, 0, h, Rd.nil _ _, Rd.nil _ _⟩
    | some x => rw [hg] at h; obtain ⟨X, cx, Y, cy, h⟩ := h; exact ⟨X, cx, Y, cy, h⟩, hb⟩
theorem gtE_mem {l : List En} {key : List UInt8} {m : Nat} : gtE l key m = noE ∨ gtE l key m ∈ l := by
  rw [gtE]
  cases hg : getE l key m with
  | none => exact .inl rfl
  | some x => exact .inr (List.mem_of_find?_eq_some hg)
/-- The first entry that is not ahead of a key's moment is the version at that moment, or of another key. -/
theorem sek_get {key : List UInt8} {m : Nat} : ∀ {l : List En}, Ord l → getE l key m = match sekE l ⟨key, m, 0, []⟩ with
    | some x => if x.key = key then some x else none
    | none => none
  | [], _ => rfl
  | a :: l, ho => by
    obtain ⟨h1, h2⟩ := List.pairwise_cons.1 ho
    have ih := sek_get (key := key) (m := m) h2
    rw [getE] at ih ⊢
    rw [sekE] at ih ⊢
    cases hl : lessE a ⟨key, m, 0, []⟩ with
    | true =>
      have hne : ¬ (a.key = key ∧ a.seq ≤ m) := fun ⟨e1, e2⟩ => by
        rcases lessE_iff.1 hl with h | ⟨_, h⟩
        · rw [show cmpB a.key (⟨key, m, 0, []⟩ : En).key = cmpB key key by rw [e1]] at h
          rw [cmp_refl] at h; omega
        · exact absurd h (Nat.not_lt.2 e2)
      rw [List.find?_cons, decide_eq_false hne, List.find?_cons, hl]
      exact ih
    | false =>
      rw [List.find?_cons (p := fun x => !lessE x ⟨key, m, 0, []⟩), hl]
      rw [Bool.not_false]
      show _ = if a.key = key then some a else none
      by_cases hk : a.key = key
      · have hm : a.seq ≤ m := by
          rcases Nat.lt_or_ge m a.seq with h | h
          · rw [lessE_iff.2 (.inr ⟨hk, h⟩)] at hl; cases hl
          · exact h
        rw [if_pos hk, List.find?_cons, decide_eq_true ⟨hk, hm⟩]
      · rw [if_neg hk, List.find?_cons, decide_eq_false fun h => hk h.1]
        refine List.find?_eq_none.2 fun x hx => ?_
        rw [decide_eq_true_eq]
        rintro ⟨e1, e2⟩
        have hax := h1 x hx
        rcases lessE_iff.1 hax with h | ⟨h, _⟩
        · rw [lessE_iff.2 (.inl (by rw [← e1]; exact h))] at hl; cases hl
        · exact hk (h.trans e1)
theorem sorted_mem8 {l : List En} {p : En → Prop} (h : ∀ x ∈ l, p x) : (sortedE l).length ≤ l.length ∧ ∀ x ∈ sortedE l, p x := by
  have := fold_facts h l.length
  rw [List.take_length] at this
  exact this
set_option maxRecDepth 8000 in
theorem seeks_any {A K : Option Addr} {n c kn kc : Nat} {ev : Int} {l0 : List En} {key : List UInt8} {w : World} (hev : -9223372036854775808 ≤ ev ∧ ev ≤ 9223372036854775807) (hr : RdR 4 w All A (l0.map enEl)) (hn : l0.length = n) (hc : n ≤ c) (hsq : ∀ x ∈ l0, x.seq < 2 ^ 64) (hl : sumB enB l0 ≤ 1048576) (rk : RdB w K key) (hkn : key.length = kn) (_hkc : key.length ≤ kc) (hkl : key.length ≤ 1048576) :
    CallsV Try.prog 5 #[.int .i64 ev, .slice A n c, .slice K kn kc] w (RetTr w) := by
  obtain ⟨hl1, hok1⟩ := ent_small hl
  subst hkn
  have hs := St.init w
  refine calls_in (N := _) Try.func5 rfl Try.ntmps5 rfl ?_; show WC _ _ _ _ _ _
  refine wc_sr ?_; refine wl_as rfl rfl ?_; refine wl_ns ?_; refine wc_seq ?_; refine wc_sr ?_
  refine wl_call ok_caissonlaw08_awake awake8_any trivial rfl ?_
  rintro _ w1 ⟨rfl, hbx⟩
  replace hs := hs.below hbx
  clear hbx
  apply wl_val; apply opv_not; exact rfl; exact rfl; refine wl_ns ?_; apply wc_condFb; exact rfl; exact Bool.not_true; refine wc_skip ?_; refine we_seq ?_; refine wc_seq ?_; refine wc_sr ?_; refine wl_mv rfl rfl ?_; apply wl_val; apply opv_len; exact rfl; exact tkE.sl; exact rfl; refine wl_bin rfl rfl bin_gtr rfl ?_; refine wl_ns ?_
  refine wc_cutE (fun L' w' => L' = [(0, .int .i64 ev), (1, .slice A (l0.take 40).length c), (2, .slice K key.length kc)] ∧ w' = w1) ?_ ?_
  · by_cases h : 40 < n
    · have h' : (n : Int) > 40 := by omega
      apply wc_decT; exact rfl; (with_reducible assumption); refine wc_region ?_; refine wl_mv rfl rfl ?_
      refine wl_slK (l := 0) (h := 40) tkE rfl rfl ⟨_, rfl⟩ (by omega) (by omega) rfl ?_
      rw [cutK_zero]
      refine wl_as rfl rfl ?_; refine wl_nil ?_
      exact we_cut _ ⟨rfl, rfl⟩ ⟨rfl, congrArg some (slice_eq (by simp; omega)), rfl, trivial⟩
    · have h' : ¬ (n : Int) > 40 := by omega
      apply wc_decF; exact rfl; (with_reducible assumption); refine wc_skip ?_
      exact we_cut _ ⟨rfl, rfl⟩ ⟨rfl, congrArg some (slice_eq (by simp; omega)), rfl, trivial⟩
  rintro _ _ ⟨rfl, rfl⟩
  refine we_seq ?_
  have hr2 := take_rdr (m := 40) hr (by omega)
  have hokA : ∀ x ∈ l0.take 40, (x.key.length ≤ 1048576 ∧ x.val.length ≤ 1048576) ∧ x.seq < 2 ^ 64 := fun x hx => ⟨hok1 x (few_mem hx), hsq x (few_mem hx)⟩
  have hlen : (l0.take 40).length ≤ 40 := by rw [List.length_take]; omega
  obtain ⟨k, hk'⟩ : ∃ q, l0.take 40 = q := ⟨_, rfl⟩
  rw [hk'] at hr2 hokA hlen
  rw [hk']
  clear hr hok1 hsq hk'
  refine wc_sr ?_; refine wl_mv rfl rfl ?_
  refine wl_call ok_caissonref07_Sorted (sorted_any (hr2.below hs.bel) rfl (fun x hx => by have := (hokA x hx).1; simp only [maxLen]; omega) (by omega)) ⟨rfl, trivial⟩ rfl ?_
  rintro _ w2 ⟨P, cp, rfl, hcp, hl2, hbx2⟩
  obtain ⟨hsl, hsm⟩ := sorted_mem8 hokA
  obtain ⟨hord, hchk⟩ := sorted_ok k
  obtain ⟨l, hld⟩ : ∃ q, sortedE k = q := ⟨_, rfl⟩
  rw [hld] at hl2 hsl hsm hord hchk hcp
  rw [hld]
  have hbw2 := hs.bel.trans (hbx2.mono hs.size)
  have hl3 : RdR 4 w2 All P (l.map enEl) := RdR.mono (by decide) hl2 fun _ _ _ => trivial
  replace hs := St.init w2
  replace rk := rk.below hbw2
  have hend : ∀ {wr : World}, Below w2.heap.size w2 wr → Below w.heap.size w wr := fun hb => hbw2.trans (hb.mono hbw2.size)
  have hmx : ∀ x ∈ l, x.key.length ≤ 1048576 ∧ x.val.length ≤ 1048576 := fun x hx => (hsm x hx).1
  clear hl2 hbx2 hld hr2 hokA
  refine wl_as rfl rfl ?_; refine wl_ns ?_; refine wc_seq ?_; refine wc_sr ?_; refine wl_mv rfl rfl ?_; refine wl_bin rfl rfl bin_lss rfl ?_; refine wl_ns ?_
  obtain ⟨every, he1, he2, hev2⟩ : ∃ e : Nat, 0 < e ∧ e ≤ 9223372036854775807 ∧ (e : Int) = if ev < 1 then 1 else ev := by
    by_cases h : ev < 1
    · exact ⟨1, by omega, by omega, by rw [if_pos h]; rfl⟩
    · exact ⟨ev.toNat, by omega, by omega, by rw [if_neg h]; omega⟩
  refine wc_cutE (fun L' w' => L' = [(0, .int .i64 (every : Int)), (1, .slice P l.length cp), (2, .slice K key.length kc)] ∧ w' = w2) ?_ ?_
  · rw [hev2]
    by_cases h : ev < 1
    · rw [if_pos h]
      apply wc_decT; exact rfl; (with_reducible assumption); refine wc_region ?_; refine wl_as rfl rfl ?_; refine wl_nil ?_
      exact we_cut _ ⟨rfl, rfl⟩ ⟨rfl, rfl, rfl, trivial⟩
    · rw [if_neg h]
      apply wc_decF; exact rfl; (with_reducible assumption); refine wc_skip ?_
      exact we_cut _ ⟨rfl, rfl⟩ ⟨rfl, rfl, rfl, trivial⟩
  rintro _ w2 ⟨rfl, rfl⟩
  refine we_seq ?_
  have hz2 : Siz2 l := fun x hx => by have := hmx x hx; exact ⟨by omega, by omega, (hsm x hx).2⟩
  refine wc_sr ?_; refine wl_mv rfl rfl ?_; refine wl_mv rfl rfl ?_
  refine wl_call ok_caissonref07_Twins (twins3_any (l := l) (hl3.below hs.bel) rfl (fun x h => by have := hmx x h; omega) (by omega)) ⟨rfl, trivial⟩ rfl ?_
  rintro _ w3 ⟨D, d, rfl, hsx⟩
  replace hs := hs.call hsx
  clear hsx
  dsimp only [List.cons_append, List.nil_append] at hs
  skip
  refine wl_call ok_block_Build (blkBuild_any (l := l) he1 he2 (OwR.rd (hs.rsE 0 rfl)) rfl (by omega) hz2) ⟨rfl, rfl, trivial⟩ rfl ?_
  have hck0 := check_of hchk
  have hor0 := ordE_of hord
  by_cases hbig : 1048576 < (blkB every l).length
  · have hbd : buildB every l = ([], 2) := by
      rw [buildB, hck0, if_neg (by omega), sealB, if_pos hbig]; rfl
    rw [hbd]
    rintro _ w6 ⟨BA, bc, rfl, oB, hbx⟩
    replace hs := hs.below hbx
    dsimp only
    have h2 : ((2 : Nat) : Int) = 2 := rfl
    refine wl_mv rfl rfl ?_; apply wl_val; apply opv_extract; exact rfl; exact rfl; exact rfl; apply wl_val; apply opv_extract; exact rfl; exact rfl; exact rfl; refine wl_as rfl rfl ?_; refine wl_as rfl rfl ?_; refine wl_ns ?_; refine wc_seq ?_; refine wc_sr ?_; refine wl_mv rfl rfl ?_; refine wl_bin rfl rfl bin_neq rfl ?_; refine wl_ns ?_; apply wc_condTb; exact rfl; exact rfl; refine wc_sr ?_; refine wl_mv rfl rfl ?_; refine wl_bin rfl rfl bin_eql rfl ?_; refine wl_as rfl rfl ?_; refine wl_ns ?_; refine wc_ret ?_; refine we_seq_ret ?_
    exact we_ret1 rfl rfl ⟨_, rfl, rfl, hend hs.1.below⟩
  obtain ⟨hbd, hdc⟩ := dec_build he1 hz2.siz hck0 hor0 (by omega)
  rw [hbd]
  obtain ⟨bs, hbs⟩ : ∃ q, crcRec (blkB every l) = q := ⟨_, rfl⟩
  rw [hbs] at hbd hdc
  rw [hbs]
  rintro _ w6 ⟨BA, bc, rfl, oB, hbx⟩
  replace hs := (hs.newN hbx oB).drop 1 rfl
  clear oB hbx
  dsimp only [delC] at hs ⊢
  have hbl : bs.length ≤ 1048584 := by rw [← hbs, crcRec_length]; omega
  have h00' : ((0 : Nat) : Int) = 0 := rfl
  refine wl_mv rfl rfl ?_; apply wl_val; apply opv_extract; exact rfl; exact rfl; exact rfl; apply wl_val; apply opv_extract; exact rfl; exact rfl; exact rfl; refine wl_as rfl rfl ?_; refine wl_as rfl rfl ?_; refine wl_ns ?_; refine wc_seq ?_; refine wc_sr ?_; refine wl_mv rfl rfl ?_; refine wl_bin rfl rfl bin_neq rfl ?_; refine wl_ns ?_; apply wc_condFb; exact rfl; exact rfl; refine wc_skip ?_; refine we_seq ?_; refine wc_seq ?_; refine wc_sr ?_
  refine ws_bs (vs := u64s [0, 1, 4, 18446744073709551615]) hs tyQ ⟨rfl, rfl, rfl, rfl, rfl, rfl, rfl, rfl, rfl, rfl, rfl, rfl, trivial⟩ rfl (by decide) rfl ?_
  clear hs; intro E0 w7 hs
  obtain ⟨ks, hks⟩ : ∃ q : List Nat, [0, 1, 4, 18446744073709551615] = q := ⟨_, rfl⟩
  have hk4 : ks.length = 4 := by rw [← hks]; rfl
  rw [hks] at hs
  clear hks
  apply wl_val; apply opv_len; exact rfl; exact tyQ.sl; exact rfl; refine wl_mv rfl rfl ?_; refine wl_ns ?_; refine wc_block ?_
  refine wc_loop (fun L wr mm => ∃ (j : Nat), L = [(1, .slice P l.length cp), (2, .slice K key.length kc), (7, .slice BA bs.length bc), (38, .slice E0 4 4), (39, .int .i64 4), (40, .int .i64 (j : Int))] ∧ j ≤ 4 ∧ St NoB w2 wr [.ow 33 E0 4 4 (u64s ks), .ck (nwC BA bc bs)] ∧ mm = 4 - j)
    [(1, .slice P l.length cp), (2, .slice K key.length kc), (7, .slice BA bs.length bc), (38, .slice E0 4 4), (39, .int .i64 4), (40, .int .i64 (0 : Nat))] 4 ⟨0, rfl, by omega, hs, rfl⟩ ⟨rfl, rfl, rfl, rfl, rfl, rfl, trivial⟩ ?_
  clear hs
  rintro _ w8 mm ⟨j, rfl, hj, hs, rfl⟩
  refine wc_sr ?_; refine wl_bin rfl rfl bin_lss rfl ?_; refine wl_ns ?_; refine wc_seq ?_
  refine wc_cond rfl (fun h2 => ?_) (fun h2 => ?_)
  · obtain ⟨m, hmj⟩ : ∃ m, ks[j]? = some m := ⟨_, List.getElem?_eq_getElem (by omega)⟩
    have hu := u64s_get hmj
    have hrow := (hs.ow 0 rfl).rd
    refine wc_skip ?_; refine we_seq ?_; refine wc_seq ?_; refine wc_block ?_; refine wc_sr ?_; apply wl_elK (T := tyQ) (hr := hrow) (hb := hu); exact rfl; exact rfl; exact rfl; exact rfl; exact rfl; intro _; refine wl_as rfl rfl ?_; refine wl_ns ?_; refine wc_sr ?_; refine wl_mv rfl rfl ?_; refine wl_mv rfl rfl ?_
    clear hrow
    have hj1 : ((j + 1 : Nat) : Int) = (j : Int) + 1 := by omega
    refine wl_call ok_caissonref01_Copy (copy_any (rk.below hs.bel) rfl (by omega)) ⟨rfl, trivial⟩ rfl ?_; rintro _ _ ⟨C1, c1, rfl, o_, hbx⟩; replace hs := hs.newO hbx o_ (Nat.le_refl _); try dsimp only [List.cons_append, List.nil_append, setC, delC] at hs
    refine wl_mv rfl rfl ?_
    obtain ⟨hbr, hbc⟩ := hs.nw 2 rfl
    refine wl_call ok_block_Seek (bseek_any (m := m) hbr rfl hbc (by omega) (hs.ow 0 rfl).rd rfl) ⟨rfl, rfl, rfl, trivial⟩ rfl ?_
    clear hbr hbc
    have hsg := sek_get (key := key) (m := m) hord
    have hsk : sekB bs ⟨key, m, 0, []⟩ = ((sekE l ⟨key, m, 0, []⟩).getD noE, (sekE l ⟨key, m, 0, []⟩).isSome, 0) := by rw [sekB, hdc]; rfl
    rw [hsk]
    clear hsk
    cases hse : sekE l ⟨key, m, 0, []⟩ with
    | none =>
      rw [hse] at hsg
      dsimp only at hsg
      have hgt : gtE l key m = noE := by rw [gtE, hsg]; rfl
      rintro _ w9 ⟨⟨X, cx, Y, cy, rfl, q1, q2⟩, hbx⟩
      replace hs := hs.below hbx
      clear hbx
      dsimp only [Option.getD_some, Option.isSome_some, Option.getD_none, Option.isSome_none] at q1 q2 ⊢
      refine wl_mv rfl rfl ?_; apply wl_val; apply opv_extract; exact rfl; exact rfl; exact rfl; apply wl_val; apply opv_extract; exact rfl; exact rfl; exact rfl; apply wl_val; apply opv_extract; exact rfl; exact rfl; exact rfl
      refine wl_var (cs := enV noE X cx Y cy) zeroE sE rfl (fun _ => rfl) rfl rfl fun g11 w10 hg11 a11 hbx => ?_
      replace hs := hs.newA hbx hg11 a11
      replace q1 := q1.below hbx
      replace q2 := q2.below hbx
      clear hbx hg11 a11
      refine wl_as rfl rfl ?_; refine wl_as rfl rfl ?_; refine wl_ns ?_; refine wc_sr ?_; refine wl_mv rfl rfl ?_; refine wl_mv rfl rfl ?_; refine wl_mv rfl rfl ?_
      refine wl_call ok_caissonref07_Get (refGet2_any (at' := m) (hl3.below hs.bel) rfl (rk.below hs.bel) rfl (fun x h => by have := hmx x h; simp only [maxLen]; omega) (by omega)) ⟨rfl, rfl, rfl, trivial⟩ rfl ?_
      rw [hsg, hgt]
      rintro _ w11 ⟨⟨X2, cx2, Y2, cy2, rfl, q3, q4⟩, hbx⟩
      replace hs := hs.below hbx
      replace q1 := q1.below hbx
      replace q2 := q2.below hbx
      clear hbx
      dsimp only [Option.isSome_some, Option.isSome_none]
      refine wl_mv rfl rfl ?_; apply wl_val; apply opv_extract; exact rfl; exact rfl; exact rfl; apply wl_val; apply opv_extract; exact rfl; exact rfl; exact rfl
      refine wl_var (cs := enV noE X2 cx2 Y2 cy2) zeroE sE rfl (fun _ => rfl) rfl rfl fun g14 w12 hg14 a14 hbx => ?_
      replace hs := hs.newA hbx hg14 a14
      replace q1 := q1.below hbx
      replace q2 := q2.below hbx
      replace q3 := q3.below hbx
      replace q4 := q4.below hbx
      clear hbx hg14 a14
      refine wl_as rfl rfl ?_; refine wl_ns ?_; refine wc_sr ?_; refine wl_mv rfl rfl ?_; refine wl_bin rfl rfl bin_neq rfl ?_; refine wl_mv rfl rfl ?_; apply wl_take; exact rfl; exact rfl; exact rfl; refine bF ?_; omega; refine wl_mv rfl rfl ?_; apply wl_take; exact rfl; exact rfl; exact rfl; refine bF ?_; omega; refine wl_mv rfl rfl ?_; apply wl_skip; exact rfl; exact rfl; exact rfl; exact bR2; exact rfl; apply wl_skip; exact rfl; exact rfl; exact rfl; exact bR2; exact rfl; apply wl_skip; exact rfl; exact rfl; exact rfl; exact bR2; exact rfl; apply wl_skip; exact rfl; exact rfl; exact rfl; exact bR2; exact rfl; apply wl_take; exact rfl; exact rfl; exact rfl; refine bF ?_; omega; apply wl_val; apply opv_pickF; exact rfl; exact rfl; exact rfl; exact rfl; apply wl_val; apply opv_pickF; exact rfl; refine bF ?_; omega; exact rfl; exact rfl; refine wl_mv rfl rfl ?_; apply wl_take; exact rfl; exact rfl; exact rfl; exact rfl; refine wl_mv rfl rfl ?_; apply wl_take; exact rfl; exact rfl; exact rfl; exact rfl; apply wl_val; apply opv_not; exact rfl; exact rfl; apply wl_take; exact rfl; exact rfl; exact rfl; exact rfl; refine wl_mv rfl rfl ?_; apply wl_take; exact rfl; exact rfl; exact rfl; exact Bool.not_false; refine wl_mv rfl rfl ?_; apply wl_take; exact rfl; exact rfl; exact rfl; exact rfl; apply wl_val; apply opv_pickT; exact rfl; exact Bool.not_false; exact rfl; exact rfl; apply wl_take; exact rfl; exact rfl; exact rfl; exact rfl; refine wl_mv rfl rfl ?_; apply wl_skip; exact rfl; exact rfl; exact rfl; exact bR2; exact rfl; apply wl_skip; exact rfl; exact rfl; exact rfl; exact bR2; exact rfl; apply wl_skip; exact rfl; exact rfl; exact rfl; exact bR2; exact rfl; apply wl_skip; exact rfl; exact rfl; exact rfl; exact bR2; exact rfl; apply wl_take; exact rfl; exact rfl; exact rfl; exact rfl; apply wl_val; apply opv_pickF; exact rfl; exact rfl; exact rfl; exact rfl; apply wl_val; apply opv_pickF; exact rfl; exact rfl; exact rfl; exact rfl; refine wl_ns ?_; apply wc_condFb; exact rfl; exact rfl; refine wc_skip ?_; refine we_block_norm ?_; refine we_seq ?_; refine wc_region ?_; apply wl_val; apply opv_bin; exact rfl; exact rfl; exact bin_add64 (by omega); exact rfl; refine wl_mv rfl rfl ?_; refine wl_nil ?_
      exact we_loop _ (4 - (j + 1)) ⟨j + 1, rfl, by omega, ((hs.drop 0 rfl).drop 0 rfl).drop 0 rfl, rfl⟩ (by omega) ⟨rfl, rfl, rfl, rfl, rfl, by simp [lookT], trivial⟩
    | some z =>
      rw [hse] at hsg
      dsimp only at hsg
      have hzm := hmx z (List.mem_of_find?_eq_some hse)
      by_cases hzk : z.key = key
      case neg =>
        rw [if_neg hzk] at hsg
        have hgt : gtE l key m = noE := by rw [gtE, hsg]; rfl
        rintro _ w9 ⟨⟨X, cx, Y, cy, rfl, q1, q2⟩, hbx⟩
        replace hs := hs.below hbx
        clear hbx
        dsimp only [Option.getD_some, Option.isSome_some, Option.getD_none, Option.isSome_none] at q1 q2 ⊢
        refine wl_mv rfl rfl ?_; apply wl_val; apply opv_extract; exact rfl; exact rfl; exact rfl; apply wl_val; apply opv_extract; exact rfl; exact rfl; exact rfl; apply wl_val; apply opv_extract; exact rfl; exact rfl; exact rfl
        refine wl_var (cs := enV z X cx Y cy) zeroE sE rfl (fun _ => rfl) rfl rfl fun g11 w10 hg11 a11 hbx => ?_
        replace hs := hs.newA hbx hg11 a11
        replace q1 := q1.below hbx
        replace q2 := q2.below hbx
        clear hbx hg11 a11
        refine wl_as rfl rfl ?_; refine wl_as rfl rfl ?_; refine wl_ns ?_; refine wc_sr ?_; refine wl_mv rfl rfl ?_; refine wl_mv rfl rfl ?_; refine wl_mv rfl rfl ?_
        refine wl_call ok_caissonref07_Get (refGet2_any (at' := m) (hl3.below hs.bel) rfl (rk.below hs.bel) rfl (fun x h => by have := hmx x h; simp only [maxLen]; omega) (by omega)) ⟨rfl, rfl, rfl, trivial⟩ rfl ?_
        rw [hsg, hgt]
        rintro _ w11 ⟨⟨X2, cx2, Y2, cy2, rfl, q3, q4⟩, hbx⟩
        replace hs := hs.below hbx
        replace q1 := q1.below hbx
        replace q2 := q2.below hbx
        clear hbx
        dsimp only [Option.isSome_some, Option.isSome_none]
        refine wl_mv rfl rfl ?_; apply wl_val; apply opv_extract; exact rfl; exact rfl; exact rfl; apply wl_val; apply opv_extract; exact rfl; exact rfl; exact rfl
        refine wl_var (cs := enV noE X2 cx2 Y2 cy2) zeroE sE rfl (fun _ => rfl) rfl rfl fun g14 w12 hg14 a14 hbx => ?_
        replace hs := hs.newA hbx hg14 a14
        replace q1 := q1.below hbx
        replace q2 := q2.below hbx
        replace q3 := q3.below hbx
        replace q4 := q4.below hbx
        clear hbx hg14 a14
        unfold enV at hs
        refine wl_as rfl rfl ?_; refine wl_ns ?_; refine wc_sr ?_; refine wl_mv rfl rfl ?_; refine wl_bin rfl rfl bin_neq rfl ?_; refine wl_mv rfl rfl ?_; apply wl_take; exact rfl; exact rfl; exact rfl; refine bF ?_; omega; refine wl_mv rfl rfl ?_; apply wl_take; exact rfl; exact rfl; exact rfl; refine bF ?_; omega; refine wl_mv rfl rfl ?_; apply wl_skip; exact rfl; exact rfl; exact rfl; exact bR2; exact rfl; apply wl_skip; exact rfl; exact rfl; exact rfl; exact bR2; exact rfl; apply wl_skip; exact rfl; exact rfl; exact rfl; exact bR2; exact rfl; apply wl_skip; exact rfl; exact rfl; exact rfl; exact bR2; exact rfl; apply wl_take; exact rfl; exact rfl; exact rfl; refine bF ?_; omega; apply wl_val; apply opv_pickF; exact rfl; exact rfl; exact rfl; exact rfl; apply wl_val; apply opv_pickF; exact rfl; refine bF ?_; omega; exact rfl; exact rfl; refine wl_mv rfl rfl ?_; apply wl_take; exact rfl; exact rfl; exact rfl; exact rfl; refine wl_mv rfl rfl ?_; apply wl_take; exact rfl; exact rfl; exact rfl; exact rfl; apply wl_val; apply opv_not; exact rfl; exact rfl; apply wl_take; exact rfl; exact rfl; exact rfl; exact rfl; refine wl_mv rfl rfl ?_; apply wl_take; exact rfl; exact rfl; exact rfl; exact Bool.not_false; refine wl_mv rfl rfl ?_; apply wl_take; exact rfl; exact rfl; exact rfl; exact rfl; apply wl_val; apply opv_pickT; exact rfl; exact Bool.not_false; exact rfl; exact rfl; apply wl_take; exact rfl; exact rfl; exact rfl; exact rfl; refine wl_mv rfl rfl ?_; apply wl_take; exact rfl; exact rfl; exact rfl; exact rfl; apply wl_val; apply opv_fa; exact fa_sE (by decide); exact rfl; exact rfl; apply wl_take; exact rfl; exact rfl; exact rfl; exact rfl; apply wl_val; apply opv_ldX; exact rfl; exact hs.ar 1 rfl; exact e1_by; exact rfl; exact rfl; apply wl_take; exact rfl; exact rfl; exact rfl; exact rfl; refine wl_mv rfl rfl ?_; apply wl_take; exact rfl; exact rfl; exact rfl; exact rfl
        refine wl_call ok_caissonref01_Equal (equal_any (xs := z.key) (ys := key) q1 (rk.below hs.bel) rfl rfl (by simp only [maxLen]; omega)) ⟨rfl, rfl, trivial⟩ rfl ?_
        rintro _ w13 ⟨rfl, hbx⟩
        replace hs := hs.below hbx
        clear hbx
        rw [decide_eq_false hzk]
        apply wl_take; exact rfl; exact rfl; exact rfl; exact rfl; apply wl_val; apply opv_pickT; exact rfl; exact rfl; exact rfl; exact rfl; apply wl_val; apply opv_pickF; exact rfl; exact rfl; exact rfl; exact rfl; refine wl_ns ?_; apply wc_condFb; exact rfl; exact rfl; refine wc_skip ?_; refine we_block_norm ?_; refine we_seq ?_; refine wc_region ?_; apply wl_val; apply opv_bin; exact rfl; exact rfl; exact bin_add64 (by omega); exact rfl; refine wl_mv rfl rfl ?_; refine wl_nil ?_
        exact we_loop _ (4 - (j + 1)) ⟨j + 1, rfl, by omega, ((hs.drop 0 rfl).drop 0 rfl).drop 0 rfl, rfl⟩ (by omega) ⟨rfl, rfl, rfl, rfl, rfl, by simp [lookT], trivial⟩
      case pos =>
        rw [if_pos hzk] at hsg
        have hgt : gtE l key m = z := by rw [gtE, hsg]; rfl
        rintro _ w9 ⟨⟨X, cx, Y, cy, rfl, q1, q2⟩, hbx⟩
        replace hs := hs.below hbx
        clear hbx
        dsimp only [Option.getD_some, Option.isSome_some, Option.getD_none, Option.isSome_none] at q1 q2 ⊢
        refine wl_mv rfl rfl ?_; apply wl_val; apply opv_extract; exact rfl; exact rfl; exact rfl; apply wl_val; apply opv_extract; exact rfl; exact rfl; exact rfl; apply wl_val; apply opv_extract; exact rfl; exact rfl; exact rfl
        refine wl_var (cs := enV z X cx Y cy) zeroE sE rfl (fun _ => rfl) rfl rfl fun g11 w10 hg11 a11 hbx => ?_
        replace hs := hs.newA hbx hg11 a11
        replace q1 := q1.below hbx
        replace q2 := q2.below hbx
        clear hbx hg11 a11
        refine wl_as rfl rfl ?_; refine wl_as rfl rfl ?_; refine wl_ns ?_; refine wc_sr ?_; refine wl_mv rfl rfl ?_; refine wl_mv rfl rfl ?_; refine wl_mv rfl rfl ?_
        refine wl_call ok_caissonref07_Get (refGet2_any (at' := m) (hl3.below hs.bel) rfl (rk.below hs.bel) rfl (fun x h => by have := hmx x h; simp only [maxLen]; omega) (by omega)) ⟨rfl, rfl, rfl, trivial⟩ rfl ?_
        rw [hsg, hgt]
        rintro _ w11 ⟨⟨X2, cx2, Y2, cy2, rfl, q3, q4⟩, hbx⟩
        replace hs := hs.below hbx
        replace q1 := q1.below hbx
        replace q2 := q2.below hbx
        clear hbx
        dsimp only [Option.isSome_some, Option.isSome_none]
        refine wl_mv rfl rfl ?_; apply wl_val; apply opv_extract; exact rfl; exact rfl; exact rfl; apply wl_val; apply opv_extract; exact rfl; exact rfl; exact rfl
        refine wl_var (cs := enV z X2 cx2 Y2 cy2) zeroE sE rfl (fun _ => rfl) rfl rfl fun g14 w12 hg14 a14 hbx => ?_
        replace hs := hs.newA hbx hg14 a14
        replace q1 := q1.below hbx
        replace q2 := q2.below hbx
        replace q3 := q3.below hbx
        replace q4 := q4.below hbx
        clear hbx hg14 a14
        unfold enV at hs
        refine wl_as rfl rfl ?_; refine wl_ns ?_; refine wc_sr ?_; refine wl_mv rfl rfl ?_; refine wl_bin rfl rfl bin_neq rfl ?_; refine wl_mv rfl rfl ?_; apply wl_take; exact rfl; exact rfl; exact rfl; refine bF ?_; omega; refine wl_mv rfl rfl ?_; apply wl_take; exact rfl; exact rfl; exact rfl; refine bF ?_; omega; refine wl_mv rfl rfl ?_; apply wl_take; exact rfl; exact rfl; exact rfl; exact rfl; apply wl_val; apply opv_loadX; exact rfl; exact hs.ar 1 rfl; exact sE; exact rfl; apply wl_take; exact rfl; exact rfl; exact rfl; exact rfl; apply wl_val; apply opv_loadX; exact rfl; exact hs.ar 0 rfl; exact sE; exact rfl; apply wl_take; exact rfl; exact rfl; exact rfl; exact rfl
        refine wl_call ok_caissonref07_Same (sameE_any (x := z) (y := z) q1 q2 q3 q4 (by simp only [maxLen]; omega) (by simp only [maxLen]; omega)) ⟨rfl, rfl, trivial⟩ rfl ?_
        rintro _ w13 ⟨⟨q, rfl, hq⟩, hbx⟩
        obtain rfl := hq.2 rfl
        replace hs := hs.below hbx
        clear hbx hq
        apply wl_take; exact rfl; exact rfl; exact rfl; exact rfl; apply wl_val; apply opv_not; exact rfl; exact rfl; apply wl_take; exact rfl; exact rfl; exact rfl; refine bF ?_; omega; apply wl_val; apply opv_pickT; exact rfl; exact rfl; exact rfl; exact rfl; apply wl_val; apply opv_pickF; exact rfl; refine bF ?_; omega; exact rfl; exact rfl; refine wl_mv rfl rfl ?_; apply wl_take; exact rfl; exact rfl; exact rfl; exact Bool.not_true; refine wl_mv rfl rfl ?_; apply wl_take; exact rfl; exact rfl; exact rfl; exact Bool.not_true; apply wl_val; apply opv_not; exact rfl; exact rfl; apply wl_take; exact rfl; exact rfl; exact rfl; exact Bool.not_true; refine wl_mv rfl rfl ?_; apply wl_skip; exact rfl; exact rfl; exact rfl; exact rfl; exact rfl; apply wl_take; exact rfl; exact rfl; exact rfl; exact Bool.not_true; apply wl_val; apply opv_pickF; exact rfl; exact Bool.not_true; exact rfl; exact rfl; apply wl_take; exact rfl; exact rfl; exact rfl; exact Bool.not_true; refine wl_mv rfl rfl ?_; apply wl_skip; exact rfl; exact rfl; exact rfl; exact bR2; exact rfl; apply wl_skip; exact rfl; exact rfl; exact rfl; exact bR2; exact rfl; apply wl_skip; exact rfl; exact rfl; exact rfl; exact bR2; exact rfl; apply wl_skip; exact rfl; exact rfl; exact rfl; exact bR2; exact rfl; apply wl_take; exact rfl; exact rfl; exact rfl; exact Bool.not_true; apply wl_val; apply opv_pickF; exact rfl; exact rfl; exact rfl; exact rfl; apply wl_val; apply opv_pickF; exact rfl; exact Bool.not_true; exact rfl; exact rfl; refine wl_ns ?_; apply wc_condFb; exact rfl; exact rfl; refine wc_skip ?_; refine we_block_norm ?_; refine we_seq ?_; refine wc_region ?_; apply wl_val; apply opv_bin; exact rfl; exact rfl; exact bin_add64 (by omega); exact rfl; refine wl_mv rfl rfl ?_; refine wl_nil ?_
        exact we_loop _ (4 - (j + 1)) ⟨j + 1, rfl, by omega, ((hs.drop 0 rfl).drop 0 rfl).drop 0 rfl, rfl⟩ (by omega) ⟨rfl, rfl, rfl, rfl, rfl, by simp [lookT], trivial⟩
  · refine wc_exit ?_; refine we_seq_exit ?_; refine we_loop_exit ?_; refine we_block_exit ?_; refine we_seq ?_; refine wc_sr ?_; refine wl_as rfl rfl ?_; refine wl_ns ?_; refine wc_ret ?_
    exact we_ret1 rfl rfl ⟨_, rfl, rfl, hend hs.1.below⟩
end Go.Proofs.Ytojncfdlddepdaa


/-
  Plain laws of bursts: bits that are turned within 32 of one another are seen by the sum, in a record too. No program in sight.
-/
namespace Go.Proofs.Ytojncfdlddepdaa

theorem xor_lowk (q r k : Nat) (hr : r < 2 ^ k) : q * 2 ^ k ^^^ r = q * 2 ^ k + r := by
  have hp : 0 < 2 ^ k := Nat.two_pow_pos k
  have h1 : (q * 2 ^ k ^^^ r) / 2 ^ k = q := by
    have := Nat.shiftRight_xor_distrib (a := q * 2 ^ k) (b := r) (i := k)
    simp only [Nat.shiftRight_eq_div_pow] at this
    rw [Nat.mul_div_cancel _ hp, Nat.div_eq_of_lt hr, Nat.xor_zero] at this
    exact this
  have h2 : (q * 2 ^ k ^^^ r) % 2 ^ k = r := by
    have := Nat.xor_mod_two_pow (a := q * 2 ^ k) (b := r) (n := k)
    rw [Nat.mul_mod_left, Nat.zero_xor, Nat.mod_eq_of_lt hr] at this
    exact this
  have h3 := Nat.div_add_mod (q * 2 ^ k ^^^ r) (2 ^ k)
  rw [h1, h2, Nat.mul_comm] at h3
  exact h3.symm
theorem xor_mulp (a b p : Nat) : (a ^^^ b) * 2 ^ p = a * 2 ^ p ^^^ b * 2 ^ p := by
  have := Nat.shiftLeft_xor_distrib (a := a) (b := b) (i := p)
  simpa only [Nat.shiftLeft_eq] using this
theorem mask_step {n k p : Nat} (h : n / 2 ^ k % 2 = 1) : n % 2 ^ k * 2 ^ p ^^^ 2 ^ (p + k) = n % 2 ^ (k + 1) * 2 ^ p := by
  have e : n % 2 ^ (k + 1) = 1 * 2 ^ k ^^^ n % 2 ^ k := by
    rw [xor_lowk _ _ _ (Nat.mod_lt _ (Nat.two_pow_pos k)), Nat.mod_pow_succ, h, Nat.mul_one, Nat.one_mul, Nat.add_comm]
  rw [e, xor_mulp, Nat.one_mul, ← Nat.pow_add, Nat.add_comm k p, Nat.xor_comm]
theorem mask_keep {n k : Nat} (h : ¬ n / 2 ^ k % 2 = 1) : n % 2 ^ (k + 1) = n % 2 ^ k := by
  rw [Nat.mod_pow_succ, show n / 2 ^ k % 2 = 0 by omega, Nat.mul_zero, Nat.add_zero]
theorem burst_raw {l m : List UInt8} {n p : Nat} (hn : n < 4294967296) (h0 : n ≠ 0) (hlen : l.length = m.length) (hp : p ≤ 8 * l.length) (hl : low l = low m ^^^ n * 2 ^ p) (x : Nat) : crcRaw x l ≠ crcRaw x m := fun h => by
  have h1 := raw_diff x hlen
  rw [h, Nat.xor_self, hl, Nat.xor_comm (low m), Nat.xor_assoc, Nat.xor_self, Nat.xor_zero] at h1
  exact burst_ne hn h0 hp h1.symm
theorem burst_crc {l m : List UInt8} {n p : Nat} (hn : n < 4294967296) (h0 : n ≠ 0) (hlen : l.length = m.length) (hp : p ≤ 8 * l.length) (hl : low l = low m ^^^ n * 2 ^ p) (a : List UInt8) : crcOf (a ++ l) ≠ crcOf (a ++ m) := fun h => by
  have h1 := burst_raw hn h0 hlen hp hl (crcRaw 4294967295 a)
  rw [← raw_append, ← raw_append] at h1
  have h2 : crcRaw 4294967295 (a ++ l) < 4294967296 := raw_lt _ (by decide)
  have h3 : crcRaw 4294967295 (a ++ m) < 4294967296 := raw_lt _ (by decide)
  unfold crcOf at h
  omega
/-- A record whose sum isn't its body's. -/
theorem openB_bad {b : List UInt8} {s : Nat} (h : b.length ≤ 1048576) (hs : s < 4294967296) (hne : crcOf (four b.length ++ b) ≠ s) : openB (four b.length ++ (four s ++ b)) 0 = ([], 0, 4) := by
  obtain ⟨y, hy⟩ : ∃ y, four b.length ++ (four s ++ b) = y := ⟨_, rfl⟩
  rw [hy]
  have e1 : y.take 4 = four b.length := by rw [← hy, List.take_append_of_le_length (by rw [four_length]; omega), List.take_of_length_le (by rw [four_length]; omega)]
  have e2 : numB (y.take 4) = b.length := by rw [e1, numB_four (by omega)]
  have e3 : (y.drop 4).take 4 = four s := by
    rw [← hy, List.drop_append_of_le_length (by rw [four_length]; omega), List.drop_of_length_le (by rw [four_length]; omega), List.nil_append,
      List.take_append_of_le_length (by rw [four_length]; omega), List.take_of_length_le (by rw [four_length]; omega)]
  have hl : y.length = 8 + b.length := by rw [← hy]; simp [four_length]; omega
  have e4 : (y.take (8 + b.length)).drop 8 = b := by
    rw [List.take_of_length_le (by omega), ← hy, ← List.append_assoc, List.drop_append_of_le_length (by simp [four_length]), List.drop_of_length_le (by simp [four_length]), List.nil_append]
  have ho : openH y = ([], 4) := openH_sum (by omega) (by omega) (by omega) (by rw [e2, e3, e4, e1, numB_four hs]; exact hne)
  exact openB_err (q := 0) (by omega) (by rw [List.drop_zero]; exact ho) (by decide)
end Go.Proofs.Ytojncfdlddepdaa


/-
  Walk over the law BlockBursts.
-/
namespace Go.Proofs.Ytojncfdlddepdaa
open Go.RowKit

/-- A sealed block with a change of bits is refused. -/
theorem dec_burst {b z : List UInt8} {m p : Nat} (hb : b.length ≤ 1048576) (hm : m < 4294967296) (h0 : m ≠ 0) (hz : z.length = b.length) (hp : p ≤ 8 * z.length) (hlow : low z = low b ^^^ m * 2 ^ p) :
    decB (four b.length ++ (four (crcOf (four b.length ++ b)) ++ z)) = ([], 4) := by
  have hne := burst_crc hm h0 hz hp hlow (four b.length)
  have ho : openB (four b.length ++ (four (crcOf (four b.length ++ b)) ++ z)) 0 = ([], 0, 4) := by
    have := openB_bad (b := z) (s := crcOf (four b.length ++ b)) (by omega) (crcOf_lt _) (by rw [hz]; exact hne)
    rw [hz] at this
    exact this
  unfold decB
  rw [ho]
  rfl
set_option maxRecDepth 8000 in
set_option maxHeartbeats 2000000 in
theorem bursts8_any {A : Option Addr} {n c m : Nat} {p : Int} {l0 : List En} {w : World} (hr : RdR 4 w All A (l0.map enEl)) (hn : l0.length = n) (hc : n ≤ c) (hsq : ∀ x ∈ l0, x.seq < 2 ^ 64) (hl : sumB enB l0 ≤ 1048576) (hp : -9223372036854775808 ≤ p ∧ p ≤ 9223372036854775807) (hm : m < 4294967296) :
    CallsV Try.prog 3 #[.slice A n c, .int .i64 p, .int .u32 (m : Int)] w (RetTr w) := by
  obtain ⟨hl1, hok1⟩ := ent_small hl
  have hs := St.init w
  refine calls_in (N := _) Try.func3 rfl Try.ntmps3 rfl ?_; show WC _ _ _ _ _ _
  refine wc_sr ?_; refine wl_as rfl rfl ?_; refine wl_ns ?_; refine wc_seq ?_; refine wc_sr ?_
  refine wl_call ok_caissonlaw08_awake awake8_any trivial rfl ?_
  rintro _ w1 ⟨rfl, hbx⟩
  replace hs := hs.below hbx
  clear hbx
  apply wl_val; apply opv_not; exact rfl; exact rfl; refine wl_ns ?_; apply wc_condFb; exact rfl; exact Bool.not_true; refine wc_skip ?_; refine we_seq ?_; refine wc_seq ?_; refine wc_sr ?_; refine wl_mv rfl rfl ?_; apply wl_val; apply opv_len; exact rfl; exact tkE.sl; exact rfl; refine wl_bin rfl rfl bin_gtr rfl ?_; refine wl_ns ?_
  refine wc_cutE (fun L' w' => L' = [(0, .slice A (l0.take 40).length c), (1, .int .i64 p), (2, .int .u32 (m : Int))] ∧ w' = w1) ?_ ?_
  · by_cases h : 40 < n
    · have h' : (n : Int) > 40 := by omega
      apply wc_decT; exact rfl; (with_reducible assumption); refine wc_region ?_; refine wl_mv rfl rfl ?_
      refine wl_slK (l := 0) (h := 40) tkE rfl rfl ⟨_, rfl⟩ (by omega) (by omega) rfl ?_
      rw [cutK_zero]
      refine wl_as rfl rfl ?_; refine wl_nil ?_
      exact we_cut _ ⟨rfl, rfl⟩ ⟨congrArg some (slice_eq (by simp; omega)), rfl, rfl, trivial⟩
    · have h' : ¬ (n : Int) > 40 := by omega
      apply wc_decF; exact rfl; (with_reducible assumption); refine wc_skip ?_
      exact we_cut _ ⟨rfl, rfl⟩ ⟨congrArg some (slice_eq (by simp; omega)), rfl, rfl, trivial⟩
  rintro _ _ ⟨rfl, rfl⟩
  refine we_seq ?_
  have hr2 := take_rdr (m := 40) hr (by omega)
  have hokA : ∀ x ∈ l0.take 40, (x.key.length ≤ 1048576 ∧ x.val.length ≤ 1048576) ∧ x.seq < 2 ^ 64 := fun x hx => ⟨hok1 x (few_mem hx), hsq x (few_mem hx)⟩
  have hlen : (l0.take 40).length ≤ 40 := by rw [List.length_take]; omega
  obtain ⟨k, hk'⟩ : ∃ q, l0.take 40 = q := ⟨_, rfl⟩
  rw [hk'] at hr2 hokA hlen
  rw [hk']
  clear hr hok1 hsq hk'
  refine wc_sr ?_; refine wl_mv rfl rfl ?_
  refine wl_call ok_caissonref07_Sorted (sorted_any (hr2.below hs.bel) rfl (fun x hx => by have := (hokA x hx).1; simp only [maxLen]; omega) (by omega)) ⟨rfl, trivial⟩ rfl ?_
  rintro _ w2 ⟨P, cp, rfl, hcp, hl2, hbx2⟩
  obtain ⟨hsl, hsm⟩ := sorted_mem8 hokA
  obtain ⟨hord, hchk⟩ := sorted_ok k
  obtain ⟨l, hld⟩ : ∃ q, sortedE k = q := ⟨_, rfl⟩
  rw [hld] at hl2 hsl hsm hord hchk hcp
  rw [hld]
  have hl3 : RdR 4 w2 All P (l.map enEl) := RdR.mono (by decide) hl2 fun _ _ _ => trivial
  replace hs := hs.below hbx2
  have hmx : ∀ x ∈ l, x.key.length ≤ 1048576 ∧ x.val.length ≤ 1048576 := fun x hx => (hsm x hx).1
  clear hl2 hbx2 hld hr2 hokA
  have hz2 : Siz2 l := fun x hx => by have := hmx x hx; exact ⟨by omega, by omega, (hsm x hx).2⟩
  skip
  refine wl_call ok_block_Build (blkBuild_any (every := 3) (l := l) (by decide) (by decide) hl3 rfl (by omega) hz2) ⟨rfl, rfl, trivial⟩ rfl ?_
  have hck0 := check_of hchk
  have hor0 := ordE_of hord
  by_cases hbig : 1048576 < (blkB 3 l).length
  · have hbd : buildB 3 l = ([], 2) := by
      rw [buildB, hck0, if_neg (by omega), sealB, if_pos hbig]; rfl
    rw [hbd]
    rintro _ w6 ⟨BA, bc, rfl, oB, hbx⟩
    replace hs := hs.below hbx
    dsimp only
    have h2 : ¬ ((2 : Nat) : Int) = 0 := by omega
    refine wl_mv rfl rfl ?_; apply wl_val; apply opv_extract; exact rfl; exact rfl; exact rfl; apply wl_val; apply opv_extract; exact rfl; exact rfl; exact rfl; refine wl_as rfl rfl ?_; refine wl_as rfl rfl ?_; refine wl_ns ?_; refine wc_seq ?_; refine wc_sr ?_; refine wl_mv rfl rfl ?_; refine wl_bin rfl rfl bin_neq rfl ?_; refine wl_mv rfl rfl ?_; apply wl_skip; exact rfl; exact rfl; exact rfl; refine bTn ?_; (with_reducible assumption); exact rfl; apply wl_skip; exact rfl; exact rfl; exact rfl; refine bTn ?_; (with_reducible assumption); exact rfl; apply wl_val; apply opv_pickT; exact rfl; refine bT ?_; (with_reducible assumption); exact rfl; exact rfl; refine wl_mv rfl rfl ?_; apply wl_skip; exact rfl; exact rfl; exact rfl; exact bR1; exact rfl; apply wl_skip; exact rfl; exact rfl; exact rfl; exact bR1; exact rfl; apply wl_val; apply opv_pickT; exact rfl; exact rfl; exact rfl; exact rfl; refine wl_mv rfl rfl ?_; apply wl_skip; exact rfl; exact rfl; exact rfl; exact bR1; exact rfl; apply wl_skip; exact rfl; exact rfl; exact rfl; exact bR1; exact rfl; apply wl_skip; exact rfl; exact rfl; exact rfl; exact bR1; exact rfl; apply wl_skip; exact rfl; exact rfl; exact rfl; exact bR1; exact rfl; apply wl_skip; exact rfl; exact rfl; exact rfl; exact bR1; exact rfl; apply wl_skip; exact rfl; exact rfl; exact rfl; exact bR1; exact rfl; apply wl_val; apply opv_pickT; exact rfl; exact rfl; exact rfl; exact rfl; refine wl_ns ?_; apply wc_condTb; exact rfl; exact rfl; refine wc_sr ?_; refine wl_as rfl rfl ?_; refine wl_ns ?_; refine wc_ret ?_; refine we_seq_ret ?_
    exact we_ret1 rfl rfl ⟨_, rfl, rfl, hs.bel⟩
  obtain ⟨hbd, _⟩ := dec_build (every := 3) (by decide) hz2.siz hck0 hor0 (by omega)
  rw [hbd]
  obtain ⟨bl, hbl⟩ : ∃ q, blkB 3 l = q := ⟨_, rfl⟩
  rw [hbl] at hbd hbig
  rw [hbl]
  have hcl : (crcRec bl).length = 8 + bl.length := crcRec_length bl
  rintro _ w6 ⟨BA, bc, rfl, oB, hbx⟩
  dsimp only at oB ⊢
  have h00 : ((0 : Nat) : Int) = 0 := rfl
  by_cases hm0 : m = 0
  · have hm0' : (m : Int) = 0 := by omega
    replace hs := hs.below hbx
    refine wl_mv rfl rfl ?_; apply wl_val; apply opv_extract; exact rfl; exact rfl; exact rfl; apply wl_val; apply opv_extract; exact rfl; exact rfl; exact rfl; refine wl_as rfl rfl ?_; refine wl_as rfl rfl ?_; refine wl_ns ?_; refine wc_seq ?_; refine wc_sr ?_; refine wl_mv rfl rfl ?_; refine wl_bin rfl rfl bin_neq rfl ?_; refine wl_mv rfl rfl ?_; apply wl_take; exact rfl; exact rfl; exact rfl; refine bF ?_; omega; refine wl_mv rfl rfl ?_; apply wl_take; exact rfl; exact rfl; exact rfl; refine bF ?_; omega; refine wl_bin rfl rfl bin_eql rfl ?_; apply wl_val; apply opv_pickF; exact rfl; refine bF ?_; omega; exact rfl; exact rfl; refine wl_mv rfl rfl ?_; apply wl_skip; exact rfl; exact rfl; exact rfl; refine bTn ?_; (with_reducible assumption); exact rfl; apply wl_skip; exact rfl; exact rfl; exact rfl; refine bTn ?_; (with_reducible assumption); exact rfl; apply wl_val; apply opv_pickT; exact rfl; refine bT ?_; (with_reducible assumption); exact rfl; exact rfl; refine wl_mv rfl rfl ?_; apply wl_skip; exact rfl; exact rfl; exact rfl; exact bR1; exact rfl; apply wl_skip; exact rfl; exact rfl; exact rfl; exact bR1; exact rfl; apply wl_skip; exact rfl; exact rfl; exact rfl; exact bR1; exact rfl; apply wl_skip; exact rfl; exact rfl; exact rfl; exact bR1; exact rfl; apply wl_skip; exact rfl; exact rfl; exact rfl; exact bR1; exact rfl; apply wl_skip; exact rfl; exact rfl; exact rfl; exact bR1; exact rfl; apply wl_val; apply opv_pickT; exact rfl; exact rfl; exact rfl; exact rfl; refine wl_ns ?_; apply wc_condTb; exact rfl; exact rfl; refine wc_sr ?_; refine wl_as rfl rfl ?_; refine wl_ns ?_; refine wc_ret ?_; refine we_seq_ret ?_
    exact we_ret1 rfl rfl ⟨_, rfl, rfl, hs.bel⟩
  have hm0' : ¬ (m : Int) = 0 := by omega
  by_cases hp1 : p < 64
  · replace hs := hs.below hbx
    refine wl_mv rfl rfl ?_; apply wl_val; apply opv_extract; exact rfl; exact rfl; exact rfl; apply wl_val; apply opv_extract; exact rfl; exact rfl; exact rfl; refine wl_as rfl rfl ?_; refine wl_as rfl rfl ?_; refine wl_ns ?_; refine wc_seq ?_; refine wc_sr ?_; refine wl_mv rfl rfl ?_; refine wl_bin rfl rfl bin_neq rfl ?_; refine wl_mv rfl rfl ?_; apply wl_take; exact rfl; exact rfl; exact rfl; refine bF ?_; omega; refine wl_mv rfl rfl ?_; apply wl_take; exact rfl; exact rfl; exact rfl; refine bF ?_; omega; refine wl_bin rfl rfl bin_eql rfl ?_; apply wl_val; apply opv_pickF; exact rfl; refine bF ?_; omega; exact rfl; exact rfl; refine wl_mv rfl rfl ?_; apply wl_take; exact rfl; exact rfl; exact rfl; refine bF ?_; (with_reducible assumption); refine wl_mv rfl rfl ?_; apply wl_take; exact rfl; exact rfl; exact rfl; refine bF ?_; (with_reducible assumption); refine wl_bin rfl rfl bin_lss rfl ?_; apply wl_val; apply opv_pickF; exact rfl; refine bF ?_; (with_reducible assumption); exact rfl; exact rfl; refine wl_mv rfl rfl ?_; apply wl_skip; exact rfl; exact rfl; exact rfl; refine bTn ?_; (with_reducible assumption); exact rfl; apply wl_skip; exact rfl; exact rfl; exact rfl; refine bTn ?_; (with_reducible assumption); exact rfl; apply wl_skip; exact rfl; exact rfl; exact rfl; refine bTn ?_; (with_reducible assumption); exact rfl; apply wl_skip; exact rfl; exact rfl; exact rfl; refine bTn ?_; (with_reducible assumption); exact rfl; apply wl_skip; exact rfl; exact rfl; exact rfl; refine bTn ?_; (with_reducible assumption); exact rfl; apply wl_skip; exact rfl; exact rfl; exact rfl; refine bTn ?_; (with_reducible assumption); exact rfl; apply wl_val; apply opv_pickT; exact rfl; refine bT ?_; (with_reducible assumption); exact rfl; exact rfl; refine wl_ns ?_; apply wc_condTb; exact rfl; exact rfl; refine wc_sr ?_; refine wl_as rfl rfl ?_; refine wl_ns ?_; refine wc_ret ?_; refine we_seq_ret ?_
    exact we_ret1 rfl rfl ⟨_, rfl, rfl, hs.bel⟩
  by_cases hp2 : p > 8 * ((crcRec bl).length : Int) - 32
  · replace hs := hs.below hbx
    refine wl_mv rfl rfl ?_; apply wl_val; apply opv_extract; exact rfl; exact rfl; exact rfl; apply wl_val; apply opv_extract; exact rfl; exact rfl; exact rfl; refine wl_as rfl rfl ?_; refine wl_as rfl rfl ?_; refine wl_ns ?_; refine wc_seq ?_; refine wc_sr ?_; refine wl_mv rfl rfl ?_; refine wl_bin rfl rfl bin_neq rfl ?_; refine wl_mv rfl rfl ?_; apply wl_take; exact rfl; exact rfl; exact rfl; refine bF ?_; omega; refine wl_mv rfl rfl ?_; apply wl_take; exact rfl; exact rfl; exact rfl; refine bF ?_; omega; refine wl_bin rfl rfl bin_eql rfl ?_; apply wl_val; apply opv_pickF; exact rfl; refine bF ?_; omega; exact rfl; exact rfl; refine wl_mv rfl rfl ?_; apply wl_take; exact rfl; exact rfl; exact rfl; refine bF ?_; (with_reducible assumption); refine wl_mv rfl rfl ?_; apply wl_take; exact rfl; exact rfl; exact rfl; refine bF ?_; (with_reducible assumption); refine wl_bin rfl rfl bin_lss rfl ?_; apply wl_val; apply opv_pickF; exact rfl; refine bF ?_; (with_reducible assumption); exact rfl; exact rfl; refine wl_mv rfl rfl ?_; apply wl_take; exact rfl; exact rfl; exact rfl; refine bF ?_; (with_reducible assumption); refine wl_mv rfl rfl ?_; apply wl_take; exact rfl; exact rfl; exact rfl; refine bF ?_; (with_reducible assumption); refine wl_mv rfl rfl ?_; apply wl_take; exact rfl; exact rfl; exact rfl; refine bF ?_; (with_reducible assumption); apply wl_val; apply opv_len; exact rfl; exact tyB.sl; exact rfl; apply wl_take; exact rfl; exact rfl; exact rfl; refine bF ?_; (with_reducible assumption); apply wl_val; apply opv_bin; exact rfl; exact rfl; exact bin_mul64 (by omega); exact rfl; apply wl_take; exact rfl; exact rfl; exact rfl; refine bF ?_; (with_reducible assumption); apply wl_val; apply opv_bin; exact rfl; exact rfl; exact bin_sub64 (by omega); exact rfl; apply wl_take; exact rfl; exact rfl; exact rfl; refine bF ?_; (with_reducible assumption); refine wl_bin rfl rfl bin_gtr rfl ?_; apply wl_val; apply opv_pickF; exact rfl; refine bF ?_; (with_reducible assumption); exact rfl; exact rfl; refine wl_ns ?_; apply wc_decT; exact rfl; (with_reducible assumption); refine wc_sr ?_; refine wl_as rfl rfl ?_; refine wl_ns ?_; refine wc_ret ?_; refine we_seq_ret ?_
    exact we_ret1 rfl rfl ⟨_, rfl, rfl, hs.bel⟩
  obtain ⟨q, rfl⟩ := Int.eq_ofNat_of_zero_le (show 0 ≤ p by omega)
  rcases oB with ⟨_, _, hnil⟩ | ⟨g, cs, rfl, hg, ar, hlc, hcc, htk⟩
  · have h9 := congrArg List.length hnil
    rw [hcl, List.length_nil] at h9; omega
  replace hs := hs.newA hbx (Nat.le_trans (Nat.le_refl _) hg) ar
  clear hbx ar
  obtain ⟨s0, hs0⟩ : ∃ z, crcOf (four bl.length ++ bl) = z := ⟨_, rfl⟩
  have h44 : (four bl.length ++ four s0).length = 8 := by simp [four_length]
  have ec : crcRec bl = (four bl.length ++ four s0) ++ bl := by rw [crcRec, hs0, List.append_assoc]
  rw [ec] at htk
  refine wl_mv rfl rfl ?_; apply wl_val; apply opv_extract; exact rfl; exact rfl; exact rfl; apply wl_val; apply opv_extract; exact rfl; exact rfl; exact rfl; refine wl_as rfl rfl ?_; refine wl_as rfl rfl ?_; refine wl_ns ?_; refine wc_seq ?_; refine wc_sr ?_; refine wl_mv rfl rfl ?_; refine wl_bin rfl rfl bin_neq rfl ?_; refine wl_mv rfl rfl ?_; apply wl_take; exact rfl; exact rfl; exact rfl; refine bF ?_; omega; refine wl_mv rfl rfl ?_; apply wl_take; exact rfl; exact rfl; exact rfl; refine bF ?_; omega; refine wl_bin rfl rfl bin_eql rfl ?_; apply wl_val; apply opv_pickF; exact rfl; refine bF ?_; omega; exact rfl; exact rfl; refine wl_mv rfl rfl ?_; apply wl_take; exact rfl; exact rfl; exact rfl; refine bF ?_; (with_reducible assumption); refine wl_mv rfl rfl ?_; apply wl_take; exact rfl; exact rfl; exact rfl; refine bF ?_; (with_reducible assumption); refine wl_bin rfl rfl bin_lss rfl ?_; apply wl_val; apply opv_pickF; exact rfl; refine bF ?_; (with_reducible assumption); exact rfl; exact rfl; refine wl_mv rfl rfl ?_; apply wl_take; exact rfl; exact rfl; exact rfl; refine bF ?_; (with_reducible assumption); refine wl_mv rfl rfl ?_; apply wl_take; exact rfl; exact rfl; exact rfl; refine bF ?_; (with_reducible assumption); refine wl_mv rfl rfl ?_; apply wl_take; exact rfl; exact rfl; exact rfl; refine bF ?_; (with_reducible assumption); apply wl_val; apply opv_len; exact rfl; exact tyB.sl; exact rfl; apply wl_take; exact rfl; exact rfl; exact rfl; refine bF ?_; (with_reducible assumption); apply wl_val; apply opv_bin; exact rfl; exact rfl; exact bin_mul64 (by omega); exact rfl; apply wl_take; exact rfl; exact rfl; exact rfl; refine bF ?_; (with_reducible assumption); apply wl_val; apply opv_bin; exact rfl; exact rfl; exact bin_sub64 (by omega); exact rfl; apply wl_take; exact rfl; exact rfl; exact rfl; refine bF ?_; (with_reducible assumption); refine wl_bin rfl rfl bin_gtr rfl ?_; apply wl_val; apply opv_pickF; exact rfl; refine bF ?_; (with_reducible assumption); exact rfl; exact rfl; refine wl_ns ?_; apply wc_decF; exact rfl; (with_reducible assumption); refine wc_skip ?_; refine we_seq ?_; refine wc_seq ?_; refine wc_sr ?_; refine wl_as rfl rfl ?_; refine wl_ns ?_; refine wc_block ?_
  refine wc_loop (fun L wr mm => ∃ (j : Nat) (z : List UInt8) (cs : List Value), L = [(1, .int .i64 (q : Int)), (2, .int .u32 (m : Int)), (7, .slice (some ⟨g, 0, none⟩) (crcRec bl).length bc), (9, .int .i64 (j : Int))] ∧ j ≤ 32 ∧ z.length = bl.length ∧ low z = low bl ^^^ m % 2 ^ j * 2 ^ (q - 64) ∧ bc ≤ cs.length ∧ cs.take (crcRec bl).length = bvs ((four bl.length ++ four s0) ++ z) ∧ St NoB w wr [.blk g 5 cs] ∧ mm = 32 - j)
    [(1, .int .i64 (q : Int)), (2, .int .u32 (m : Int)), (7, .slice (some ⟨g, 0, none⟩) (crcRec bl).length bc), (9, .int .i64 (0 : Nat))] 32 ⟨0, bl, cs, rfl, by omega, rfl, by simp [Nat.mod_one], hcc, htk, hs, rfl⟩ ⟨rfl, rfl, rfl, rfl, trivial⟩ ?_
  clear hs htk hcc
  rintro _ w8 mm ⟨j, z, cs, rfl, hj, hzl, hlow, hcc, htk, hs, rfl⟩
  refine wc_seq ?_; refine wc_sr ?_; refine wl_mv rfl rfl ?_; refine wl_bin rfl rfl bin_lss rfl ?_; refine wl_ns ?_
  refine wc_cond rfl (fun h1 => ?_) (fun h1 => ?_)
  · have hmk : m / 2 ^ j < 2 ^ 32 := Nat.lt_of_le_of_lt (Nat.div_le_self _ _) hm
    refine wc_skip ?_; refine we_seq ?_; refine wc_seq ?_; refine wc_block ?_; refine wc_sr ?_; refine wl_mv rfl rfl ?_; refine wl_mv rfl rfl ?_
    refine wl_val (opv_bin rfl rfl (bin_shr hm)) rfl ?_
    refine wl_val (opv_bin (b := .int .u32 (1 : Nat)) rfl rfl (bin_and rfl hmk (by decide))) rfl ?_
    refine wl_bin rfl rfl bin_eql rfl ?_; refine wl_ns ?_
    refine wc_cond rfl (fun h2 => ?_) (fun h2 => ?_)
    · have h2' : m / 2 ^ j % 2 = 1 := by rw [← Nat.and_one_is_mod]; omega
      clear h2 hmk
      obtain ⟨s, hs1⟩ : ∃ s, q + j = s := ⟨_, rfl⟩
      have hi : s / 8 - 8 < z.length := by omega
      obtain ⟨x, hx⟩ : ∃ x, z[s / 8 - 8]? = some x := ⟨_, List.getElem?_eq_getElem hi⟩
      have hxl := x.toNat_lt
      have h8 : 2 ^ (s % 8) < 256 := Nat.lt_of_lt_of_le (Nat.pow_lt_pow_right (by decide) (Nat.mod_lt _ (by decide))) (Nat.le_refl (2 ^ 8))
      have hxx : x.toNat ^^^ 2 ^ (s % 8) < 256 := Nat.xor_lt_two_pow (n := 8) hxl h8
      have hset := low_set z (s / 8 - 8) (s % 8) x hx (Nat.mod_lt _ (by decide))
      rw [show 8 * (s / 8 - 8) + s % 8 = (q - 64) + j by omega, hlow, Nat.xor_assoc, mask_step h2'] at hset
      have hYx : ((four bl.length ++ four s0) ++ z)[s / 8]? = some x := by rw [List.getElem?_append_right (by omega), h44]; exact hx
      have hcs : cs[s / 8]? = some (bv x) := by
        have h : (cs.take (crcRec bl).length)[s / 8]? = (bvs ((four bl.length ++ four s0) ++ z))[s / 8]? := by rw [htk]
        rw [List.getElem?_take_of_lt (by omega)] at h
        rw [h, bvs, List.getElem?_map, hYx]; rfl
      have hcl2 : s / 8 < cs.length := (List.getElem?_eq_some_iff.1 hcs).1
      have hcs0 : cs[0 + s / 8]? = some (bv x) := by rw [Nat.zero_add]; exact hcs
      refine wc_sr ?_; refine wl_mv rfl rfl ?_; refine wl_mv rfl rfl ?_; apply wl_val; apply opv_bin; exact rfl; exact rfl; exact bin_add64 (by omega); exact rfl; refine wl_as rfl rfl ?_; refine wl_ns ?_
      rw [show (q : Int) + (j : Int) = (s : Int) by omega]
      have hS := (Below.refl w8.heap.size w8).drew
      replace hs := hs.below hS
      refine wc_held (fun _ => True) mixed ?_
      apply wh_take 0; exact rfl; kernel_rfl; kernel_rfl; kernel_rfl; exact trivial; intro _ hw_; apply opv_move; exact rfl; exact rfl; apply wh_take 1; exact rfl; kernel_rfl; kernel_rfl; kernel_rfl; exact trivial; intro _ hw_; apply opv_move; exact rfl; exact rfl
      refine wh_take 2 rfl (by kernel_rfl) (by kernel_rfl) (by kernel_rfl) trivial (fun _ _ => opv_bin (b := .int .i64 (8 : Nat)) rfl rfl (bin_quo (by decide) (IntWalk.i64_in _ (by omega)))) rfl ?_
      refine wh_take 3 rfl (by kernel_rfl) (by kernel_rfl) (by kernel_rfl) trivial (fun _ _ => opv_idx (kk := s / 8) tyB rfl rfl rfl (by omega)) rfl ?_
      apply wh_take 5; exact rfl; kernel_rfl; kernel_rfl; kernel_rfl; exact trivial; intro _ hw_; apply opv_move; exact rfl; exact rfl
      refine wh_take 6 rfl (by kernel_rfl) (by kernel_rfl) (by kernel_rfl) trivial (fun _ _ => opv_bin (b := .int .i64 (8 : Nat)) rfl rfl (bin_rem (by decide))) rfl ?_
      refine wh_take 7 rfl (by kernel_rfl) (by kernel_rfl) (by kernel_rfl) trivial (fun _ _ => opv_bin (a := .int .u8 (1 : Nat)) rfl rfl ((bin_shl rfl).to (congrArg (fun z : Nat => Value.int .u8 (z : Int)) (show 1 * 2 ^ (s % 8) % 2 ^ IntKind.u8.bits = 2 ^ (s % 8) by rw [Nat.one_mul]; exact Nat.mod_eq_of_lt h8)))) rfl ?_
      refine wh_one 4 (o := ⟨_, _, _, _, _, _⟩) (by kernel_rfl) rfl ?_
      refine wl_val (v := .int .u8 (x.toNat : Int)) (opv_ldX rfl (hs.ar 0 rfl) e1_u8 hcs0) rfl ?_
      refine wl_nil ?_
      refine we_held trivial ?_
      refine wh_one 8 (o := ⟨_, _, _, _, _, _⟩) (by kernel_rfl) rfl ?_
      refine wl_val (opv_bin rfl rfl (bin_xor rfl hxl h8)) rfl ?_
      refine wl_nil ?_
      refine we_held trivial ?_
      refine wh_take 9 rfl (by kernel_rfl) (by kernel_rfl) (by kernel_rfl) trivial (fun _ _ => opv_idx (kk := s / 8) tyB rfl rfl rfl (by omega)) rfl ?_
      refine wh_one 10 (o := ⟨_, _, _, _, _, _⟩) (by kernel_rfl) rfl ?_
      refine ws_st (kk := 0 + s / 8) hs 0 rfl rfl e1_u8 (by rw [Nat.blt_eq]; omega) rfl rfl ?_
      clear hs; intro w9 hs; dsimp only [setC] at hs
      have eu : Value.int .u8 ((x.toNat ^^^ 2 ^ (s % 8) : Nat) : Int) = bv (UInt8.ofNat (x.toNat ^^^ 2 ^ (s % 8))) := by
        unfold bv; rw [UInt8.toNat_ofNat', Nat.mod_eq_of_lt hxx]
      rw [eu, Nat.zero_add] at hs
      have htk2 : (cs.set (s / 8) (bv (UInt8.ofNat (x.toNat ^^^ 2 ^ (s % 8))))).take (crcRec bl).length = bvs ((four bl.length ++ four s0) ++ z.set (s / 8 - 8) (UInt8.ofNat (x.toNat ^^^ 2 ^ (s % 8)))) := by
        rw [List.take_set, htk, bvs_set, List.set_append_right _ _ (by omega), h44]
      refine wl_nil ?_
      refine we_held trivial ?_
      refine wh_done (by kernel_rfl) ?_
      refine we_block_norm ?_; refine we_seq ?_; refine wc_region ?_; refine wl_mv rfl rfl ?_; apply wl_val; apply opv_bin; exact rfl; exact rfl; exact bin_add64 (by omega); exact rfl; refine wl_as rfl rfl ?_; refine wl_nil ?_
      exact we_loop _ (32 - (j + 1)) ⟨j + 1, z.set (s / 8 - 8) (UInt8.ofNat (x.toNat ^^^ 2 ^ (s % 8))), _, rfl, by omega, by rw [List.length_set]; exact hzl, hset, by rw [List.length_set]; exact hcc, htk2, hs, rfl⟩ (by omega) ⟨rfl, rfl, rfl, by simp [lookT], trivial⟩
    · have h2' : ¬ m / 2 ^ j % 2 = 1 := by rw [← Nat.and_one_is_mod]; omega
      rw [← mask_keep h2'] at hlow
      refine wc_skip ?_; refine we_block_norm ?_; refine we_seq ?_; refine wc_region ?_; refine wl_mv rfl rfl ?_; apply wl_val; apply opv_bin; exact rfl; exact rfl; exact bin_add64 (by omega); exact rfl; refine wl_as rfl rfl ?_; refine wl_nil ?_
      exact we_loop _ (32 - (j + 1)) ⟨j + 1, z, cs, rfl, by omega, hzl, hlow, hcc, htk, hs, rfl⟩ (by omega) ⟨rfl, rfl, rfl, by simp [lookT], trivial⟩
  · obtain rfl : j = 32 := by omega
    rw [Nat.mod_eq_of_lt (show m < 2 ^ 32 from hm)] at hlow
    have hd := dec_burst (b := bl) (by omega) hm hm0 hzl (by omega) hlow
    rw [hs0, ← List.append_assoc] at hd
    obtain ⟨ys, hys⟩ : ∃ y, (four bl.length ++ four s0) ++ z = y := ⟨_, rfl⟩
    have hyl : ys.length = (crcRec bl).length := by rw [← hys, List.length_append, h44, hzl, hcl]
    rw [hys] at hd htk
    have har := hs.ar 0 rfl
    have n9 : NwB w8 w.heap.size (some ⟨g, 0, none⟩) bc ys := .inr ⟨g, cs, rfl, hs.new_lt 0 rfl, har, by omega, hcc, by rw [hyl]; exact htk⟩
    refine wc_exit ?_; refine we_seq_exit ?_; refine we_loop_exit ?_; refine we_block_exit ?_; refine we_seq ?_; refine wc_sr ?_; refine wl_mv rfl rfl ?_
    refine wl_call ok_block_Decode (decode_any n9.rd hyl (by omega) (by omega)) ⟨rfl, trivial⟩ rfl ?_
    rw [hd]
    rintro _ w9 ⟨R1, c1, rfl, hsx⟩
    replace hs := hs.call hsx
    dsimp only
    have h04 : ((4 : Nat) : Int) = 4 := rfl
    have hl00 : (([] : List En).length : Int) = 0 := rfl
    refine wl_mv rfl rfl ?_; apply wl_val; apply opv_extract; exact rfl; exact rfl; exact rfl; apply wl_val; apply opv_extract; exact rfl; exact rfl; exact rfl; refine wl_as rfl rfl ?_; refine wl_as rfl rfl ?_; refine wl_ns ?_; refine wc_sr ?_; refine wl_mv rfl rfl ?_; refine wl_bin rfl rfl bin_eql rfl ?_; refine wl_mv rfl rfl ?_; apply wl_take; exact rfl; exact rfl; exact rfl; refine bT ?_; (with_reducible assumption); refine wl_mv rfl rfl ?_; apply wl_take; exact rfl; exact rfl; exact rfl; refine bT ?_; (with_reducible assumption); apply wl_val; apply opv_len; exact rfl; exact tkE.sl; exact rfl; apply wl_take; exact rfl; exact rfl; exact rfl; refine bT ?_; (with_reducible assumption); refine wl_bin rfl rfl bin_eql rfl ?_; apply wl_val; apply opv_pickT; exact rfl; refine bT ?_; (with_reducible assumption); exact rfl; exact rfl; refine wl_as rfl rfl ?_; refine wl_ns ?_; refine wc_ret ?_
    exact we_ret1 rfl rfl ⟨_, rfl, rfl, hs.bel⟩
end Go.Proofs.Ytojncfdlddepdaa


/-
  Blocks that hold a list's marks: append onto a slice at the head of a block that is known whole, and what a step may change of such blocks.
-/
namespace Go.Proofs.Ytojncfdlddepdaa
open Go.RowKit

section
variable {P : Program} {N : Nat} {ops : Array Oper} {Q : Exit → Act → World → Prop} {rest : List Oper} {L : FL} {w : World} {t e : TypeId} {z : Value} {bytes : Nat}
theorem opv_app {s x : Operand} {ty : TypeId} {u v r : Value} {w' : World} (hs : look L s = some u) (hx : look L x = some v) (hrun : ∀ ty, (Builtin.append_ #[t, t] ty #[u, v]).run P w = .ok r w') :
    OpV P (.call { callee := .builtin .append, args := #[s, x], argTypes := #[t, t] }) ty L w r w' := fun ρ o hρ ho _ => by
  unfold execOp
  simp only [ho, resolve, invoke, builtin, Sem.run_bind, Sem.run_pure, Result.andThen_ok, List.map_toArray, List.map_cons, List.map_nil, hρ s _ hs, hρ x _ hx, hrun]
/-- append onto a slice at the head of a block that is known whole. -/
theorem wl_appA {d : Nat} {s x : Operand} {ty : TypeId} {pos : String} {aft : Array Edge} {g n c m c' : Nat} {cs ys : List Value} {B : Option Addr} (T : Row1 P t e z bytes)
    (hs : look L s = some (.slice (some ⟨g, 0, none⟩) n c)) (ha : Ar w g e cs) (hnc : n ≤ c) (hc : c ≤ cs.length) (hx : look L x = some (.slice B m c')) (hr : Rd w B m ys) (hm : 0 < m) (h1 : ∀ u ∈ ys, u.oneCell' = true)
    (hbytes : (n + m) * bytes ≤ 140737488355328) (hmax : n + m ≤ maxLen) (hd : Nat.blt d N = true)
    (hA : n + m ≤ c → ∀ w', Ar w' g e (cs.take n ++ (ys ++ cs.drop (n + m))) → Gr w w' (some ⟨g, 0, none⟩) → WL P N ops Q rest ((d, .slice (some ⟨g, 0, none⟩) (n + m) c) :: L) w')
    (hB : ∀ A' c2 w', Ow w' w.heap.size e A' (n + m) c2 (cs.take n ++ ys) → Below w.heap.size w w' → WL P N ops Q rest ((d, .slice A' (n + m) c2) :: L) w') :
    WL P N ops Q (⟨some d, .call { callee := .builtin .append, args := #[s, x], argTypes := #[t, t] }, ty, pos, aft, none⟩ :: rest) L w := by
  obtain ⟨i, hi, hz, hsz, hby⟩ := info_parts T.info
  have hzs : z.cells.size = 1 := by rw [cells_one T.one]; rfl
  have hl : ys.length = m := hr.1
  obtain ⟨b, o, rfl, _, hcell⟩ := hr.2 hm
  have hnews : ∀ j u, ys[j]? = some u → w.cell? ((⟨b, o, none⟩ : Addr).add j) = some u := fun j u hu => by rw [Addr.add_lit]; exact hcell j u hu
  by_cases hroom : n + m ≤ c
  · refine wl_val (opv_app hs hx fun ty => run_append_room (P := P) w t ty e i T.sl hi g n c cs.toArray ha ⟨b, o, none⟩ m c' ys (by rw [hsz]; omega) hnews h1 hroom (by simp [hsz]; omega)) hd ?_
    have e1 : (cs.toArray.toList.take (n * i.size) ++ ys ++ cs.toArray.toList.drop (n * i.size + ys.length)) = cs.take n ++ (ys ++ cs.drop (n + m)) := by
      rw [hsz, hl, Nat.mul_one, List.append_assoc]
    rw [e1]
    exact hA hroom _ ha.setRow ⟨rfl, rfl, rfl, by simp [World.setRow], fun k _ hk => by
      simp only [World.setRow, Array.getElem?_modify]
      rw [if_neg (by simp at hk; exact fun h => hk h.symm)]⟩
  · have hol : (cs.take n).length = n := by simp; omega
    have hsmall : n + m ≤ 9223372036854775807 := by simp only [maxLen] at hmax; omega
    have hge := grownCap_ge w (n + m) c e
    have hcm : grownCap w (n + m) c e ≤ maxLen := grownCap_le_maxLen w (n + m) c e hmax
    refine wl_val (opv_app hs hx fun ty => run_append_grow (P := P) w t ty e i z T.sl hi hz ⟨g, 0, none⟩ n c (cs.take n) (by rw [hsz]; omega) (fun j u hu => by
      rw [Addr.add_lit, Nat.zero_add, ha.cell]
      rw [List.getElem?_take] at hu
      split at hu
      · exact hu
      · cases hu) ⟨b, o, none⟩ m c' ys (by rw [hsz]; omega) hnews (by omega) (by omega) (growslice_fits (by omega) (by rw [hby]; exact hbytes))) hd ?_
    refine hB _ _ _ ⟨by simp; omega, .inr ⟨w.heap.size, _, _, rfl, Nat.le_refl _, heap_alloc_new w.drew _, hge, hcm, ?_, ?_⟩⟩ ⟨rfl, rfl, rfl, by simp, fun k hk => heap_alloc_old w.drew _ hk⟩
    · simp only [Array.size_append, List.size_toArray, size_zeroCells, hzs, hol, hl]; omega
    · simp only [Array.toList_append, List.append_assoc]
      rw [← List.append_assoc]
      refine List.take_left' ?_
      simp; omega
end

/-- The byte that stands for place j of list i. -/
def mkb (i j : Nat) : UInt8 := UInt8.ofNat (17 * i + 3 * j + 1)
def mk (i j : Nat) : Value := bv (mkb i j)
def mkl (i n : Nat) : List UInt8 := (List.range n).map (mkb i)
theorem mkl_length (i n : Nat) : (mkl i n).length = n := by simp [mkl]
theorem mkl_get {i n j : Nat} (h : j < n) : (mkl i n)[j]? = some (mkb i j) := by simp [mkl, h]
/-- Block b holds the marks of list i, at its first n places. -/
def MkB (w : World) (b i n : Nat) : Prop := ∃ cs, Ar w b 5 cs ∧ n ≤ cs.length ∧ ∀ j, j < n → cs[j]? = some (mk i j)
/-- A step that may write marks of list i into block X, and changes no other block of bytes. -/
def Sk (w w' : World) (X : Option Nat) (i : Nat) : Prop :=
  ∀ b cs, Ar w b 5 cs → ∃ cs', Ar w' b 5 cs' ∧ cs'.length = cs.length ∧ (cs' = cs ∨ (X = some b ∧ ∀ j u, cs'[j]? = some u → cs[j]? = some u ∨ u = mk i j))
/-- A slice at the head of a block of the call's own, or nil. -/
def Hd (w : World) (base : Nat) (A : Option Addr) (n c : Nat) : Prop :=
  (A = none ∧ n = 0 ∧ c = 0) ∨ ∃ g cs, A = some ⟨g, 0, none⟩ ∧ base ≤ g ∧ Ar w g 5 cs ∧ n ≤ c ∧ c ≤ cs.length
section
variable {w w' w1 : World} {X : Option Nat} {A : Option Addr} {b i k n c base : Nat}
theorem MkB.rd (h : MkB w b i n) : RdB w (some ⟨b, 0, none⟩) (mkl i n) := by
  obtain ⟨cs, ha, hl, hm⟩ := h
  refine ⟨bvs_length _, fun _ => ⟨b, 0, rfl, ha.lt, fun j u hu => ?_⟩⟩
  rw [ha.cell, Nat.zero_add]
  have hj : j < n := by have := (List.getElem?_eq_some_iff.1 hu).1; rwa [bvs_length, mkl_length] at this
  rw [bvs, List.getElem?_map, mkl_get hj] at hu
  rw [hm j hj]; exact hu
theorem Sk.refl (w : World) (X : Option Nat) (i : Nat) : Sk w w X i := fun _ cs h => ⟨cs, h, rfl, .inl rfl⟩
theorem Sk.trans (h : Sk w w1 X i) (h2 : Sk w1 w' X i) : Sk w w' X i := fun b cs ha => by
  obtain ⟨c1, a1, l1, r1⟩ := h b cs ha
  obtain ⟨c2, a2, l2, r2⟩ := h2 b c1 a1
  refine ⟨c2, a2, l2.trans l1, ?_⟩
  rcases r2 with rfl | ⟨hX, r2⟩
  · exact r1
  · refine .inr ⟨hX, fun j u hu => ?_⟩
    rcases r2 j u hu with h | h
    · rcases r1 with rfl | ⟨_, r1⟩
      · exact .inl h
      · exact r1 j u h
    · exact .inr h
theorem Sk.bel (h : Below w.heap.size w w') : Sk w w' X i := fun _ cs ha => ⟨cs, ha.bel h, rfl, .inl rfl⟩
/-- A step that changes one block of another type alone. -/
theorem Sk.other {g : Nat} {t : TypeId} {cs : List Value} (h : Gr w w' A) (hA : ∀ a, A = some a → a.block = g) (ht : A = none ∨ Ar w g t cs) (hne : t ≠ 5) : Sk w w' X i := fun b ds hb => by
  refine ⟨ds, ?_, rfl, .inl rfl⟩
  unfold Ar
  rw [h.block b hb.lt fun hk => ?_]
  · exact hb
  · cases A with
    | none => simp at hk
    | some a =>
      simp only [Option.map_some, Option.some.injEq] at hk
      rcases ht with ht | ht
      · cases ht
      · rw [← hA a rfl, ← hk] at ht
        unfold Ar at ht hb
        rw [ht] at hb
        simp only [Option.some.injEq, Obj.cells.injEq] at hb
        exact hne hb.2.1
/-- A step that writes marks into block g. -/
theorem Sk.at {g : Nat} {cs cs' : List Value} (h : Gr w w' (some ⟨g, 0, none⟩)) (ha : Ar w g 5 cs) (ha' : Ar w' g 5 cs') (hl : cs'.length = cs.length) (hm : ∀ j u, cs'[j]? = some u → cs[j]? = some u ∨ u = mk i j) : Sk w w' (some g) i := fun b ds hb => by
  by_cases hbg : b = g
  · subst hbg
    have e : ds = cs := by
      unfold Ar at ha hb
      rw [ha] at hb
      simp only [Option.some.injEq, Obj.cells.injEq] at hb
      have := congrArg Array.toList hb.1
      simpa using this.symm
    subst e
    exact ⟨cs', ha', hl, .inr ⟨rfl, hm⟩⟩
  · refine ⟨ds, ?_, rfl, .inl rfl⟩
    unfold Ar
    rw [h.block b hb.lt (by simp; exact fun h => hbg h)]
    exact hb
theorem MkB.st (h : MkB w b i n) (s : Sk w w' X k) (hX : X = some b → k = i) : MkB w' b i n := by
  obtain ⟨cs, ha, hl, hm⟩ := h
  obtain ⟨cs', ha', hl', r⟩ := s b cs ha
  refine ⟨cs', ha', by omega, fun j hj => ?_⟩
  rcases r with rfl | ⟨hXb, r⟩
  · exact hm j hj
  · have hk := hX hXb
    subst hk
    rw [List.getElem?_eq_getElem (by omega)]
    rcases r j _ (List.getElem?_eq_getElem (by omega)) with h | h
    · rw [← h]; exact hm j hj
    · rw [h]
theorem Hd.st (h : Hd w base A n c) (s : Sk w w' X k) : Hd w' base A n c := by
  rcases h with h | ⟨g, cs, hA, hb, ha, h1, h2⟩
  · exact .inl h
  · obtain ⟨cs', ha', hl', _⟩ := s g cs ha
    exact .inr ⟨g, cs', hA, hb, ha', h1, by omega⟩
theorem NwB.hd {xs : List UInt8} (h : NwB w base A c xs) : Hd w base A xs.length c := by
  rcases h with ⟨hA, hc, rfl⟩ | ⟨g, cs, hA, hb, ha, h1, h2, _⟩
  · exact .inl ⟨hA, rfl, hc⟩
  · exact .inr ⟨g, cs, hA, hb, ha, h1, h2⟩
end

/-- All slices of a list lie at the heads of blocks of the call's own, each in another one. -/
def Own1 (w : World) (base : Nat) (vs : List Value) : Prop :=
  (∀ v ∈ vs, ∃ (A : Option Addr) (n c : Nat), v = .slice A n c ∧ Hd w base A n c ∧ n ≤ 1099511627776) ∧ vs.Pairwise fun v v' => ∀ g, v.ownBlock = some g → v'.ownBlock ≠ some g
section
variable {w w' w0 : World} {X : Option Nat} {vs : List Value} {base k : Nat}
theorem Own1.at (h : Own1 w base vs) {i : Nat} {v : Value} (hi : vs[i]? = some v) : ∃ (A : Option Addr) (n c : Nat), v = .slice A n c ∧ Hd w base A n c ∧ n ≤ 1099511627776 := h.1 v (List.mem_of_getElem? hi)
theorem Own1.inj (h : Own1 w base vs) {i j g : Nat} {v v' : Value} (hi : vs[i]? = some v) (hj : vs[j]? = some v') (hg : v.ownBlock = some g) (hg' : v'.ownBlock = some g) : i = j := by
  have hp := List.pairwise_iff_getElem.1 h.2
  obtain ⟨h1, e1⟩ := List.getElem?_eq_some_iff.1 hi
  obtain ⟨h2, e2⟩ := List.getElem?_eq_some_iff.1 hj
  rcases Nat.lt_trichotomy i j with hlt | heq | hgt
  · exact absurd (e2 ▸ hg') (hp i j h1 h2 hlt g (e1 ▸ hg))
  · exact heq
  · exact absurd (e1 ▸ hg) (hp j i h2 h1 hgt g (e2 ▸ hg'))
theorem Own1.st (h : Own1 w base vs) (s : Sk w w' X k) : Own1 w' base vs := ⟨fun v hv => by
  obtain ⟨A, n, c, e, hd, hn⟩ := h.1 v hv
  exact ⟨A, n, c, e, hd.st s, hn⟩, h.2⟩
/-- The marks of the first m lists stand. -/
def Mx (w : World) (vs : List Value) (m : Nat) : Prop := ∀ (k : Nat) (A : Addr) (n c : Nat), k < m → vs[k]? = some (.slice (some A) n c) → MkB w A.block k n
theorem Mx.st {i m : Nat} {A : Option Addr} {n c : Nat} (h : Mx w vs m) (ho : Own1 w base vs) (hi : vs[i]? = some (.slice A n c)) (s : Sk w w' (A.map (·.block)) i) : Mx w' vs m := fun k A' n' c' hk hv =>
  (h k A' n' c' hk hv).st s fun hX => ho.inj hi hv (by rw [ownBlock_slice]; exact hX) (by rw [ownBlock_slice]; rfl)
theorem Mx.bel {m : Nat} (h : Mx w vs m) (hb : Below w.heap.size w w') : Mx w' vs m := fun k A n c hk hv => (h k A n c hk hv).st (X := none) (k := 0) (Sk.bel hb) (by simp)
/-- A grown slice: marks of list i, in list i's own block or in another one. -/
def Gd (w : World) (vs : List Value) (i : Nat) (v : Value) : Prop := ∃ b n c, v = .slice (some ⟨b, 0, none⟩) n c ∧ n ≤ c ∧ n ≤ 2199023255552 ∧ MkB w b i n ∧ ∀ (k : Nat) (u : Value), vs[k]? = some u → u.ownBlock = some b → k = i
theorem Gd.st {i m : Nat} {A : Option Addr} {n c : Nat} {v : Value} (h : Gd w vs m v) (hi : vs[i]? = some (.slice A n c)) (s : Sk w w' (A.map (·.block)) i) : Gd w' vs m v := by
  obtain ⟨b, n', c', e, h1, h2, hm, ht⟩ := h
  exact ⟨b, n', c', e, h1, h2, hm.st s fun hX => ht i _ hi (by rw [ownBlock_slice]; exact hX), ht⟩
/-- Nothing below base changes, and of what stood at the start the lists' blocks alone. -/
def Kp (w0 w : World) (vs : List Value) : Prop := w.os = w0.os ∧ w.tape = w0.tape ∧ w.output = w0.output ∧ w0.heap.size ≤ w.heap.size ∧ ∀ k, k < w0.heap.size → (∀ v ∈ vs, v.ownBlock ≠ some k) → w.heap[k]? = w0.heap[k]?
theorem Kp.refl (w : World) (vs : List Value) : Kp w w vs := ⟨rfl, rfl, rfl, Nat.le_refl _, fun _ _ _ => rfl⟩
theorem Kp.gr {A : Option Addr} (h : Kp w0 w vs) (g : Gr w w' A) (hA : ∀ a, A = some a → a.block < w0.heap.size → ∃ v ∈ vs, v.ownBlock = some a.block) : Kp w0 w' vs := by
  obtain ⟨h1, h2, h3, h4, h5⟩ := h
  refine ⟨g.os.trans h1, g.tape.trans h2, g.output.trans h3, Nat.le_trans h4 g.size, fun k hk hv => ?_⟩
  rw [← h5 k hk hv]
  refine g.block k (by omega) fun hk' => ?_
  cases A with
  | none => simp at hk'
  | some a =>
    simp only [Option.map_some, Option.some.injEq] at hk'
    obtain ⟨v, hm, hv'⟩ := hA a rfl (by rw [← hk']; exact hk)
    exact hv v hm (by rw [hv', ← hk'])
theorem Kp.bel (h : Kp w0 w vs) (hb : Below w.heap.size w w') : Kp w0 w' vs := h.gr (Gr.of_below none hb (Nat.le_refl _)) (by simp)
theorem Kp.below (h : Kp w0 w vs) (ho : ∀ v ∈ vs, ∀ g, v.ownBlock = some g → base ≤ g) (hb : base ≤ w0.heap.size) : Below base w0 w :=
  ⟨h.1, h.2.1, h.2.2.1, h.2.2.2.1, fun j hj => h.2.2.2.2 j (by omega) fun v hv hc => by have := ho v hv j hc; omega⟩
theorem Kp.rd {A : Option Addr} {n : Nat} {xs : List Value} (h : Kp w0 w vs) (hr : Rd w0 A n xs) (hA : ∀ a, A = some a → ∀ v ∈ vs, v.ownBlock ≠ some a.block) : Rd w A n xs := ⟨hr.1, fun hn => by
  obtain ⟨b, o, rfl, hb, hc⟩ := hr.2 hn
  exact ⟨b, o, rfl, Nat.lt_of_lt_of_le hb h.2.2.2.1, fun j u hu => by
    rw [World.cell?_of_block (a := ⟨b, o + j, none⟩) (h.2.2.2.2 b hb (hA _ rfl))]; exact hc j u hu⟩⟩
end
end Go.Proofs.Ytojncfdlddepdaa


/-
  Walks over the reference's mark, Spare, Kept and Over.
-/
namespace Go.Proofs.Ytojncfdlddepdaa
open Go.RowKit

section
variable {P : Program} {N : Nat} {ops : Array Oper} {Q : Exit → Act → World → Prop} {rest : List Oper} {L : FL} {w : World} {t e : TypeId} {z : Value} {bytes : Nat}
/-- A row of the call's own as a block that is known whole. -/
theorem Ow.ar {base n : Nat} {A : Option Addr} {xs : List Value} (h : Ow w base e A n n xs) (hn : 0 < n) : ∃ g, A = some ⟨g, 0, none⟩ ∧ base ≤ g ∧ Ar w g e xs := by
  rcases h.2 with ⟨_, h0⟩ | ⟨g, cap, cur, hv, hb, hg, hnc, _, hs, ht⟩
  · omega
  · injection hv with hA hn' hc
    subst hc
    refine ⟨g, hA, hb, ?_⟩
    rw [List.take_of_length_le (by simp; omega)] at ht
    subst ht
    simpa [Ar] using hg
theorem Ar.rd {g n : Nat} {cs : List Value} (h : Ar w g e cs) (hn : n ≤ cs.length) : Rd w (some ⟨g, 0, none⟩) n (cs.take n) := ⟨by simp; omega, fun _ => ⟨g, 0, rfl, h.lt, fun j u hu => by
  rw [h.cell, Nat.zero_add]
  rw [List.getElem?_take] at hu
  split at hu
  · exact hu
  · cases hu⟩⟩
theorem gr_setCell {g k : Nat} {u : Value} : Gr w (w.setCell ⟨g, k, none⟩ u) (some ⟨g, 0, none⟩) := ⟨rfl, rfl, rfl, by simp [World.setCell], fun j _ hj => by
  simp only [World.setCell, Array.getElem?_modify]
  rw [if_neg (by simp at hj; exact fun h => hj h.symm)]⟩
/-- A store into a block that is known whole. -/
theorem wl_storeA {x y : Operand} {ty : TypeId} {pos : String} {aft : Array Edge} {g kk : Nat} {u : Value} {cs : List Value} (T : Row1 P t e z bytes) (ha : Ar w g e cs) (hk : kk < cs.length)
    (hx : look L x = some (.pointer (some ⟨g, 0 + kk, none⟩))) (hy : look L y = some u) (h1 : u.oneCell' = true)
    (h : ∀ w', Ar w' g e (cs.set kk u) → Gr w w' (some ⟨g, 0, none⟩) → w'.heap.size = w.heap.size → WL P N ops Q rest L w') :
    WL P N ops Q (⟨none, .store e x y, ty, pos, aft, none⟩ :: rest) L w := by
  rw [Nat.zero_add] at hx
  refine wl_unitN (opu_store T hx hy h1 (v := cs[kk]) (by rw [ha.cell]; exact List.getElem?_eq_getElem hk) (ha.frozen kk)) ?_
  exact h _ (ha.setCell kk u) gr_setCell (by simp [World.setCell])
theorem wl_setH {d1 : Nat} {x i y : Operand} {ty1 ty2 : TypeId} {p1 p2 : String} {f1 f2 : Array Edge} {g n c kk : Nat} {ik : IntKind} {q : Int} {u : Value} {cs : List Value} (T : Row1 P t e z bytes)
    (hx : look L x = some (.slice (some ⟨g, 0, none⟩) n c)) (hi : look L i = some (.int ik q)) (ha : Ar w g e cs) (hq : q = (kk : Int)) (hk : kk < n) (hc : n ≤ cs.length)
    (hy : ∀ p, look ((d1, p) :: L) y = some u) (h1 : u.oneCell' = true) (hd1 : Nat.blt d1 N = true)
    (h : ∀ p w', Ar w' g e (cs.set kk u) → Gr w w' (some ⟨g, 0, none⟩) → w'.heap.size = w.heap.size → WL P N ops Q rest ((d1, p) :: L) w') :
    WL P N ops Q (⟨some d1, .indexAddr t x i, ty1, p1, f1, none⟩ :: ⟨none, .store e (.tmp d1) y, ty2, p2, f2, none⟩ :: rest) L w :=
  wl_val (opv_idx T hx hi hq hk) hd1 (wl_storeA T ha (by omega) (by simp [look, lookT]) (hy _) h1 (h _))
theorem Gr.belowA {w0 w w' : World} {B g : Nat} (h : Gr w w' (some ⟨g, 0, none⟩)) (h0 : Below B w0 w) (hg : B ≤ g) (hB : B ≤ w.heap.size) : Below B w0 w' :=
  h0.grown h hB fun k hk => by simp at hk; omega
end

theorem mark_any (i j : Nat) (hi : i ≤ 1099511627776) (hj : j ≤ 4398046511104) (w : World) : CallsV Try.prog 42 #[.int .i64 i, .int .i64 j] w fun v w' => v = mk i j ∧ w = w' := by
  refine calls_in (N := _) Try.func42 rfl Try.ntmps42 rfl ?_; show WC _ _ _ _ _ _
  refine wc_sr ?_; refine wl_as rfl rfl ?_; refine wl_ns ?_; refine wc_sr ?_; refine wl_mv rfl rfl ?_; apply wl_val; apply opv_bin; exact rfl; exact rfl; exact bin_mul64 (by omega); exact rfl; refine wl_mv rfl rfl ?_; apply wl_val; apply opv_bin; exact rfl; exact rfl; exact bin_mul64 (by omega); exact rfl; apply wl_val; apply opv_bin; exact rfl; exact rfl; exact bin_add64 (by omega); exact rfl; apply wl_val; apply opv_bin; exact rfl; exact rfl; exact bin_add64 (by omega); exact rfl; apply wl_val; apply opv_convR; exact rfl; exact Try.underlying3; exact Try.underlying5; exact wrap_nat rfl _; exact rfl; refine wl_as rfl rfl ?_; refine wl_ns ?_; refine wc_ret ?_
  exact we_ret1 rfl rfl ⟨_, rfl, by rw [mk, mkb, ← byte_of], rfl⟩

/-- Bytes with forty marked ones behind them. -/
def spareL (b : List UInt8) : List UInt8 := b ++ (List.range 40).map fun k => UInt8.ofNat (160 + (b.length + k) % 31)
theorem spareL_length (b : List UInt8) : (spareL b).length = b.length + 40 := by simp [spareL]
theorem spareL_take (b : List UInt8) : (spareL b).take b.length = b := by simp [spareL]
theorem spareL_low {b : List UInt8} {i : Nat} (h : i < b.length) : (spareL b)[i]? = b[i]? := by rw [spareL, List.getElem?_append_left h]
theorem spareL_high {b : List UInt8} {i : Nat} (h : ¬ i < b.length) (h2 : i < b.length + 40) : (spareL b)[i]? = some (UInt8.ofNat (160 + i % 31)) := by
  rw [spareL, List.getElem?_append_right (by omega)]
  simp [show i - b.length < 40 by omega, show b.length + (i - b.length) = i by omega]
theorem take_set_next {α : Type} {l m : List α} {i : Nat} {x : α} (hl : i < l.length) (h : l.take i = m.take i) (hx : m[i]? = some x) : (l.set i x).take (i + 1) = m.take (i + 1) := by
  rw [List.take_add_one, List.take_add_one, List.take_set_of_le (by omega), h, hx]
  simp [hl]
/-- A copy with spare room, and the whole of it. -/
def RetSp (w : World) (xs : List UInt8) (v : Value) (w' : World) : Prop :=
  ∃ g, v = .tuple #[.slice (some ⟨g, 0, none⟩) xs.length (xs.length + 40), .slice (some ⟨g, 0, none⟩) (xs.length + 40) (xs.length + 40)] ∧ w.heap.size ≤ g ∧ Ar w' g 5 (bvs (spareL xs)) ∧ Below w.heap.size w w'
theorem spare_any {A : Option Addr} {n c : Nat} {xs : List UInt8} {w : World} (hr : RdB w A xs) (hn : xs.length = n) (hl : xs.length ≤ 1099511627776) :
    CallsV Try.prog 20 #[.slice A n c] w (RetSp w xs) := by
  subst hn
  refine calls_in (N := _) Try.func20 rfl Try.ntmps20 rfl ?_; show WC _ _ _ _ _ _
  refine wc_sr ?_; refine wl_as rfl rfl ?_; refine wl_as rfl rfl ?_; refine wl_ns ?_; refine wc_sr ?_; refine wl_mv rfl rfl ?_; apply wl_val; apply opv_len; exact rfl; exact tyB.sl; exact rfl; apply wl_val; apply opv_bin; exact rfl; exact rfl; exact bin_add64 (by omega); exact rfl
  refine wl_mk (n := xs.length + 40) (c := xs.length + 40) tyB rfl rfl rfl rfl (by omega) (by omega) (by simp only [maxLen]; omega) rfl fun A1 w1 o1 hb1 _ => ?_
  obtain ⟨g, rfl, hg, a1⟩ := o1.ar (by omega)
  refine wl_as rfl rfl ?_; refine wl_ns ?_; refine wc_sr ?_; refine wl_mv rfl rfl ?_; refine wl_mv rfl rfl ?_
  refine wl_copy (g := g) (off := 0) tyB rfl rfl a1 (RdB.below hr hb1) (bvs_one _) (fun _ => rfl) (by omega) (by simp) rfl fun w2 a2 hb2 => ?_
  have hb := hb1.trans (hb2.mono hg)
  rw [List.take_zero, List.nil_append, Nat.zero_add] at a2
  refine wl_ns ?_; refine wc_seq ?_; refine wc_sr ?_; refine wl_mv rfl rfl ?_; apply wl_val; apply opv_len; exact rfl; exact tyB.sl; exact rfl; refine wl_as rfl rfl ?_; refine wl_ns ?_; refine wc_block ?_
  refine wc_loop (fun L wr m => ∃ (i : Nat) (cs : List Value), L = [(0, .slice A xs.length c), (4, .slice (some ⟨g, 0, none⟩) (xs.length + 40) (xs.length + 40)), (5, .int .i64 (i : Int))] ∧ xs.length ≤ i ∧ i ≤ xs.length + 40 ∧ cs.length = xs.length + 40 ∧ cs.take i = (bvs (spareL xs)).take i ∧ Ar wr g 5 cs ∧ Below w.heap.size w wr ∧ m = xs.length + 40 - i)
    [(0, .slice A xs.length c), (4, .slice (some ⟨g, 0, none⟩) (xs.length + 40) (xs.length + 40)), (5, .int .i64 (xs.length : Int))] 40 ⟨xs.length, _, rfl, by omega, by omega, by simp [bvs_length], ?_, a2, hb, by omega⟩ ⟨rfl, rfl, rfl, trivial⟩ ?_
  · rw [spareL, bvs_append, List.take_append_of_le_length (by rw [bvs_length]; omega), List.take_append_of_le_length (by rw [bvs_length]; omega)]
  rintro _ w3 m ⟨i, cs, rfl, hi, hi2, hcl, hct, a3, hb3, rfl⟩
  refine wc_seq ?_; refine wc_sr ?_; refine wl_mv rfl rfl ?_; refine wl_mv rfl rfl ?_; apply wl_val; apply opv_len; exact rfl; exact tyB.sl; exact rfl; refine wl_bin rfl rfl bin_lss rfl ?_; refine wl_ns ?_
  refine wc_cond rfl (fun h1 => ?_) (fun h1 => ?_)
  · have hx := spareL_high (b := xs) (i := i) (by omega) (by omega)
    have eu : Value.int .u8 (160 + ((i % 31 : Nat) : Int)) = bv (UInt8.ofNat (160 + i % 31)) := by
      unfold bv; rw [UInt8.toNat_ofNat', Nat.mod_eq_of_lt (show 160 + i % 31 < 2 ^ 8 by omega)]; rfl
    refine wc_skip ?_; refine we_seq ?_; refine wc_seq ?_; refine wc_block ?_; refine wc_region ?_; refine wl_mv rfl rfl ?_; refine wl_mv rfl rfl ?_; refine wl_mv rfl rfl ?_; apply wl_val; apply opv_bin; exact rfl; exact rfl; exact bin_rem (b := 31) (by decide); exact rfl; apply wl_val; apply opv_bin; exact rfl; exact rfl; exact bin_add64 (by omega); exact rfl; apply wl_val; apply opv_convR; exact rfl; exact Try.underlying3; exact Try.underlying5; exact IntWalk.u8_in _ (by omega); exact rfl
    refine wl_setH (n := xs.length + 40) (kk := i) tyB rfl rfl a3 rfl (by omega) (by omega) (fun _ => rfl) rfl rfl fun p w4 a4 g4 _ => ?_
    rw [eu] at a4
    have hb4 := g4.belowA hb3 hg hb3.size
    refine wl_nil ?_; refine we_block_norm ?_; refine we_seq ?_; refine wc_region ?_; refine wl_mv rfl rfl ?_; apply wl_val; apply opv_bin; exact rfl; exact rfl; exact bin_add64 (by omega); exact rfl; refine wl_as rfl rfl ?_; refine wl_nil ?_
    refine we_loop [(0, .slice A xs.length c), (4, .slice (some ⟨g, 0, none⟩) (xs.length + 40) (xs.length + 40)), (5, .int .i64 ((i + 1 : Nat) : Int))] (xs.length + 40 - (i + 1)) ⟨i + 1, _, rfl, by omega, by omega, by simpa using hcl, take_set_next (by omega) hct (by rw [bvs, List.getElem?_map, hx]; rfl), a4, hb4, rfl⟩ (by omega) ⟨rfl, rfl, by simp [lookT], trivial⟩
  · obtain rfl : i = xs.length + 40 := by omega
    rw [List.take_of_length_le (by omega), List.take_of_length_le (by rw [bvs_length, spareL_length]; omega)] at hct
    subst hct
    refine wc_exit ?_; refine we_seq_exit ?_; refine we_loop_exit ?_; refine we_block_exit ?_; refine we_seq ?_; refine wc_sr ?_; refine wl_mv rfl rfl ?_; refine wl_mv rfl rfl ?_; apply wl_val; apply opv_len; exact rfl; exact tyB.sl; exact rfl
    refine wl_sl (l := 0) (h := xs.length) tyB rfl rfl ⟨_, rfl⟩ (by omega) (by omega) rfl ?_
    refine wl_mv rfl rfl ?_; refine wl_as rfl rfl ?_; refine wl_as rfl rfl ?_; refine wl_ns ?_; refine wc_ret ?_
    refine we_ret2 rfl rfl rfl ⟨_, rfl, g, ?_, hg, a3, hb3⟩
    rw [cutA_zero]; rfl

theorem kept_yes {A B : Option Addr} {n m c d : Nat} {xs : List UInt8} {w : World} (hx : RdB w A (spareL xs)) (hy : RdB w B xs) (hn : xs.length + 40 = n) (hm : xs.length = m) (hl : xs.length ≤ 1099511627776) :
    CallsV Try.prog 21 #[.slice A n c, .slice B m d] w fun v w' => v = .bool true ∧ Below w.heap.size w w' := by
  subst hn hm
  have hsl := spareL_length xs
  refine calls_in (N := _) Try.func21 rfl Try.ntmps21 rfl ?_; show WC _ _ _ _ _ _
  refine wc_sr ?_; refine wl_as rfl rfl ?_; refine wl_ns ?_; refine wc_seq ?_; refine wc_sr ?_; refine wl_mv rfl rfl ?_; apply wl_val; apply opv_len; exact rfl; exact tyB.sl; exact rfl; refine wl_mv rfl rfl ?_; apply wl_val; apply opv_len; exact rfl; exact tyB.sl; exact rfl; apply wl_val; apply opv_bin; exact rfl; exact rfl; exact bin_add64 (by omega); exact rfl; refine wl_bin rfl rfl bin_neq rfl ?_; refine wl_ns ?_
  refine wc_cond rfl (fun h => absurd h (by omega)) (fun _ => ?_)
  refine wc_skip ?_; refine we_seq ?_; refine wc_seq ?_; refine wc_sr ?_; refine wl_as rfl rfl ?_; refine wl_ns ?_; refine wc_block ?_
  refine wc_loop (fun L wr m => ∃ i : Nat, L = [(0, .slice A (xs.length + 40) c), (1, .slice B xs.length d), (5, .int .i64 (i : Int))] ∧ i ≤ xs.length + 40 ∧ Below w.heap.size w wr ∧ m = xs.length + 40 - i)
    [(0, .slice A (xs.length + 40) c), (1, .slice B xs.length d), (5, .int .i64 (0 : Nat))] (xs.length + 40) ⟨0, rfl, by omega, Below.refl _ _, by omega⟩ ⟨rfl, rfl, rfl, trivial⟩ ?_
  rintro _ w1 m ⟨i, rfl, hi, hb1, rfl⟩
  have rx : Rd w1 A (xs.length + 40) (bvs (spareL xs)) := by have := RdB.below hx hb1; unfold RdB at this; rw [hsl] at this; exact this
  have ry := RdB.below hy hb1
  refine wc_seq ?_; refine wc_sr ?_; refine wl_mv rfl rfl ?_; refine wl_mv rfl rfl ?_; apply wl_val; apply opv_len; exact rfl; exact tyB.sl; exact rfl; refine wl_bin rfl rfl bin_lss rfl ?_; refine wl_ns ?_
  refine wc_cond rfl (fun h1 => ?_) (fun h1 => ?_)
  · by_cases hlow : i < xs.length
    · obtain ⟨x, hxi⟩ : ∃ x, xs[i]? = some x := ⟨_, List.getElem?_eq_getElem hlow⟩
      have hsi := (spareL_low hlow).trans hxi
      refine wc_skip ?_; refine we_seq ?_; refine wc_seq ?_; refine wc_block ?_; refine wc_seq ?_
      refine wc_drawB mixed (by kernel_rfl) ?_
      apply wq_val; intro _ hw_; apply opv_move; exact rfl; exact rfl; apply wq_val; intro _ hw_; apply opv_move; exact rfl; exact rfl; apply wq_val; intro _ hw_; apply opv_len; exact rfl; exact tyB.sl; exact rfl; apply wq_val; intro _ hw_; apply opv_bin; exact rfl; exact rfl; exact bin_lss; exact rfl; apply wq_val; intro _ hw_; apply opv_move; exact rfl; exact rfl; apply wq_take; exact rfl; exact rfl; exact rfl; refine bT ?_; omega; apply wq_val; intro _ hw_; apply opv_move; exact rfl; exact rfl; apply wq_take; exact rfl; exact rfl; exact rfl; refine bT ?_; omega; apply wq_val; intro _ hw_; apply opv_move; exact rfl; exact rfl; apply wq_byTK (T := tyB) (hr := rx) (hb := hsi); exact rfl; exact rfl; exact rfl; refine bT ?_; omega; exact rfl; exact rfl; exact rfl; exact rfl; refine bT ?_; omega; exact rfl; exact rfl; exact rfl; exact rfl; exact rfl; intro _; apply wq_take; exact rfl; exact rfl; exact rfl; refine bT ?_; omega; apply wq_val; intro _ hw_; apply opv_move; exact rfl; exact rfl; apply wq_take; exact rfl; exact rfl; exact rfl; refine bT ?_; omega; apply wq_val; intro _ hw_; apply opv_move; exact rfl; exact rfl; apply wq_byTK (T := tyB) (hr := ry) (hb := hxi); exact rfl; exact rfl; exact rfl; refine bT ?_; omega; exact rfl; exact rfl; exact rfl; exact rfl; refine bT ?_; omega; exact rfl; exact rfl; exact rfl; exact rfl; exact rfl; intro _; apply wq_take; exact rfl; exact rfl; exact rfl; refine bT ?_; omega; apply wq_val; intro _ hw_; apply opv_bin; exact rfl; exact rfl; exact bin_neq; exact rfl; apply wq_val; intro _ hw_; apply opv_pickT; exact rfl; refine bT ?_; omega; exact rfl; exact rfl; apply wq_val; intro _ hw_; apply opv_move; exact rfl; exact rfl; apply wq_take; exact rfl; exact rfl; exact rfl; refine bF ?_; (with_reducible exact nne); apply wq_val; intro _ hw_; apply opv_move; exact rfl; exact rfl; apply wq_take; exact rfl; exact rfl; exact rfl; refine bF ?_; (with_reducible exact nne); apply wq_val; intro _ hw_; apply opv_move; exact rfl; exact rfl; apply wq_take; exact rfl; exact rfl; exact rfl; refine bF ?_; (with_reducible exact nne); apply wq_val; intro _ hw_; apply opv_len; exact rfl; exact tyB.sl; exact rfl; apply wq_take; exact rfl; exact rfl; exact rfl; refine bF ?_; (with_reducible exact nne); apply wq_val; intro _ hw_; apply opv_bin; exact rfl; exact rfl; exact bin_geq; exact rfl; apply wq_take; exact rfl; exact rfl; exact rfl; refine bF ?_; (with_reducible exact nne); apply wq_val; intro _ hw_; apply opv_move; exact rfl; exact rfl; apply wq_skip; exact rfl; exact rfl; exact rfl; refine bFn ?_; omega; exact rfl; apply wq_skip; exact rfl; exact rfl; exact rfl; refine bFn ?_; omega; exact rfl; apply wq_skip; exact rfl; exact rfl; exact rfl; refine bFn ?_; omega; exact rfl; apply wq_skip; exact rfl; exact rfl; exact rfl; refine bFn ?_; omega; exact rfl; apply wq_skip; exact rfl; exact rfl; exact rfl; refine bFn ?_; omega; exact rfl; apply wq_skip; exact rfl; exact rfl; exact rfl; refine bFn ?_; omega; exact rfl; apply wq_skip; exact rfl; exact rfl; exact rfl; refine bFn ?_; omega; exact rfl; apply wq_skip; exact rfl; exact rfl; exact rfl; refine bFn ?_; omega; exact rfl; apply wq_skip; exact rfl; exact rfl; exact rfl; refine bFn ?_; omega; exact rfl; apply wq_take; exact rfl; exact rfl; exact rfl; refine bF ?_; (with_reducible exact nne); apply wq_val; intro _ hw_; apply opv_pickF; exact rfl; refine bF ?_; omega; exact rfl; exact rfl; apply wq_val; intro _ hw_; apply opv_pickF; exact rfl; refine bF ?_; (with_reducible exact nne); exact rfl; exact rfl; refine wq_nil fun w1 hw1 => ?_
      refine we_seq ?_
      refine wc_condF rfl ?_
      refine wc_skip ?_; refine we_block_norm ?_; refine we_seq ?_; refine wc_region ?_; refine wl_mv rfl rfl ?_; apply wl_val; apply opv_bin; exact rfl; exact rfl; exact bin_add64 (by omega); exact rfl; refine wl_as rfl rfl ?_; refine wl_nil ?_
      refine we_loop [(0, .slice A (xs.length + 40) c), (1, .slice B xs.length d), (5, .int .i64 ((i + 1 : Nat) : Int))] (xs.length + 40 - (i + 1)) ⟨i + 1, rfl, by omega, hb1.trans (hw1.mono hb1.size), rfl⟩ (by omega) ⟨rfl, rfl, by simp [lookT], trivial⟩
    · have hsi := spareL_high (b := xs) (i := i) hlow (by omega)
      obtain ⟨y, hy0⟩ : ∃ y, UInt8.ofNat (160 + i % 31) = y := ⟨_, rfl⟩
      have hyn : y.toNat = 160 + i % 31 := by rw [← hy0, UInt8.toNat_ofNat', Nat.mod_eq_of_lt (show 160 + i % 31 < 2 ^ 8 by omega)]
      rw [hy0] at hsi
      refine wc_skip ?_; refine we_seq ?_; refine wc_seq ?_; refine wc_block ?_; refine wc_seq ?_
      refine wc_drawB mixed (by kernel_rfl) ?_
      apply wq_val; intro _ hw_; apply opv_move; exact rfl; exact rfl; apply wq_val; intro _ hw_; apply opv_move; exact rfl; exact rfl; apply wq_val; intro _ hw_; apply opv_len; exact rfl; exact tyB.sl; exact rfl; apply wq_val; intro _ hw_; apply opv_bin; exact rfl; exact rfl; exact bin_lss; exact rfl; apply wq_val; intro _ hw_; apply opv_move; exact rfl; exact rfl; apply wq_skip; exact rfl; exact rfl; exact rfl; refine bFn ?_; omega; exact rfl; apply wq_skip; exact rfl; exact rfl; exact rfl; refine bFn ?_; omega; exact rfl; apply wq_skip; exact rfl; exact rfl; exact rfl; refine bFn ?_; omega; exact rfl; apply wq_skip; exact rfl; exact rfl; exact rfl; refine bFn ?_; omega; exact rfl; apply wq_skip; exact rfl; exact rfl; exact rfl; refine bFn ?_; omega; exact rfl; apply wq_skip; exact rfl; exact rfl; exact rfl; refine bFn ?_; omega; exact rfl; apply wq_skip; exact rfl; exact rfl; exact rfl; refine bFn ?_; omega; exact rfl; apply wq_skip; exact rfl; exact rfl; exact rfl; refine bFn ?_; omega; exact rfl; apply wq_skip; exact rfl; exact rfl; exact rfl; refine bFn ?_; omega; exact rfl; apply wq_val; intro _ hw_; apply opv_pickF; exact rfl; refine bF ?_; omega; exact rfl; exact rfl; apply wq_val; intro _ hw_; apply opv_move; exact rfl; exact rfl; apply wq_take; exact rfl; exact rfl; exact rfl; exact rfl; apply wq_val; intro _ hw_; apply opv_move; exact rfl; exact rfl; apply wq_take; exact rfl; exact rfl; exact rfl; exact rfl; apply wq_val; intro _ hw_; apply opv_move; exact rfl; exact rfl; apply wq_take; exact rfl; exact rfl; exact rfl; exact rfl; apply wq_val; intro _ hw_; apply opv_len; exact rfl; exact tyB.sl; exact rfl; apply wq_take; exact rfl; exact rfl; exact rfl; exact rfl; apply wq_val; intro _ hw_; apply opv_bin; exact rfl; exact rfl; exact bin_geq; exact rfl; apply wq_take; exact rfl; exact rfl; exact rfl; exact rfl; apply wq_val; intro _ hw_; apply opv_move; exact rfl; exact rfl; apply wq_take; exact rfl; exact rfl; exact rfl; refine bT ?_; omega; apply wq_val; intro _ hw_; apply opv_move; exact rfl; exact rfl; apply wq_take; exact rfl; exact rfl; exact rfl; refine bT ?_; omega; apply wq_val; intro _ hw_; apply opv_move; exact rfl; exact rfl; apply wq_byTK (T := tyB) (hr := rx) (hb := hsi); exact rfl; exact rfl; exact rfl; refine bT ?_; omega; exact rfl; exact rfl; exact rfl; exact rfl; refine bT ?_; omega; exact rfl; exact rfl; exact rfl; exact rfl; exact rfl; intro _; apply wq_take; exact rfl; exact rfl; exact rfl; refine bT ?_; omega; apply wq_val; intro _ hw_; apply opv_move; exact rfl; exact rfl; apply wq_take; exact rfl; exact rfl; exact rfl; refine bT ?_; omega; apply wq_val; intro _ hw_; apply opv_bin; exact rfl; exact rfl; exact bin_rem (b := 31) (by decide); exact rfl; apply wq_take; exact rfl; exact rfl; exact rfl; refine bT ?_; omega; apply wq_val; intro _ hw_; apply opv_bin; exact rfl; exact rfl; exact bin_add64 (by omega); exact rfl; apply wq_take; exact rfl; exact rfl; exact rfl; refine bT ?_; omega; apply wq_val; intro _ hw_; apply opv_convR; exact rfl; exact Try.underlying3; exact Try.underlying5; exact IntWalk.u8_in _ (by omega); exact rfl; apply wq_take; exact rfl; exact rfl; exact rfl; refine bT ?_; omega; apply wq_val; intro _ hw_; apply opv_bin; exact rfl; exact rfl; exact bin_neq; exact rfl; apply wq_take; exact rfl; exact rfl; exact rfl; exact rfl; apply wq_val; intro _ hw_; apply opv_pickT; exact rfl; refine bT ?_; omega; exact rfl; exact rfl; apply wq_val; intro _ hw_; apply opv_pickF; exact rfl; exact rfl; exact rfl; exact rfl; refine wq_nil fun w1 hw1 => ?_
      refine we_seq ?_
      refine wc_cond rfl (fun h => absurd h (by omega)) (fun _ => ?_)
      refine wc_skip ?_; refine we_block_norm ?_; refine we_seq ?_; refine wc_region ?_; refine wl_mv rfl rfl ?_; apply wl_val; apply opv_bin; exact rfl; exact rfl; exact bin_add64 (by omega); exact rfl; refine wl_as rfl rfl ?_; refine wl_nil ?_
      refine we_loop [(0, .slice A (xs.length + 40) c), (1, .slice B xs.length d), (5, .int .i64 ((i + 1 : Nat) : Int))] (xs.length + 40 - (i + 1)) ⟨i + 1, rfl, by omega, hb1.trans (hw1.mono hb1.size), rfl⟩ (by omega) ⟨rfl, rfl, by simp [lookT], trivial⟩
  · refine wc_exit ?_; refine we_seq_exit ?_; refine we_loop_exit ?_; refine we_block_exit ?_; refine we_seq ?_; refine wc_sr ?_; refine wl_as rfl rfl ?_; refine wl_ns ?_; refine wc_ret ?_
    exact we_ret1 rfl rfl ⟨_, rfl, rfl, hb1⟩

end Go.Proofs.Ytojncfdlddepdaa


/-
  The walk over the reference's Apart: lists that each lie at the head of a block of their own are told to be apart.
-/
namespace Go.Proofs.Ytojncfdlddepdaa
open Go.RowKit

section
variable {w w' w0 w1 : World} {A A' : Option Addr} {vs : List Value} {base n c i j : Nat}
theorem Own1.hd (h : Own1 w base vs) (hv : vs[i]? = some (.slice A n c)) : Hd w base A n c ∧ n ≤ 1099511627776 := by
  obtain ⟨A', n', c', e, h1, h2⟩ := h.at hv
  injection e with hA hn hc
  subst hA hn hc
  exact ⟨h1, h2⟩
theorem Own1.lt (h : Own1 w base vs) {v : Value} {g : Nat} (hv : v ∈ vs) (hg : v.ownBlock = some g) : g < w.heap.size ∧ base ≤ g := by
  obtain ⟨A, n, c, rfl, hd, _⟩ := h.1 v hv
  rw [ownBlock_slice] at hg
  rcases hd with ⟨rfl, _⟩ | ⟨g', cs, rfl, hb, ha, _⟩
  · simp at hg
  · simp at hg; subst hg; exact ⟨ha.lt, hb⟩
theorem Rd.cellAt {b o N : Nat} {v : Value} (h : Rd w (some ⟨b, o, none⟩) N vs) (hv : vs[i]? = some v) : w.cell? ⟨b, o + i, none⟩ = some v := by
  have hl := (List.getElem?_eq_some_iff.1 hv).1
  obtain ⟨b', o', e, _, hc⟩ := h.2 (by have := h.1; omega)
  injection e with e
  injection e with e1 e2
  subst e1 e2
  exact hc i v hv
theorem MkB.cs {b : Nat} {cs : List Value} (h : MkB w b i n) (ha : Ar w b 5 cs) : n ≤ cs.length ∧ ∀ j, j < n → cs[j]? = some (mk i j) := by
  obtain ⟨ds, hd, h1, h2⟩ := h
  have e : ds = cs := by
    unfold Ar at ha hd
    rw [ha] at hd
    simp only [Option.some.injEq, Obj.cells.injEq] at hd
    have := congrArg Array.toList hd.1
    simpa using this.symm
  subst e
  exact ⟨h1, h2⟩
theorem MkB.take {b : Nat} {cs : List Value} (h : MkB w b i n) (ha : Ar w b 5 cs) : cs.take n = bvs (mkl i n) := by
  obtain ⟨h1, h2⟩ := h.cs ha
  refine List.ext_getElem? fun j => ?_
  rw [List.getElem?_take, bvs, List.getElem?_map]
  by_cases hj : j < n
  · rw [if_pos hj, mkl_get hj, h2 j hj]; rfl
  · rw [if_neg hj, List.getElem?_eq_none (by rw [mkl_length]; omega)]; rfl
theorem set_marks {cs : List Value} : ∀ j' u, (cs.set j (mk i j))[j']? = some u → cs[j']? = some u ∨ u = mk i j' := fun j' u hu => by
  rw [List.getElem?_set] at hu
  split at hu
  · rename_i h
    subst h
    split at hu
    · simp at hu; exact .inr hu.symm
    · cases hu
  · exact .inl hu
theorem MkB.set {b : Nat} {cs : List Value} (h : MkB w b i j) (ha : Ar w b 5 cs) (hj : j < cs.length) (ha' : Ar w' b 5 (cs.set j (mk i j))) : MkB w' b i (j + 1) := by
  obtain ⟨_, h2⟩ := h.cs ha
  refine ⟨_, ha', by simp; omega, fun j' hj' => ?_⟩
  rw [List.getElem?_set]
  by_cases he : j = j'
  · subst he; simp [hj]
  · rw [if_neg he]; exact h2 j' (by omega)
/-- Marks from place n on. -/
def mkt (i n m : Nat) : List UInt8 := (List.range m).map fun k => mkb i (n + k)
theorem mkt_length {m : Nat} : (mkt i n m).length = m := by simp [mkt]
theorem mkt_get {m k : Nat} (h : k < m) : (mkt i n m)[k]? = some (mkb i (n + k)) := by simp [mkt, h]
theorem mkl_add {m : Nat} : mkl i (n + m) = mkl i n ++ mkt i n m := by
  refine List.ext_getElem? fun j => ?_
  by_cases h : j < n
  · rw [List.getElem?_append_left (by rw [mkl_length]; exact h), mkl_get h, mkl_get (by omega)]
  · rw [List.getElem?_append_right (by rw [mkl_length]; omega), mkl_length]
    by_cases h2 : j < n + m
    · rw [mkl_get h2, mkt_get (by omega)]; congr 2; omega
    · rw [List.getElem?_eq_none (by rw [mkl_length]; omega), List.getElem?_eq_none (by rw [mkt_length]; omega)]
theorem MkB.app {b m : Nat} {cs : List Value} (h : MkB w b i n) (ha : Ar w b 5 cs) (hm : n + m ≤ cs.length) (ha' : Ar w' b 5 (cs.take n ++ (bvs (mkt i n m) ++ cs.drop (n + m)))) : MkB w' b i (n + m) := by
  obtain ⟨h1, h2⟩ := h.cs ha
  refine ⟨_, ha', by simp [bvs_length, mkt_length]; omega, fun j hj => ?_⟩
  have hl : (cs.take n).length = n := by simp; omega
  by_cases h : j < n
  · rw [List.getElem?_append_left (by omega), List.getElem?_take, if_pos h]; exact h2 j h
  · rw [List.getElem?_append_right (by omega), hl, List.getElem?_append_left (by rw [bvs_length, mkt_length]; omega), bvs, List.getElem?_map, mkt_get (by omega), show n + (j - n) = j by omega]; rfl
theorem app_marks {m : Nat} {cs : List Value} (hm : n + m ≤ cs.length) : ∀ j u, (cs.take n ++ (bvs (mkt i n m) ++ cs.drop (n + m)))[j]? = some u → cs[j]? = some u ∨ u = mk i j := fun j u hu => by
  have hl : (cs.take n).length = n := by simp; omega
  by_cases h : j < n
  · rw [List.getElem?_append_left (by omega), List.getElem?_take, if_pos h] at hu; exact .inl hu
  · rw [List.getElem?_append_right (by omega), hl] at hu
    by_cases h2 : j < n + m
    · rw [List.getElem?_append_left (by rw [bvs_length, mkt_length]; omega), bvs, List.getElem?_map, mkt_get (by omega), show n + (j - n) = j by omega] at hu
      simp at hu; exact .inr hu.symm
    · rw [List.getElem?_append_right (by rw [bvs_length, mkt_length]; omega), bvs_length, mkt_length, List.getElem?_drop, show n + m + (j - n - m) = j by omega] at hu
      exact .inl hu
theorem Mx.succ (h : Mx w vs i) (hv : vs[i]? = some (.slice A n c)) (hm : ∀ a, A = some a → MkB w a.block i n) : Mx w vs (i + 1) := fun k A' n' c' hk hv' => by
  by_cases he : k = i
  · subst he
    rw [hv] at hv'
    simp only [Option.some.injEq] at hv'
    injection hv' with hA hn hc
    subst hn
    exact hm A' hA
  · exact h k A' n' c' (by omega) hv'
theorem Sk.far {X : Option Nat} (h : Sk w w1 X i) (hs : w.heap.size ≤ w1.heap.size) (g : Gr w1 w' A') (hA : ∀ a, A' = some a → w.heap.size ≤ a.block) : Sk w w' X i := fun b cs ha => by
  obtain ⟨cs', a1, l1, r⟩ := h b cs ha
  refine ⟨cs', ?_, l1, r⟩
  unfold Ar
  rw [g.block b a1.lt fun hk => ?_]
  · exact a1
  · cases A' with
    | none => simp at hk
    | some a => simp at hk; have := hA a rfl; have := ha.lt; omega
theorem Gr.far (h : Gr w w1 A) (g : Gr w1 w' A') (hA : ∀ a, A' = some a → w.heap.size ≤ a.block) : Gr w w' A :=
  ⟨g.os.trans h.os, g.tape.trans h.tape, g.output.trans h.output, Nat.le_trans h.size g.size, fun k hk hne => by
    rw [← h.block k hk hne]
    refine g.block k (Nat.lt_of_lt_of_le hk h.size) fun hk' => ?_
    cases A' with
    | none => simp at hk'
    | some a => simp at hk'; have := hA a rfl; omega⟩
theorem Gr.bel (h : Gr w w1 A) (g : Below w1.heap.size w1 w') : Gr w w' A := h.far (Gr.of_below none g (Nat.le_refl _)) (by simp)
/-- What stands of all that is followed. -/
def Sd (w0 w : World) (base : Nat) (vs : List Value) (N : Nat) (P : Option Addr) (cp : Nat) (gs : List Value) : Prop :=
  Own1 w base vs ∧ Mx w vs N ∧ Kp w0 w vs ∧ Ow w w0.heap.size 25 P gs.length cp gs ∧ ∀ k v, gs[k]? = some v → Gd w vs (k % N) v
variable {N cp : Nat} {P : Option Addr} {gs : List Value}
theorem Sd.bel (h : Sd w0 w base vs N P cp gs) (hb : Below w.heap.size w w') : Sd w0 w' base vs N P cp gs := by
  obtain ⟨h1, h2, h3, h4, h5⟩ := h
  refine ⟨h1.st (X := none) (k := 0) (Sk.bel hb), h2.bel hb, h3.bel hb, Ow.below h4 hb (Nat.le_refl _), fun k v hv => ?_⟩
  obtain ⟨b, n, c, e, hn, hn2, hm, ht⟩ := h5 k v hv
  exact ⟨b, n, c, e, hn, hn2, hm.st (X := none) (k := 0) (Sk.bel hb) (by simp), ht⟩
/-- A step that writes marks of list i into its own block alone. -/
theorem Sd.gr (h : Sd w0 w base vs N P cp gs) (hv : vs[i]? = some (.slice A n c)) (s : Sk w w' (A.map (·.block)) i) (g : Gr w w' A) (hv0 : ∀ a, A = some a → a.block < w0.heap.size) : Sd w0 w' base vs N P cp gs := by
  obtain ⟨h1, h2, h3, h4, h5⟩ := h
  refine ⟨h1.st s, h2.st h1 hv s, h3.gr g fun a ha _ => ⟨_, List.mem_of_getElem? hv, by rw [ha]; rfl⟩, Ow.gr (base' := 0) (e' := 0) h4 g fun a b ha hb => ?_, fun k v hk => (h5 k v hk).st hv s⟩
  have := (Ow.lt h4 a ha).1
  have := hv0 b hb
  omega
/-- A grown slice that has come to lie in a block of its own. -/
theorem gd_new {b0 : Nat} (h : Ow w b0 5 A' n c (bvs (mkl i n))) (hn : 0 < n) (hn2 : n ≤ 2199023255552) (hb : w0.heap.size ≤ b0) (ho : Own1 w0 base vs) : Gd w vs i (.slice A' n c) := by
  rcases h.2 with ⟨_, h0⟩ | ⟨g, cap, cur, hv, hbg, hg, hnc, _, hs, ht⟩
  · omega
  · injection hv with hA hn' hc
    subst hA hc
    refine ⟨g, n, c, rfl, hnc, hn2, ⟨cur.toList, by simpa [Ar] using hg, by simp; omega, fun j hj => ?_⟩, fun k u hu hub => ?_⟩
    · have e : (cur.toList.take n)[j]? = some (mk i j) := by
        rw [show cur.toList.take n = bvs (mkl i n) by simpa using ht, bvs, List.getElem?_map, mkl_get hj]; rfl
      rw [List.getElem?_take, if_pos hj] at e
      exact e
    · have := (ho.lt (List.mem_of_getElem? hu) hub).1
      omega
/-- A grown slice that lies in its list's own block. -/
theorem gd_own {g : Nat} (h : MkB w g i n) (hn : n ≤ c) (hn2 : n ≤ 2199023255552) {n0 c0 : Nat} (hv : vs[i]? = some (.slice (some ⟨g, 0, none⟩) n0 c0)) (ho : Own1 w base vs) : Gd w vs i (.slice (some ⟨g, 0, none⟩) n c) :=
  ⟨g, n, c, rfl, hn, hn2, h, fun k u hu hub => ho.inj hu hv hub rfl⟩
theorem Sd.push {cp' : Nat} {P' : Option Addr} {v : Value} (h : Sd w0 w base vs N P cp gs) (ho : Ow w' w0.heap.size 25 P' (gs.length + 1) cp' (gs ++ [v])) (g : Gr w w' P) (hg : Gd w vs (gs.length % N) v) : Sd w0 w' base vs N P' cp' (gs ++ [v]) := by
  obtain ⟨h1, h2, h3, h4, h5⟩ := h
  have s : ∀ k, Sk w w' none k := fun k => by
    rcases h4.2 with ⟨hv, _⟩ | ⟨g', cap, cur, hv, _, hg', _⟩
    · injection hv with hA
      subst hA
      exact Sk.other (g := 0) (t := 25) (cs := []) g (by simp) (.inl rfl) (by decide)
    · injection hv with hA
      subst hA
      exact Sk.other (g := g') (t := 25) (cs := cur.toList) g (by intro a ha; cases ha; rfl) (.inr (by simpa [Ar] using hg')) (by decide)
  have hk : ∀ {m : Nat} {u : Value}, Gd w vs m u → Gd w' vs m u := fun {m u} hgd => by
    obtain ⟨b, n, c, e, hn, hn2, hm, ht⟩ := hgd
    exact ⟨b, n, c, e, hn, hn2, hm.st (s 0) (by simp), ht⟩
  refine ⟨h1.st (s 0), fun k A n c hk hv => (h2 k A n c hk hv).st (s 0) (by simp), h3.gr g fun a ha hlt => ?_, by rw [List.length_append]; exact ho, fun k u hu => ?_⟩
  · have := (Ow.lt h4 a ha).1; omega
  · rw [List.getElem?_append] at hu
    split at hu
    · exact hk (h5 k u hu)
    · have hk0 : k = gs.length := by
        have := (List.getElem?_eq_some_iff.1 hu).1
        simp at this; omega
      subst hk0
      simp at hu
      subst hu
      exact hk hg
end
end Go.Proofs.Ytojncfdlddepdaa


/-
  The walk over the reference's Apart.
-/
namespace Go.Proofs.Ytojncfdlddepdaa
open Go.RowKit

/-- Phase 1: every list is filled with its marks. -/
def Ap1 (w0 w : World) (base : Nat) (vs : List Value) (i : Nat) : Prop := Own1 w base vs ∧ Mx w vs i ∧ Kp w0 w vs
theorem apartK_any {Lp : Option Addr} {N c base : Nat} {vs : List Value} {w : World} (hr : Rd w Lp N vs) (hL : ∀ a, Lp = some a → ∀ v ∈ vs, v.ownBlock ≠ some a.block) (ho : Own1 w base vs) (hb : base ≤ w.heap.size) (hN : N ≤ 4194304) :
    CallsV Try.prog 22 #[.slice Lp N c] w fun v w' => v = .bool true ∧ Kp w w' vs := by
  have hvl : vs.length = N := hr.1
  have hlt0 : ∀ {A : Option Addr} {n c i : Nat}, vs[i]? = some (.slice A n c) → ∀ a, A = some a → a.block < w.heap.size := fun hv a ha => (ho.lt (List.mem_of_getElem? hv) (by rw [ownBlock_slice, ha]; rfl)).1
  refine calls_in (N := _) Try.func22 rfl Try.ntmps22 rfl ?_; show WC _ _ _ _ _ _
  refine wc_sr ?_; refine wl_as rfl rfl ?_; refine wl_ns ?_; refine wc_seq ?_; refine wc_sr ?_; refine wl_as rfl rfl ?_; refine wl_ns ?_; refine wc_block ?_
  refine wc_loop (fun L wr m => ∃ i : Nat, L = [(0, .slice Lp N c), (3, .int .i64 (i : Int))] ∧ i ≤ N ∧ Ap1 w wr base vs i ∧ m = N - i)
    [(0, .slice Lp N c), (3, .int .i64 (0 : Nat))] N ⟨0, rfl, by omega, ⟨ho, fun k A n c hk => by omega, Kp.refl _ _⟩, rfl⟩ ⟨rfl, rfl, trivial⟩ ?_
  rintro _ w1 m ⟨i, rfl, hi, ⟨o1, m1, k1⟩, rfl⟩
  refine wc_seq ?_; refine wc_sr ?_; refine wl_mv rfl rfl ?_; refine wl_mv rfl rfl ?_; apply wl_val; apply opv_len; exact rfl; exact tyBB.sl; exact rfl; refine wl_bin rfl rfl bin_lss rfl ?_; refine wl_ns ?_
  refine wc_cond rfl (fun h1 => ?_) (fun h1 => ?_)
  · obtain ⟨v, hv⟩ : ∃ v, vs[i]? = some v := ⟨_, List.getElem?_eq_getElem (by omega)⟩
    obtain ⟨A, n, cc, rfl, hd1, hnl⟩ := o1.at hv
    refine wc_skip ?_; refine we_seq ?_; refine wc_seq ?_; refine wc_block ?_; refine wc_sr ?_; refine wl_as rfl rfl ?_; refine wl_ns ?_; refine wc_block ?_
    refine wc_loop (fun L wr m => ∃ j : Nat, L = [(0, .slice Lp N c), (3, .int .i64 (i : Int)), (4, .int .i64 (j : Int))] ∧ j ≤ n ∧ Ap1 w wr base vs i ∧ (∀ a, A = some a → MkB wr a.block i j) ∧ m = n - j)
      [(0, .slice Lp N c), (3, .int .i64 (i : Int)), (4, .int .i64 (0 : Nat))] n ⟨0, rfl, by omega, ⟨o1, m1, k1⟩, ?_, rfl⟩ ⟨rfl, rfl, rfl, trivial⟩ ?_
    · intro a ha
      rcases hd1 with ⟨h, _⟩ | ⟨g, cs, h, _, ha1, _⟩
      · rw [h] at ha; cases ha
      · rw [h] at ha; cases ha
        exact ⟨cs, ha1, by omega, by omega⟩
    rintro _ w2 m ⟨j, rfl, hj, ⟨o2, m2, k2⟩, b2, rfl⟩
    have r2 := k2.rd hr hL
    refine wc_seq ?_; refine wc_sr ?_; refine wl_mv rfl rfl ?_; refine wl_mv rfl rfl ?_; refine wl_mv rfl rfl ?_; apply wl_elK (T := tyBB) (hr := r2) (hb := hv); exact rfl; exact rfl; exact rfl; exact rfl; exact rfl; intro _; apply wl_val; apply opv_len; exact rfl; exact tyB.sl; exact rfl; refine wl_bin rfl rfl bin_lss rfl ?_; refine wl_ns ?_
    refine wc_cond rfl (fun h2 => ?_) (fun h2 => ?_)
    · have hd2 := (o2.hd hv).1
      rcases hd2 with ⟨_, h0, _⟩ | ⟨g, cs, rfl, hg, ha, hnc, hcc⟩
      · omega
      obtain ⟨bl, ol, rfl, _, _⟩ := hr.2 (by omega)
      have mb := b2 _ rfl
      have hgr := (Gr.of_below (some ⟨g, 0, none⟩) ((Below.refl w2.heap.size w2).drew) (Nat.le_refl _))
      refine wc_skip ?_; refine we_seq ?_; refine wc_seq ?_; refine wc_block ?_
      refine wc_held (fun w' => Rd w' (some ⟨bl, ol, none⟩) N vs) mixed ?_
      apply wh_take 0; exact rfl; kernel_rfl; kernel_rfl; kernel_rfl; exact r2; intro _ hw_; apply opv_move; exact rfl; exact rfl; apply wh_take 1; exact rfl; kernel_rfl; kernel_rfl; kernel_rfl; exact r2; intro _ hw_; apply opv_move; exact rfl; exact rfl
      refine wh_take 2 rfl (by kernel_rfl) (by kernel_rfl) (by kernel_rfl) r2 (fun _ _ => opv_idx (kk := i) tyBB rfl rfl rfl (by omega)) rfl ?_
      refine wh_take 3 rfl (by kernel_rfl) (by kernel_rfl) (by kernel_rfl) r2 (fun _ hw => opv_load tyBB rfl (hw.cellAt hv)) rfl ?_
      apply wh_take 4; exact rfl; kernel_rfl; kernel_rfl; kernel_rfl; exact r2; intro _ hw_; apply opv_move; exact rfl; exact rfl; apply wh_take 5; exact rfl; kernel_rfl; kernel_rfl; kernel_rfl; exact r2; intro _ hw_; apply opv_move; exact rfl; exact rfl; apply wh_take 6; exact rfl; kernel_rfl; kernel_rfl; kernel_rfl; exact r2; intro _ hw_; apply opv_move; exact rfl; exact rfl
      refine wh_one 7 (o := ⟨_, _, _, _, _, _⟩) (by kernel_rfl) rfl ?_
      refine wl_call ok_caissonref01_mark (mark_any i j (by omega) (by omega) _) ⟨rfl, rfl, trivial⟩ rfl ?_
      rintro _ _ ⟨rfl, rfl⟩
      refine wl_nil ?_
      refine we_held r2 ?_
      refine wh_take 8 rfl (by kernel_rfl) (by kernel_rfl) (by kernel_rfl) r2 (fun _ _ => opv_idx (kk := j) tyB rfl rfl rfl (by omega)) rfl ?_
      refine wh_one 9 (o := ⟨_, _, _, _, _, _⟩) (by kernel_rfl) rfl ?_
      refine wl_storeA (w := w2.drew) (kk := j) tyB ha (by omega) rfl rfl rfl fun w3 a3 g3 _ => ?_
      have g3' := hgr.trans g3
      have s3 : Sk w2 w3 (some g) i := Sk.at g3' ha a3 (by simp) set_marks
      have o3 := o2.st s3
      have m3 := m2.st o2 hv s3
      have k3 := k2.gr g3' fun a ha' _ => ⟨_, List.mem_of_getElem? hv, by rw [ownBlock_slice, ha']; rfl⟩
      have b3 := mb.set ha (by omega) a3
      have r3 := k3.rd hr hL
      refine wl_nil ?_
      refine we_held r3 ?_
      refine wh_done (by kernel_rfl) ?_
      refine we_block_norm ?_; refine we_seq ?_; refine wc_region ?_; refine wl_mv rfl rfl ?_; apply wl_val; apply opv_bin; exact rfl; exact rfl; exact bin_add64 (by omega); exact rfl; refine wl_as rfl rfl ?_; refine wl_nil ?_
      refine we_loop [(0, .slice (some ⟨bl, ol, none⟩) N c), (3, .int .i64 (i : Int)), (4, .int .i64 ((j + 1 : Nat) : Int))] (n - (j + 1)) ⟨j + 1, rfl, by omega, ⟨o3, m3, k3⟩, by intro a ha; cases ha; exact b3, rfl⟩ (by omega) ⟨rfl, rfl, by simp [lookT], trivial⟩
    · obtain rfl : j = n := by omega
      have m2' := m2.succ hv b2
      refine wc_exit ?_; refine we_seq_exit ?_; refine we_loop_exit ?_; refine we_block_exit ?_; refine we_block_norm ?_; refine we_seq ?_; refine wc_region ?_; refine wl_mv rfl rfl ?_; apply wl_val; apply opv_bin; exact rfl; exact rfl; exact bin_add64 (by omega); exact rfl; refine wl_as rfl rfl ?_; refine wl_nil ?_
      refine we_loop [(0, .slice Lp N c), (3, .int .i64 ((i + 1 : Nat) : Int))] (N - (i + 1)) ⟨i + 1, rfl, by omega, ⟨o2, m2', k2⟩, rfl⟩ (by omega) ⟨rfl, by simp [lookT], trivial⟩
  · obtain rfl : i = N := by omega
    clear h1 hi
    refine wc_exit ?_; refine we_seq_exit ?_; refine we_loop_exit ?_; refine we_block_exit ?_; refine we_seq ?_; refine wc_sr ?_; refine wl_as rfl rfl ?_; refine wl_ns ?_; refine wc_seq ?_; refine wc_sr ?_; refine wl_as rfl rfl ?_; refine wl_ns ?_; refine wc_block ?_
    refine wc_loop (fun L wr m => ∃ (j : Nat) (P : Option Addr) (cp : Nat) (gs : List Value), L = [(0, .slice Lp i c), (5, .slice P gs.length cp), (6, .int .i64 (j : Int))] ∧ j ≤ i ∧ gs.length = j ∧ Sd w wr base vs i P cp gs ∧ m = i - j)
      [(0, .slice Lp i c), (5, .slice none 0 0), (6, .int .i64 (0 : Nat))] i ⟨0, none, 0, [], rfl, by omega, rfl, ⟨o1, m1, k1, Ow.nil _ _ _, by simp⟩, rfl⟩ ⟨rfl, rfl, rfl, trivial⟩ ?_
    rintro _ w2 m ⟨j, P, cp, gs, rfl, hj, hgl, s2, rfl⟩
    refine wc_seq ?_; refine wc_sr ?_; refine wl_mv rfl rfl ?_; refine wl_mv rfl rfl ?_; apply wl_val; apply opv_len; exact rfl; exact tyBB.sl; exact rfl; refine wl_bin rfl rfl bin_lss rfl ?_; refine wl_ns ?_
    refine wc_cond rfl (fun h1 => ?_) (fun h1 => ?_)
    · obtain ⟨v, hv⟩ : ∃ v, vs[j]? = some v := ⟨_, List.getElem?_eq_getElem (by omega)⟩
      obtain ⟨A, n, cc, rfl, hd2, hnl⟩ := s2.1.at hv
      have hv0 := hlt0 hv
      have r2 := s2.2.2.1.rd hr hL
      have hs20 := s2.2.2.1.2.2.2.1
      refine wc_skip ?_; refine we_seq ?_; refine wc_seq ?_; refine wc_block ?_; refine wc_sr ?_; refine wl_mv rfl rfl ?_; refine wl_mv rfl rfl ?_; apply wl_elK (T := tyBB) (hr := r2) (hb := hv); exact rfl; exact rfl; exact rfl; exact rfl; exact rfl; intro _; refine wl_as rfl rfl ?_; refine wl_ns ?_; refine wc_seq ?_; refine wc_sr ?_; refine wl_as rfl rfl ?_; refine wl_ns ?_; refine wc_block ?_
      refine wc_loop (fun L wr m => ∃ (k : Nat) (A' : Option Addr) (c' : Nat), L = [(0, .slice Lp i c), (5, .slice P gs.length cp), (6, .int .i64 (j : Int)), (7, .slice A' (n + k) c'), (8, .int .i64 (k : Int))] ∧ k ≤ 16 ∧ Sk w2 wr (A.map (·.block)) j ∧ Gr w2 wr A ∧ ((∃ g, A = some ⟨g, 0, none⟩ ∧ A' = some ⟨g, 0, none⟩ ∧ c' = cc ∧ n + k ≤ cc ∧ MkB wr g j (n + k)) ∨ Ow wr w2.heap.size 5 A' (n + k) c' (bvs (mkl j (n + k)))) ∧ m = 16 - k)
        [(0, .slice Lp i c), (5, .slice P gs.length cp), (6, .int .i64 (j : Int)), (7, .slice A n cc), (8, .int .i64 (0 : Nat))] 16 ⟨0, A, cc, rfl, by omega, Sk.refl _ _ _, Gr.refl _ _, ?_, rfl⟩ ⟨rfl, rfl, rfl, rfl, rfl, trivial⟩ ?_
      · rcases hd2 with ⟨rfl, rfl, rfl⟩ | ⟨g, cs, rfl, _, _, hnc, _⟩
        · exact .inr (Ow.nil _ _ _)
        · exact .inl ⟨g, rfl, rfl, rfl, hnc, s2.2.1 j _ n cc (by omega) hv⟩
      rintro _ w3 m ⟨k, A', c', rfl, hk, t3, g3, hg3, rfl⟩
      have r3 := (s2.2.2.1.gr g3 fun a ha' _ => ⟨_, List.mem_of_getElem? hv, by rw [ownBlock_slice, ha']; rfl⟩).rd hr hL
      refine wc_seq ?_; refine wc_sr ?_; refine wl_mv rfl rfl ?_; refine wl_bin rfl rfl bin_lss rfl ?_; refine wl_ns ?_
      refine wc_cond rfl (fun h2 => ?_) (fun h2 => ?_)
      · refine wc_skip ?_; refine we_seq ?_; refine wc_seq ?_; refine wc_block ?_; refine wc_region ?_; refine wl_mv rfl rfl ?_; refine wl_mv rfl rfl ?_; refine wl_mv rfl rfl ?_; refine wl_mv rfl rfl ?_; apply wl_elK (T := tyBB) (hr := r3) (hb := hv); exact rfl; exact rfl; exact rfl; exact rfl; exact rfl; intro _; apply wl_val; apply opv_len; exact rfl; exact tyB.sl; exact rfl; refine wl_mv rfl rfl ?_; apply wl_val; apply opv_bin; exact rfl; exact rfl; exact bin_add64 (by omega); exact rfl
        refine wl_call ok_caissonref01_mark (mark_any j (n + k) (by omega) (by omega) _) ⟨rfl, rfl, trivial⟩ rfl ?_
        rintro _ _ ⟨rfl, rfl⟩
        have hmk : [mk j (n + k)] = bvs (mkt j (n + k) 1) := rfl
        have hs3 := g3.size
        refine wl_bs (vs := [_]) tyB ⟨rfl, rfl, rfl, trivial⟩ rfl (by decide) rfl fun A4 w4 o4 hb4 _ => ?_
        rw [hmk] at o4
        rcases hg3 with ⟨g, rfl, rfl, rfl, hle, mb⟩ | hown
        · rcases hd2.st t3 with ⟨h, _⟩ | ⟨g', cs, he, _, ha, _, hcc⟩
          · cases h
          cases he
          have ha4 := ha.bel hb4
          have mb4 := mb.st (X := none) (k := j) (Sk.bel hb4) (by simp)
          have t4 := t3.trans (Sk.bel hb4)
          have g4 := g3.bel hb4
          refine wl_appA (n := n + k) tyB rfl ha4 hle hcc rfl o4.rd (by decide) (bvs_one _) (by omega) (by simp only [maxLen]; omega) rfl (fun hfit w5 a5 g5 => ?_) (fun A5 c5 w5 o5 hb5 => ?_)
          · have t5 : Sk w4 w5 (some g) j := Sk.at g5 ha4 a5 (by simp [bvs_length, mkt_length]; omega) (app_marks (by omega))
            refine wl_as rfl rfl ?_; refine wl_nil ?_; refine we_block_norm ?_; refine we_seq ?_; refine wc_region ?_; refine wl_mv rfl rfl ?_; apply wl_val; apply opv_bin; exact rfl; exact rfl; exact bin_add64 (by omega); exact rfl; refine wl_as rfl rfl ?_; refine wl_nil ?_
            refine we_loop [(0, .slice Lp i c), (5, .slice P gs.length cp), (6, .int .i64 (j : Int)), (7, .slice (some ⟨g, 0, none⟩) (n + (k + 1)) _), (8, .int .i64 ((k + 1 : Nat) : Int))] (16 - (k + 1)) ⟨k + 1, _, _, rfl, by omega, t4.trans t5, g4.trans g5, .inl ⟨g, rfl, rfl, rfl, by omega, mb4.app ha4 (by omega) a5⟩, rfl⟩ (by omega) ⟨rfl, rfl, rfl, rfl, by simp [lookT], trivial⟩
          · rw [mb4.take ha4, ← bvs_append, ← mkl_add] at o5
            refine wl_as rfl rfl ?_; refine wl_nil ?_; refine we_block_norm ?_; refine we_seq ?_; refine wc_region ?_; refine wl_mv rfl rfl ?_; apply wl_val; apply opv_bin; exact rfl; exact rfl; exact bin_add64 (by omega); exact rfl; refine wl_as rfl rfl ?_; refine wl_nil ?_
            refine we_loop [(0, .slice Lp i c), (5, .slice P gs.length cp), (6, .int .i64 (j : Int)), (7, .slice A5 (n + (k + 1)) c5), (8, .int .i64 ((k + 1 : Nat) : Int))] (16 - (k + 1)) ⟨k + 1, A5, c5, rfl, by omega, t4.trans (Sk.bel hb5), g4.bel hb5, .inr (Ow.mono o5 (by have := hb4.size; omega)), rfl⟩ (by omega) ⟨rfl, rfl, rfl, rfl, by simp [lookT], trivial⟩
        · have hown4 := Ow.below hown hb4 (Nat.le_refl _)
          have hs4 := hb4.size
          refine wl_app (n := n + k) tyB rfl hown4 rfl o4.rd (bvs_one _) (by omega) (by simp only [maxLen]; omega) (by omega) rfl fun A5 c5 w5 o5 g5 _ => ?_
          rw [← bvs_append, ← mkl_add] at o5
          have hfar : ∀ a, A' = some a → w2.heap.size ≤ a.block := fun a ha => (Ow.lt hown a ha).1
          refine wl_as rfl rfl ?_; refine wl_nil ?_; refine we_block_norm ?_; refine we_seq ?_; refine wc_region ?_; refine wl_mv rfl rfl ?_; apply wl_val; apply opv_bin; exact rfl; exact rfl; exact bin_add64 (by omega); exact rfl; refine wl_as rfl rfl ?_; refine wl_nil ?_
          refine we_loop [(0, .slice Lp i c), (5, .slice P gs.length cp), (6, .int .i64 (j : Int)), (7, .slice A5 (n + (k + 1)) c5), (8, .int .i64 ((k + 1 : Nat) : Int))] (16 - (k + 1)) ⟨k + 1, A5, c5, rfl, by omega, (t3.trans (Sk.bel hb4)).far (by omega) g5 hfar, (g3.bel hb4).far g5 hfar, .inr o5, rfl⟩ (by omega) ⟨rfl, rfl, rfl, rfl, by simp [lookT], trivial⟩
      · obtain rfl : k = 16 := by omega
        have s3 := s2.gr hv t3 g3 hv0
        have hgd : Gd w3 vs (gs.length % i) (.slice A' (n + 16) c') := by
          rw [hgl, Nat.mod_eq_of_lt (by omega)]
          rcases hg3 with ⟨g, rfl, rfl, rfl, hle, mb⟩ | hown
          · exact gd_own mb hle (by omega) hv s3.1
          · exact gd_new hown (by omega) (by omega) hs20 ho
        refine wc_exit ?_; refine we_seq_exit ?_; refine we_loop_exit ?_; refine we_block_exit ?_; refine we_seq ?_; refine wc_region ?_; refine wl_mv rfl rfl ?_; refine wl_mv rfl rfl ?_
        refine wl_push (vs := [.slice A' (n + 16) c']) tyBB rfl s3.2.2.2.1 ⟨rfl, rfl, rfl, trivial⟩ rfl (by decide) rfl (by omega) (by simp only [maxLen]; omega) s3.2.2.1.2.2.2.1 rfl rfl fun p P4 cp4 w4 o4 g4 _ => ?_
        refine wl_as rfl rfl ?_; refine wl_nil ?_; refine we_block_norm ?_; refine we_seq ?_; refine wc_region ?_; refine wl_mv rfl rfl ?_; apply wl_val; apply opv_bin; exact rfl; exact rfl; exact bin_add64 (by omega); exact rfl; refine wl_as rfl rfl ?_; refine wl_nil ?_
        refine we_loop [(0, .slice Lp i c), (5, .slice P4 (gs ++ [Value.slice A' (n + 16) c']).length cp4), (6, .int .i64 ((j + 1 : Nat) : Int))] (i - (j + 1)) ⟨j + 1, P4, cp4, _, rfl, by omega, by simp [hgl], s3.push o4 g4 hgd, rfl⟩ (by omega) ⟨rfl, by rw [List.length_append]; rfl, by simp [lookT], trivial⟩
    · obtain rfl : j = i := by omega
      clear h1 hj o1 m1 k1
      refine wc_exit ?_; refine we_seq_exit ?_; refine we_loop_exit ?_; refine we_block_exit ?_; refine we_seq ?_; refine wc_seq ?_; refine wc_sr ?_; refine wl_as rfl rfl ?_; refine wl_ns ?_; refine wc_block ?_
      refine wc_loop (fun L wr m => ∃ (q : Nat) (P : Option Addr) (cp : Nat) (gs : List Value), L = [(0, .slice Lp j c), (5, .slice P gs.length cp), (9, .int .i64 (q : Int))] ∧ q ≤ j ∧ gs.length = j + q ∧ Sd w wr base vs j P cp gs ∧ m = j - q)
        [(0, .slice Lp j c), (5, .slice P gs.length cp), (9, .int .i64 (0 : Nat))] j ⟨0, P, cp, gs, rfl, by omega, hgl, s2, rfl⟩ ⟨rfl, rfl, rfl, trivial⟩ ?_
      clear s2 hgl
      rintro _ w3 m ⟨q, P, cp, gs, rfl, hq, hgl, s3, rfl⟩
      refine wc_seq ?_; refine wc_sr ?_; refine wl_mv rfl rfl ?_; refine wl_mv rfl rfl ?_; apply wl_val; apply opv_len; exact rfl; exact tyBB.sl; exact rfl; refine wl_bin rfl rfl bin_lss rfl ?_; refine wl_ns ?_
      refine wc_cond rfl (fun h1 => ?_) (fun h1 => ?_)
      · obtain ⟨v, hv⟩ : ∃ v, vs[q]? = some v := ⟨_, List.getElem?_eq_getElem (by omega)⟩
        obtain ⟨A, n, cc, rfl, hd3, hnl⟩ := s3.1.at hv
        have hv0 := hlt0 hv
        have hs30 := s3.2.2.1.2.2.2.1
        refine wc_skip ?_; refine we_seq ?_; refine wc_seq ?_; refine wc_block ?_; refine wc_sr ?_
        refine wl_mk (n := 40) (c := 40) tyB rfl rfl rfl rfl (by omega) (by omega) (by simp only [maxLen]; omega) rfl fun A4 w4 o4 hb4 _ => ?_
        refine wl_as rfl rfl ?_; refine wl_ns ?_; refine wc_seq ?_; refine wc_sr ?_; refine wl_as rfl rfl ?_; refine wl_ns ?_; refine wc_block ?_
        refine wc_loop (fun L wr m => ∃ k : Nat, L = [(0, .slice Lp j c), (5, .slice P gs.length cp), (9, .int .i64 (q : Int)), (10, .slice A4 40 40), (11, .int .i64 (k : Int))] ∧ k ≤ 40 ∧ Ow wr w3.heap.size 5 A4 40 40 (bvs (mkt q n k ++ List.replicate (40 - k) 0)) ∧ Below w3.heap.size w3 wr ∧ m = 40 - k)
          [(0, .slice Lp j c), (5, .slice P gs.length cp), (9, .int .i64 (q : Int)), (10, .slice A4 40 40), (11, .int .i64 (0 : Nat))] 40 ⟨0, rfl, by omega, by simpa [bvs, bv, mkt] using o4, hb4, rfl⟩ ⟨rfl, rfl, rfl, rfl, rfl, trivial⟩ ?_
        rintro _ w5 m ⟨k, rfl, hk, o5, hb5, rfl⟩
        have s5 := s3.bel hb5
        have r5 := s5.2.2.1.rd hr hL
        have hs5 := hb5.size
        refine wc_seq ?_; refine wc_sr ?_; refine wl_mv rfl rfl ?_; refine wl_bin rfl rfl bin_lss rfl ?_; refine wl_ns ?_
        refine wc_cond rfl (fun h2 => ?_) (fun h2 => ?_)
        · refine wc_skip ?_; refine we_seq ?_; refine wc_seq ?_; refine wc_block ?_; refine wc_region ?_; refine wl_mv rfl rfl ?_; refine wl_mv rfl rfl ?_; refine wl_mv rfl rfl ?_; refine wl_mv rfl rfl ?_; refine wl_mv rfl rfl ?_; apply wl_elK (T := tyBB) (hr := r5) (hb := hv); exact rfl; exact rfl; exact rfl; exact rfl; exact rfl; intro _; apply wl_val; apply opv_len; exact rfl; exact tyB.sl; exact rfl; refine wl_mv rfl rfl ?_; apply wl_val; apply opv_bin; exact rfl; exact rfl; exact bin_add64 (by omega); exact rfl
          refine wl_call ok_caissonref01_mark (mark_any q (n + k) (by omega) (by omega) _) ⟨rfl, rfl, trivial⟩ rfl ?_
          rintro _ _ ⟨rfl, rfl⟩
          refine wl_set (n := 40) (kk := k) tyB rfl rfl o5 rfl (by omega) (fun _ => rfl) rfl rfl fun p w6 o6 g6 _ => ?_
          have hb6 := g6.below hb5 o5 (Nat.le_refl _) hs5
          have e6 : (bvs (mkt q n k ++ List.replicate (40 - k) 0)).set k (mk q (n + k)) = bvs (mkt q n (k + 1) ++ List.replicate (40 - (k + 1)) 0) := by
            rw [mk, bvs_set]
            congr 1
            rw [List.set_append_right _ _ (by rw [mkt_length]; omega), mkt_length, Nat.sub_self, show 40 - k = (40 - (k + 1)) + 1 by omega, List.replicate_succ, List.set_cons_zero]
            simp [mkt, List.range_succ]
          rw [e6] at o6
          refine wl_nil ?_; refine we_block_norm ?_; refine we_seq ?_; refine wc_region ?_; refine wl_mv rfl rfl ?_; apply wl_val; apply opv_bin; exact rfl; exact rfl; exact bin_add64 (by omega); exact rfl; refine wl_as rfl rfl ?_; refine wl_nil ?_
          refine we_loop [(0, .slice Lp j c), (5, .slice P gs.length cp), (9, .int .i64 (q : Int)), (10, .slice A4 40 40), (11, .int .i64 ((k + 1 : Nat) : Int))] (40 - (k + 1)) ⟨k + 1, rfl, by omega, o6, hb6, rfl⟩ (by omega) ⟨rfl, rfl, rfl, rfl, by simp [lookT], trivial⟩
        · obtain rfl : k = 40 := by omega
          rw [Nat.sub_self, List.replicate_zero, List.append_nil] at o5
          refine wc_exit ?_; refine we_seq_exit ?_; refine we_loop_exit ?_; refine we_block_exit ?_; refine we_seq ?_; refine wc_region ?_; refine wl_mv rfl rfl ?_; refine wl_mv rfl rfl ?_; refine wl_mv rfl rfl ?_; apply wl_elK (T := tyBB) (hr := r5) (hb := hv); exact rfl; exact rfl; exact rfl; exact rfl; exact rfl; intro _; refine wl_mv rfl rfl ?_
          rcases (s5.1.hd hv).1 with ⟨rfl, rfl, rfl⟩ | ⟨g, cs, rfl, _, ha, hnc, hcc⟩
          · refine wl_app tyB rfl (Ow.nil w5 w5.heap.size _) rfl o5.rd (bvs_one _) (by omega) (by simp only [maxLen]; omega) (Nat.le_refl _) rfl fun A7 c7 w7 o7 g7 _ => ?_
            have hb7 := g7.below (Below.refl w5.heap.size w5) (Ow.nil w5 w5.heap.size 5) (Nat.le_refl _) (Nat.le_refl _)
            have em : mkl q (0 + 40) = mkt q 0 40 := by rw [mkl_add]; rfl
            rw [List.nil_append, ← em] at o7
            have s7 := s5.bel hb7
            have hgd : Gd w7 vs (gs.length % j) (.slice A7 (0 + 40) c7) := by
              rw [hgl, Nat.add_mod_left, Nat.mod_eq_of_lt (by omega)]
              exact gd_new o7 (by omega) (by omega) (by omega) ho
            refine wl_push (vs := [.slice A7 (0 + 40) c7]) tyBB rfl s7.2.2.2.1 ⟨rfl, rfl, rfl, trivial⟩ rfl (by decide) rfl (by omega) (by simp only [maxLen]; omega) s7.2.2.1.2.2.2.1 rfl rfl fun p P8 cp8 w8 o8 g8 _ => ?_
            refine wl_as rfl rfl ?_; refine wl_nil ?_; refine we_block_norm ?_; refine we_seq ?_; refine wc_region ?_; refine wl_mv rfl rfl ?_; apply wl_val; apply opv_bin; exact rfl; exact rfl; exact bin_add64 (by omega); exact rfl; refine wl_as rfl rfl ?_; refine wl_nil ?_
            refine we_loop [(0, .slice Lp j c), (5, .slice P8 (gs ++ [Value.slice A7 (0 + 40) c7]).length cp8), (9, .int .i64 ((q + 1 : Nat) : Int))] (j - (q + 1)) ⟨q + 1, P8, cp8, _, rfl, by omega, by simp [hgl]; omega, s7.push o8 g8 hgd, rfl⟩ (by omega) ⟨rfl, by rw [List.length_append]; rfl, by simp [lookT], trivial⟩
          · have mb := s5.2.1 q _ n cc (by omega) hv
            refine wl_appA tyB rfl ha hnc hcc rfl o5.rd (by decide) (bvs_one _) (by omega) (by simp only [maxLen]; omega) rfl (fun hfit w7 a7 g7 => ?_) (fun A7 c7 w7 o7 hb7 => ?_)
            · have t7 : Sk w5 w7 (some g) q := Sk.at g7 ha a7 (by simp [bvs_length, mkt_length]; omega) (app_marks (by omega))
              have s7 := s5.gr hv t7 g7 hv0
              have hgd : Gd w7 vs (gs.length % j) (.slice (some ⟨g, 0, none⟩) (n + 40) cc) := by
                rw [hgl, Nat.add_mod_left, Nat.mod_eq_of_lt (by omega)]
                exact gd_own (mb.app ha (by omega) a7) hfit (by omega) hv s7.1
              refine wl_push (vs := [.slice (some ⟨g, 0, none⟩) (n + 40) cc]) tyBB rfl s7.2.2.2.1 ⟨rfl, rfl, rfl, trivial⟩ rfl (by decide) rfl (by omega) (by simp only [maxLen]; omega) s7.2.2.1.2.2.2.1 rfl rfl fun p P8 cp8 w8 o8 g8 _ => ?_
              refine wl_as rfl rfl ?_; refine wl_nil ?_; refine we_block_norm ?_; refine we_seq ?_; refine wc_region ?_; refine wl_mv rfl rfl ?_; apply wl_val; apply opv_bin; exact rfl; exact rfl; exact bin_add64 (by omega); exact rfl; refine wl_as rfl rfl ?_; refine wl_nil ?_
              refine we_loop [(0, .slice Lp j c), (5, .slice P8 (gs ++ [Value.slice (some ⟨g, 0, none⟩) (n + 40) cc]).length cp8), (9, .int .i64 ((q + 1 : Nat) : Int))] (j - (q + 1)) ⟨q + 1, P8, cp8, _, rfl, by omega, by simp [hgl]; omega, s7.push o8 g8 hgd, rfl⟩ (by omega) ⟨rfl, by rw [List.length_append]; rfl, by simp [lookT], trivial⟩
            · rw [mb.take ha, ← bvs_append, ← mkl_add] at o7
              have s7 := s5.bel hb7
              have hgd : Gd w7 vs (gs.length % j) (.slice A7 (n + 40) c7) := by
                rw [hgl, Nat.add_mod_left, Nat.mod_eq_of_lt (by omega)]
                exact gd_new o7 (by omega) (by omega) (by omega) ho
              refine wl_push (vs := [.slice A7 (n + 40) c7]) tyBB rfl s7.2.2.2.1 ⟨rfl, rfl, rfl, trivial⟩ rfl (by decide) rfl (by omega) (by simp only [maxLen]; omega) s7.2.2.1.2.2.2.1 rfl rfl fun p P8 cp8 w8 o8 g8 _ => ?_
              refine wl_as rfl rfl ?_; refine wl_nil ?_; refine we_block_norm ?_; refine we_seq ?_; refine wc_region ?_; refine wl_mv rfl rfl ?_; apply wl_val; apply opv_bin; exact rfl; exact rfl; exact bin_add64 (by omega); exact rfl; refine wl_as rfl rfl ?_; refine wl_nil ?_
              refine we_loop [(0, .slice Lp j c), (5, .slice P8 (gs ++ [Value.slice A7 (n + 40) c7]).length cp8), (9, .int .i64 ((q + 1 : Nat) : Int))] (j - (q + 1)) ⟨q + 1, P8, cp8, _, rfl, by omega, by simp [hgl]; omega, s7.push o8 g8 hgd, rfl⟩ (by omega) ⟨rfl, by rw [List.length_append]; rfl, by simp [lookT], trivial⟩
      · obtain rfl : q = j := by omega
        clear h1 hq
        have rg := Ow.rd s3.2.2.2.1
        have rv := s3.2.2.1.rd hr hL
        refine wc_exit ?_; refine we_seq_exit ?_; refine we_loop_exit ?_; refine we_block_exit ?_; refine we_seq ?_; refine wc_seq ?_; refine wc_sr ?_; refine wl_as rfl rfl ?_; refine wl_ns ?_; refine wc_block ?_
        refine wc_loop (fun L wr m => ∃ t : Nat, L = [(0, .slice Lp q c), (5, .slice P gs.length cp), (12, .int .i64 (t : Int))] ∧ t ≤ gs.length ∧ Below w3.heap.size w3 wr ∧ m = gs.length - t)
          [(0, .slice Lp q c), (5, .slice P gs.length cp), (12, .int .i64 (0 : Nat))] gs.length ⟨0, rfl, by omega, Below.refl _ _, rfl⟩ ⟨rfl, rfl, rfl, trivial⟩ ?_
        rintro _ w4 m ⟨t, rfl, ht, hb4, rfl⟩
        have rg4 := rg.below hb4
        refine wc_seq ?_; refine wc_sr ?_; refine wl_mv rfl rfl ?_; refine wl_mv rfl rfl ?_; apply wl_val; apply opv_len; exact rfl; exact tyBB.sl; exact rfl; refine wl_bin rfl rfl bin_lss rfl ?_; refine wl_ns ?_
        refine wc_cond rfl (fun h1 => ?_) (fun h1 => ?_)
        · obtain ⟨v, hv⟩ : ∃ v, gs[t]? = some v := ⟨_, List.getElem?_eq_getElem (by omega)⟩
          obtain ⟨b, n, cc, rfl, hnc, hn2, mb, _⟩ := s3.2.2.2.2 t v hv
          have rb : Rd w3 (some ⟨b, 0, none⟩) n (bvs (mkl (t % q) n)) := by have := mb.rd; unfold RdB at this; rw [mkl_length] at this; exact this
          have hq0 : 0 < q := by omega
          have htq : t % q < q := Nat.mod_lt _ hq0
          refine wc_skip ?_; refine we_seq ?_; refine wc_seq ?_; refine wc_block ?_; refine wc_sr ?_; refine wl_as rfl rfl ?_; refine wl_ns ?_; refine wc_block ?_
          refine wc_loop (fun L wr m => ∃ k : Nat, L = [(0, .slice Lp q c), (5, .slice P gs.length cp), (12, .int .i64 (t : Int)), (13, .int .i64 (k : Int))] ∧ k ≤ n ∧ Below w3.heap.size w3 wr ∧ m = n - k)
            [(0, .slice Lp q c), (5, .slice P gs.length cp), (12, .int .i64 (t : Int)), (13, .int .i64 (0 : Nat))] n ⟨0, rfl, by omega, hb4, rfl⟩ ⟨rfl, rfl, rfl, rfl, trivial⟩ ?_
          rintro _ w5 m ⟨k, rfl, hk, hb5, rfl⟩
          have rg5 := rg.below hb5
          have rb5 := rb.below hb5
          refine wc_seq ?_; refine wc_sr ?_; refine wl_mv rfl rfl ?_; refine wl_mv rfl rfl ?_; refine wl_mv rfl rfl ?_; apply wl_elK (T := tyBB) (hr := rg5) (hb := hv); exact rfl; exact rfl; exact rfl; exact rfl; exact rfl; intro _; apply wl_val; apply opv_len; exact rfl; exact tyB.sl; exact rfl; refine wl_bin rfl rfl bin_lss rfl ?_; refine wl_ns ?_
          refine wc_cond rfl (fun h2 => ?_) (fun h2 => ?_)
          · have hx := mkl_get (i := t % q) (show k < n by omega)
            refine wc_skip ?_; refine we_seq ?_; refine wc_seq ?_; refine wc_block ?_; refine wc_seq ?_
            refine wc_drawB mixed (by kernel_rfl) ?_
            apply wq_val; intro _ hw_; apply opv_move; exact rfl; exact rfl; apply wq_val; intro _ hw_; apply opv_move; exact rfl; exact rfl; apply wq_elK (T := tyBB) (hr := rg5) (hb := hv); exact rfl; exact rfl; exact rfl; exact rfl; exact rfl; intro _; apply wq_val; intro _ hw_; apply opv_move; exact rfl; exact rfl; apply wq_byK (T := tyB) (hr := rb5) (hb := hx); exact rfl; exact rfl; exact rfl; exact rfl; exact rfl; intro _; apply wq_val; intro _ hw_; apply opv_move; exact rfl; exact rfl; apply wq_val; intro _ hw_; apply opv_move; exact rfl; exact rfl; apply wq_val; intro _ hw_; apply opv_len; exact rfl; exact tyBB.sl; exact rfl; apply wq_val; intro _ hw_; apply opv_bin; exact rfl; exact rfl; exact bin_rem (by omega); exact rfl; apply wq_val; intro _ hw_; apply opv_move; exact rfl; exact rfl
            refine wq_call ok_caissonref01_mark (fun w hw => (mark_any (t % q) k (by omega) (by omega) w).mono (fun v w' h => ⟨(show v = Value.int .u8 ((mkb (t % q) k).toNat : Int) from h.1), h.2 ▸ hw⟩)) ⟨rfl, rfl, trivial⟩ rfl ?_
            apply wq_val; intro _ hw_; apply opv_bin; exact rfl; exact rfl; exact bin_neq; exact rfl; refine wq_nil fun w1 hw1 => ?_
            refine we_seq ?_
            refine wc_cond rfl (fun h => absurd rfl h) (fun _ => ?_)
            refine wc_skip ?_; refine we_block_norm ?_; refine we_seq ?_; refine wc_region ?_; refine wl_mv rfl rfl ?_; apply wl_val; apply opv_bin; exact rfl; exact rfl; exact bin_add64 (by omega); exact rfl; refine wl_as rfl rfl ?_; refine wl_nil ?_
            refine we_loop [(0, .slice Lp q c), (5, .slice P gs.length cp), (12, .int .i64 (t : Int)), (13, .int .i64 ((k + 1 : Nat) : Int))] (n - (k + 1)) ⟨k + 1, rfl, by omega, hb5.trans (hw1.mono hb5.size), rfl⟩ (by omega) ⟨rfl, rfl, rfl, by simp [lookT], trivial⟩
          · refine wc_exit ?_; refine we_seq_exit ?_; refine we_loop_exit ?_; refine we_block_exit ?_; refine we_block_norm ?_; refine we_seq ?_; refine wc_region ?_; refine wl_mv rfl rfl ?_; apply wl_val; apply opv_bin; exact rfl; exact rfl; exact bin_add64 (by omega); exact rfl; refine wl_as rfl rfl ?_; refine wl_nil ?_
            refine we_loop [(0, .slice Lp q c), (5, .slice P gs.length cp), (12, .int .i64 ((t + 1 : Nat) : Int))] (gs.length - (t + 1)) ⟨t + 1, rfl, by omega, hb5, rfl⟩ (by omega) ⟨rfl, rfl, by simp [lookT], trivial⟩
        · clear h1 ht
          refine wc_exit ?_; refine we_seq_exit ?_; refine we_loop_exit ?_; refine we_block_exit ?_; refine we_seq ?_; refine wc_seq ?_; refine wc_sr ?_; refine wl_as rfl rfl ?_; refine wl_ns ?_; refine wc_block ?_
          refine wc_loop (fun L wr m => ∃ t : Nat, L = [(0, .slice Lp q c), (14, .int .i64 (t : Int))] ∧ t ≤ q ∧ Below w3.heap.size w3 wr ∧ m = q - t)
            [(0, .slice Lp q c), (14, .int .i64 (0 : Nat))] q ⟨0, rfl, by omega, hb4, rfl⟩ ⟨rfl, rfl, trivial⟩ ?_
          rintro _ w4 m ⟨t, rfl, ht, hb4, rfl⟩
          refine wc_seq ?_; refine wc_sr ?_; refine wl_mv rfl rfl ?_; refine wl_mv rfl rfl ?_; apply wl_val; apply opv_len; exact rfl; exact tyBB.sl; exact rfl; refine wl_bin rfl rfl bin_lss rfl ?_; refine wl_ns ?_
          refine wc_cond rfl (fun h1 => ?_) (fun h1 => ?_)
          · obtain ⟨v, hv⟩ : ∃ v, vs[t]? = some v := ⟨_, List.getElem?_eq_getElem (by omega)⟩
            obtain ⟨A, n, cc, rfl, hd, hn2⟩ := s3.1.at hv
            refine wc_skip ?_; refine we_seq ?_; refine wc_seq ?_; refine wc_block ?_; refine wc_sr ?_; refine wl_as rfl rfl ?_; refine wl_ns ?_; refine wc_block ?_
            refine wc_loop (fun L wr m => ∃ k : Nat, L = [(0, .slice Lp q c), (14, .int .i64 (t : Int)), (15, .int .i64 (k : Int))] ∧ k ≤ n ∧ Below w3.heap.size w3 wr ∧ m = n - k)
              [(0, .slice Lp q c), (14, .int .i64 (t : Int)), (15, .int .i64 (0 : Nat))] n ⟨0, rfl, by omega, hb4, rfl⟩ ⟨rfl, rfl, rfl, trivial⟩ ?_
            rintro _ w5 m ⟨k, rfl, hk, hb5, rfl⟩
            have rv5 := rv.below hb5
            refine wc_seq ?_; refine wc_sr ?_; refine wl_mv rfl rfl ?_; refine wl_mv rfl rfl ?_; refine wl_mv rfl rfl ?_; apply wl_elK (T := tyBB) (hr := rv5) (hb := hv); exact rfl; exact rfl; exact rfl; exact rfl; exact rfl; intro _; apply wl_val; apply opv_len; exact rfl; exact tyB.sl; exact rfl; refine wl_bin rfl rfl bin_lss rfl ?_; refine wl_ns ?_
            refine wc_cond rfl (fun h2 => ?_) (fun h2 => ?_)
            · rcases hd with ⟨_, h0, _⟩ | ⟨g, cs, rfl, _, _, _, _⟩
              · omega
              have mb := s3.2.1 t _ n cc (by omega) hv
              have rb5 : Rd w5 (some ⟨g, 0, none⟩) n (bvs (mkl t n)) := by have := RdB.below mb.rd hb5; unfold RdB at this; rw [mkl_length] at this; exact this
              have hx := mkl_get (i := t) (show k < n by omega)
              refine wc_skip ?_; refine we_seq ?_; refine wc_seq ?_; refine wc_block ?_; refine wc_seq ?_
              refine wc_drawB mixed (by kernel_rfl) ?_
              apply wq_val; intro _ hw_; apply opv_move; exact rfl; exact rfl; apply wq_val; intro _ hw_; apply opv_move; exact rfl; exact rfl; apply wq_elK (T := tyBB) (hr := rv5) (hb := hv); exact rfl; exact rfl; exact rfl; exact rfl; exact rfl; intro _; apply wq_val; intro _ hw_; apply opv_move; exact rfl; exact rfl; apply wq_byK (T := tyB) (hr := rb5) (hb := hx); exact rfl; exact rfl; exact rfl; exact rfl; exact rfl; intro _; apply wq_val; intro _ hw_; apply opv_move; exact rfl; exact rfl; apply wq_val; intro _ hw_; apply opv_move; exact rfl; exact rfl
              refine wq_call ok_caissonref01_mark (fun w hw => (mark_any t k (by omega) (by omega) w).mono (fun v w' h => ⟨(show v = Value.int .u8 ((mkb t k).toNat : Int) from h.1), h.2 ▸ hw⟩)) ⟨rfl, rfl, trivial⟩ rfl ?_
              apply wq_val; intro _ hw_; apply opv_bin; exact rfl; exact rfl; exact bin_neq; exact rfl; refine wq_nil fun w1 hw1 => ?_
              refine we_seq ?_
              refine wc_cond rfl (fun h => absurd rfl h) (fun _ => ?_)
              refine wc_skip ?_; refine we_block_norm ?_; refine we_seq ?_; refine wc_region ?_; refine wl_mv rfl rfl ?_; apply wl_val; apply opv_bin; exact rfl; exact rfl; exact bin_add64 (by omega); exact rfl; refine wl_as rfl rfl ?_; refine wl_nil ?_
              refine we_loop [(0, .slice Lp q c), (14, .int .i64 (t : Int)), (15, .int .i64 ((k + 1 : Nat) : Int))] (n - (k + 1)) ⟨k + 1, rfl, by omega, hb5.trans (hw1.mono hb5.size), rfl⟩ (by omega) ⟨rfl, rfl, by simp [lookT], trivial⟩
            · refine wc_exit ?_; refine we_seq_exit ?_; refine we_loop_exit ?_; refine we_block_exit ?_; refine we_block_norm ?_; refine we_seq ?_; refine wc_region ?_; refine wl_mv rfl rfl ?_; apply wl_val; apply opv_bin; exact rfl; exact rfl; exact bin_add64 (by omega); exact rfl; refine wl_as rfl rfl ?_; refine wl_nil ?_
              refine we_loop [(0, .slice Lp q c), (14, .int .i64 ((t + 1 : Nat) : Int))] (q - (t + 1)) ⟨t + 1, rfl, by omega, hb5, rfl⟩ (by omega) ⟨rfl, by simp [lookT], trivial⟩
          · refine wc_exit ?_; refine we_seq_exit ?_; refine we_loop_exit ?_; refine we_block_exit ?_; refine we_seq ?_; refine wc_sr ?_; refine wl_as rfl rfl ?_; refine wl_ns ?_; refine wc_ret ?_
            exact we_ret1 rfl rfl ⟨_, rfl, rfl, s3.2.2.1.bel hb4⟩
theorem apart_any {Lp : Option Addr} {N c base : Nat} {vs : List Value} {w : World} (hr : Rd w Lp N vs) (hL : ∀ a, Lp = some a → ∀ v ∈ vs, v.ownBlock ≠ some a.block) (ho : Own1 w base vs) (hb : base ≤ w.heap.size) (hN : N ≤ 4194304) :
    CallsV Try.prog 22 #[.slice Lp N c] w fun v w' => v = .bool true ∧ Below base w w' :=
  (apartK_any hr hL ho hb hN).mono fun v w' ⟨h1, h2⟩ => ⟨h1, h2.below (fun v hv g hg => (ho.lt hv hg).2) hb⟩
end Go.Proofs.Ytojncfdlddepdaa


/-
  Words for the laws that say that answers are memory of their own: what is answered is gathered in a list, each in a block of its own, and stays so.
-/
namespace Go.Proofs.Ytojncfdlddepdaa
open Go.RowKit

/-- The slices of a list read as these rows. -/
def RdV (w : World) (vs : List Value) (rows : List (List UInt8)) : Prop :=
  vs.length = rows.length ∧ ∀ (i : Nat) (r : List UInt8), rows[i]? = some r → ∃ (A' : Option Addr) (c' : Nat), vs[i]? = some (Value.slice A' r.length c') ∧ RdB w A' r ∧ r.length ≤ c'
section
variable {w w' w0 : World} {A B : Option Addr} {vs vs' l1 l2 : List Value} {rows rows' : List (List UInt8)} {base b n c m : Nat}
theorem RdV.rd (h : RdV w vs rows) (hr : Rd w A n vs) (hn : rows.length = n) : RdBB w A rows := by subst hn; exact ⟨vs, hr, h.2⟩
theorem RdV.nil : RdV w [] [] := ⟨rfl, by simp⟩
theorem RdV.cons {r : List UInt8} (h : RdV w vs rows) (hr : RdB w A r) (hn : r.length = n) (hc : r.length ≤ c) : RdV w (.slice A n c :: vs) (r :: rows) := by
  subst hn
  refine ⟨by simp [h.1], fun i q hi => ?_⟩
  cases i with
  | zero => simp only [List.getElem?_cons_zero, Option.some.injEq] at hi; subst hi; exact ⟨A, c, rfl, hr, hc⟩
  | succ i => simpa using h.2 i q (by simpa using hi)
theorem RdV.append (h : RdV w vs rows) (h' : RdV w vs' rows') : RdV w (vs ++ vs') (rows ++ rows') := by
  refine ⟨by simp [h.1, h'.1], fun i q hi => ?_⟩
  rw [List.getElem?_append] at hi
  split at hi
  · rename_i hl
    rw [List.getElem?_append_left (by rw [h.1]; exact hl)]; exact h.2 i q hi
  · rename_i hl
    rw [List.getElem?_append_right (by rw [h.1]; omega), h.1]; exact h'.2 _ q hi
theorem RdV.bel (h : RdV w vs rows) (hb : Below w.heap.size w w') : RdV w' vs rows := ⟨h.1, fun i r hi => by
  obtain ⟨A', c', h1, h2, h3⟩ := h.2 i r hi
  exact ⟨A', c', h1, h2.below hb, h3⟩⟩
theorem RdV.gr (h : RdV w vs rows) (g : Gr w w' B) (hne : ∀ b, B = some b → ∀ v ∈ vs, v.ownBlock ≠ some b.block) : RdV w' vs rows := ⟨h.1, fun i r hi => by
  obtain ⟨A', c', h1, h2, h3⟩ := h.2 i r hi
  refine ⟨A', c', h1, Rd.gr h2 g fun a b ha hb => ?_, h3⟩
  have := hne b hb _ (List.mem_of_getElem? h1)
  rw [ownBlock_slice, ha] at this
  simpa using this⟩
theorem OwBB.rdv (h : OwBB w base A c rows) : ∃ vs, Ow w base 25 A rows.length c vs ∧ RdV w vs rows := by
  obtain ⟨vs, ho, hr, _⟩ := h
  refine ⟨vs, ho, ho.len, fun i r hi => ?_⟩
  obtain ⟨A', c', h1, h2, _⟩ := hr i r hi
  exact ⟨A', c', h1, OwB.rd h2, h2.cap⟩

theorem Own1.nil : Own1 w base [] := ⟨by simp, List.Pairwise.nil⟩
theorem Own1.bel (h : Own1 w base vs) (hb : Below w.heap.size w w') : Own1 w' base vs := h.st (X := none) (k := 0) (Sk.bel hb)
theorem Own1.mono {base' : Nat} (h : Own1 w base vs) (hb : base' ≤ base) : Own1 w base' vs := ⟨fun v hv => by
  obtain ⟨A, n, c, e, hd, hn⟩ := h.1 v hv
  refine ⟨A, n, c, e, ?_, hn⟩
  rcases hd with hd | ⟨g, cs, e1, e2, e3⟩
  · exact .inl hd
  · exact .inr ⟨g, cs, e1, Nat.le_trans hb e2, e3⟩, h.2⟩
theorem Own1.one (h : Hd w base A n c) (hn : n ≤ 1099511627776) : Own1 w base [.slice A n c] := ⟨by intro v hv; simp at hv; subst hv; exact ⟨A, n, c, rfl, h, hn⟩, by simp⟩
theorem own_symm {v v' : Value} (h : ∀ g, v.ownBlock = some g → v'.ownBlock ≠ some g) : ∀ g, v'.ownBlock = some g → v.ownBlock ≠ some g := fun g h1 h2 => h g h2 h1
/-- New lists are put between the others. -/
theorem Own1.ins (h : Own1 w base (l1 ++ l2)) (hb : Below w.heap.size w w') (h' : Own1 w' w.heap.size vs) (hbase : base ≤ w.heap.size) : Own1 w' base (l1 ++ (vs ++ l2)) := by
  have hk := h.bel hb
  have hp : (vs ++ l2 ++ l1).Pairwise fun v v' => ∀ g, v.ownBlock = some g → v'.ownBlock ≠ some g := by
    rw [List.append_assoc, List.pairwise_append]
    refine ⟨h'.2, ?_, fun v hv v' hv' g hg hg' => ?_⟩
    · have := h.2
      rw [List.pairwise_append] at this ⊢
      exact ⟨this.2.1, this.1, fun a ha b hb' => own_symm (this.2.2 b hb' a ha)⟩
    · have h1 := (h'.lt hv hg).2
      have h2 := (h.lt (show v' ∈ l1 ++ l2 by simp at hv' ⊢; exact hv'.symm) hg').1
      omega
  refine ⟨fun v hv => ?_, ?_⟩
  · simp only [List.mem_append] at hv
    rcases hv with hv | hv | hv
    · exact hk.1 v (by simp [hv])
    · exact (h'.mono hbase).1 v hv
    · exact hk.1 v (by simp [hv])
  · rw [List.pairwise_append] at hp ⊢
    exact ⟨hp.2.1, hp.1, fun a ha b hb' => own_symm (hp.2.2 b hb' a ha)⟩
/-- One new list is put at place k of the others. -/
theorem Own1.add {l : List Value} (k : Nat) (h : Own1 w base l) (hb : Below w.heap.size w w') (h' : Hd w' w.heap.size A n c) (hn : n ≤ 1099511627776) (hbase : base ≤ w.heap.size) : Own1 w' base (l.take k ++ .slice A n c :: l.drop k) :=
  Own1.ins (l1 := l.take k) (l2 := l.drop k) (by rw [List.take_append_drop]; exact h) hb (Own1.one h' hn) hbase
theorem OwBB.own (h : OwBB w base A c rows) (hl : rows.flatten.length ≤ 1099511627776) : ∃ vs, Ow w base 25 A rows.length c vs ∧ RdV w vs rows ∧ Own1 w base vs := by
  obtain ⟨vs, ho, hr, hp⟩ := h
  refine ⟨vs, ho, ⟨ho.len, fun i r hi => ?_⟩, fun v hv => ?_, hp⟩
  · obtain ⟨A', c', h1, h2, _⟩ := hr i r hi
    exact ⟨A', c', h1, OwB.rd h2, h2.cap⟩
  · obtain ⟨i, hi, rfl⟩ := List.getElem_of_mem hv
    have hil : i < rows.length := by have := ho.len; omega
    obtain ⟨A', c', h1, h2, _⟩ := hr i _ (List.getElem?_eq_getElem hil)
    rw [List.getElem?_eq_getElem hi] at h1
    simp only [Option.some.injEq] at h1
    have hm : rows[i].length ≤ rows.flatten.length := flat_mem (List.getElem?_eq_getElem hil)
    exact ⟨A', _, c', h1, h2.nw.hd, by omega⟩
theorem Own1.slices (h : Own1 w base vs) : ∀ u ∈ vs, u.oneCell' = true := fun u hu => by
  obtain ⟨A, n, c, rfl, _⟩ := h.1 u hu
  rfl
theorem own_ar {xs : List Value} (h : Ow w b 25 A n c xs) {a : Addr} (ha : A = some a) : ∃ cs, Ar w a.block 25 cs := by
  rcases h.2 with ⟨hv, _⟩ | ⟨g', cap, cur, hv, _, hg', _⟩
  · injection hv with hA; rw [ha] at hA; cases hA
  · injection hv with hA; rw [ha] at hA; cases hA
    exact ⟨cur.toList, by simpa [Ar] using hg'⟩
theorem ar_type {g : Nat} {t t' : TypeId} {cs cs' : List Value} (h : Ar w g t cs) (h' : Ar w g t' cs') : t = t' := by
  unfold Ar at h h'
  rw [h] at h'
  simp only [Option.some.injEq, Obj.cells.injEq] at h'
  exact h'.2.1
theorem Own1.row_ne {xs : List Value} (h : Own1 w base vs) (ho : Ow w b 25 A n c xs) : ∀ a, A = some a → ∀ v ∈ vs, v.ownBlock ≠ some a.block := fun a ha v hv hg => by
  obtain ⟨ds, hd⟩ := own_ar ho ha
  obtain ⟨A', n', c', rfl, hh, _⟩ := h.1 v hv
  rw [ownBlock_slice] at hg
  rcases hh with ⟨rfl, _⟩ | ⟨g, cs, rfl, _, har, _⟩
  · simp at hg
  · simp at hg; subst hg
    exact absurd (ar_type har hd) (by decide)
theorem Own1.row {xs : List Value} (h : Own1 w base vs) (ho : Ow w b 25 A n c xs) (g : Gr w w' A) : Own1 w' base vs := by
  refine h.st (X := none) (k := 0) ?_
  cases A with
  | none => exact Sk.other (g := 0) (t := 25) (cs := []) g (by simp) (.inl rfl) (by decide)
  | some a =>
    obtain ⟨ds, hd⟩ := own_ar ho rfl
    exact Sk.other (g := a.block) (t := 25) (cs := ds) g (by intro a' ha; cases ha; rfl) (.inr hd) (by decide)
/-- Bytes of one block change, and none other. -/
theorem Own1.sz {g : Nat} {cs cs' : List Value} (h : Own1 w base vs) (hg : Gr w w' (some ⟨g, 0, none⟩)) (ha : Ar w g 5 cs) (ha' : Ar w' g 5 cs') (hl : cs'.length = cs.length) : Own1 w' base vs := ⟨fun v hv => by
  obtain ⟨A, n, c, e, hd, hn⟩ := h.1 v hv
  refine ⟨A, n, c, e, ?_, hn⟩
  rcases hd with hd | ⟨g', ds, e1, e2, e3, e4, e5⟩
  · exact .inl hd
  · by_cases hgg : g' = g
    · subst hgg
      have : ds = cs := by
        unfold Ar at ha e3
        rw [ha] at e3
        simp only [Option.some.injEq, Obj.cells.injEq] at e3
        have := congrArg Array.toList e3.1
        simpa using this.symm
      subst this
      exact .inr ⟨g', cs', e1, e2, ha', e4, by omega⟩
    · refine .inr ⟨g', ds, e1, e2, ?_, e4, e5⟩
      unfold Ar
      rw [hg.block g' e3.lt (by simp; exact hgg)]
      exact e3, h.2⟩
/-- Where another block has changed. -/
theorem Ar.gr {g g' : Nat} {t : TypeId} {cs : List Value} (h : Ar w g t cs) (hg : Gr w w' (some ⟨g', 0, none⟩)) (hne : g ≠ g') : Ar w' g t cs := by
  unfold Ar
  rw [hg.block g h.lt (by simp; exact hne)]
  exact h
theorem OwBB.gr {g : Nat} (h : OwBB w base A c rows) (hg : Gr w w' (some ⟨g, 0, none⟩)) (hlt : g < base) : OwBB w' base A c rows := by
  obtain ⟨vs, ho, hr, hp⟩ := h
  refine ⟨vs, Ow.gr (base' := 0) (e' := 0) ho hg fun a b ha hb => ?_, fun i r hi => ?_, hp⟩
  · have := (Ow.lt ho a ha).1; cases hb; simp; omega
  · obtain ⟨A', c', h1, h2, h3⟩ := hr i r hi
    refine ⟨A', c', h1, Ow.gr (base' := 0) (e' := 0) h2 hg fun a b ha hb => ?_, h3⟩
    have := (Ow.lt h2 a ha).1; cases hb; simp; omega
/-- What has been gathered, ahead of the last test. -/
def Fin (w : World) (base : Nat) (vs ts : List Value) (rows : List (List UInt8)) (bA : Nat) (A : Option Addr) (n c : Nat) (bW : Nat) (W : Option Addr) (cW : Nat) : Prop :=
  Own1 w base (vs ++ ts) ∧ RdV w vs rows ∧ Ow w bA 25 A n c vs ∧ OwBB w bW W cW rows
theorem Fin.bel {ts : List Value} {bA bW cW : Nat} {W : Option Addr} (h : Fin w base vs ts rows bA A n c bW W cW) (hb : Below w.heap.size w w') : Fin w' base vs ts rows bA A n c bW W cW :=
  ⟨h.1.bel hb, h.2.1.bel hb, Ow.below h.2.2.1 hb (Nat.le_refl _), h.2.2.2.below hb⟩
theorem Fin.over {ts : List Value} {bA bW cW g : Nat} {W : Option Addr} {cs cs' : List Value} {v : Value} (h : Fin w base vs ts rows bA A n c bW W cW) (hg : Gr w w' (some ⟨g, 0, none⟩)) (ha : Ar w g 5 cs) (ha' : Ar w' g 5 cs') (hl : cs'.length = cs.length)
    (hv : v ∈ ts) (hvb : v.ownBlock = some g) (h1 : g < bA) (h2 : g < bW) : Fin w' base vs ts rows bA A n c bW W cW := by
  obtain ⟨o, r, a, W⟩ := h
  have hp := o.2
  rw [List.pairwise_append] at hp
  refine ⟨o.sz hg ha ha' hl, r.gr hg fun b hb u hu hc => hp.2.2 u hu v hv g ?_ hvb, Ow.gr (base' := 0) (e' := 0) a hg fun a' b ha' hb => ?_, W.gr hg h2⟩
  · cases hb; exact hc
  · have := (Ow.lt a a' ha').1; cases hb; simp; omega
end
end Go.Proofs.Ytojncfdlddepdaa


/-
  Pieces of bytes that lie apart, told for the test of the reference's Apart.
-/
namespace Go.Proofs.Ytojncfdlddepdaa
open Go.RowKit

/-- The slices of an entry. -/
def enSl (a : EnA) : List Value := [.slice a.A a.x.key.length a.c, .slice a.B a.x.val.length a.d]
/-- Pieces of bytes and their slices. -/
inductive ByP : List Cd → List Value → Prop
  | nil : ByP [] []
  | cons {A : Option Addr} {n c : Nat} {xs : List Value} {H : List Cd} {vs : List Value} : n ≤ 1099511627776 → ByP H vs → ByP (.ow 5 A n c xs :: H) (.slice A n c :: vs)
  | jk {A : Option Addr} {n c : Nat} {H : List Cd} {vs : List Value} : n ≤ 1099511627776 → ByP H vs → ByP (.ck (jk A n c) :: H) (.slice A n c :: vs)
theorem ByP.append {H H' : List Cd} {vs vs' : List Value} (h : ByP H vs) (h' : ByP H' vs') : ByP (H ++ H') (vs ++ vs') := by
  induction h with
  | nil => exact h'
  | cons hn _ ih => exact .cons hn ih
  | jk hn _ ih => exact .jk hn ih
theorem ow_hd {w : World} {A : Option Addr} {n c base : Nat} {xs : List Value} {S : BS} (h : (Cd.ow 5 A n c xs).P w S) (hb : ∀ b, S b → base ≤ b) : Hd w base A n c := by
  rcases h.2.2 with ⟨hv, hn⟩ | ⟨g, cap, cur, hv, _, hg, hnc, _, hsz, _⟩
  · injection hv with hA _ hc; exact .inl ⟨hA, hn, hc⟩
  · injection hv with hA _ hc
    refine .inr ⟨g, cur.toList, hA, hb g (h.1 ⟨g, 0, none⟩ hA), by unfold Ar; simpa using hg, by omega, by simp; omega⟩
/-- All blocks that the slices lie in are blocks of the set. -/
theorem byP_in {w : World} {H : List Cd} {vs : List Value} (h : ByP H vs) : ∀ {S : BS}, Sat w H S → ∀ v ∈ vs, ∀ g, v.ownBlock = some g → S g := by
  induction h with
  | nil => intro S _ v hv; cases hv
  | @cons A n c xs H vs hn _ ih =>
    rintro S ⟨T, hT, hc, hr⟩ v hv g hg
    rcases List.mem_cons.1 hv with rfl | hv
    · rw [ownBlock_slice] at hg
      cases A with
      | none => cases hg
      | some a => simp at hg; subst hg; exact hT _ (hc.1 a rfl)
    · exact (ih hr v hv g hg).1
  | @jk A n c H vs hn _ ih =>
    rintro S ⟨T, hT, ⟨xs, hx, hc⟩, hr⟩ v hv g hg
    rcases List.mem_cons.1 hv with rfl | hv
    · rw [ownBlock_slice] at hg
      cases A with
      | none => cases hg
      | some a => simp at hg; subst hg; exact hT _ (hc.1 a rfl)
    · exact (ih hr v hv g hg).1
theorem byP_own {w : World} {base : Nat} {H : List Cd} {vs : List Value} (h : ByP H vs) : ∀ {S : BS}, Sat w H S → (∀ b, S b → base ≤ b) → Own1 w base vs := by
  have key : ∀ {A : Option Addr} {n c : Nat} {vs : List Value} {T S' : BS}, (∀ a, A = some a → T a.block) → Hd w base A n c → n ≤ 1099511627776 → Own1 w base vs → (∀ v ∈ vs, ∀ g, v.ownBlock = some g → ¬ T g) → Own1 w base (.slice A n c :: vs) := by
    intro A n c vs T S' hA hd hn ho hin
    refine ⟨fun v hv => ?_, List.pairwise_cons.2 ⟨fun v hv g hg hg' => ?_, ho.2⟩⟩
    · rcases List.mem_cons.1 hv with rfl | hv
      · exact ⟨A, n, c, rfl, hd, hn⟩
      · exact ho.1 v hv
    · rw [ownBlock_slice] at hg
      cases A with
      | none => cases hg
      | some a => simp at hg; subst hg; exact hin v hv _ hg' (hA a rfl)
  induction h with
  | nil => intro S _ _; exact Own1.nil
  | @cons A n c xs H vs hn hH ih =>
    rintro S ⟨T, hT, hc, hr⟩ hb
    exact key (S' := S) hc.1 (ow_hd hc fun b h => hb b (hT b h)) hn (ih hr fun b h => hb b h.1) fun v hv g hg => (byP_in hH hr v hv g hg).2
  | @jk A n c H vs hn hH ih =>
    rintro S ⟨T, hT, ⟨xs, hx, hc⟩, hr⟩ hb
    exact key (S' := S) hc.1 (ow_hd hc fun b h => hb b (hT b h)) hn (ih hr fun b h => hb b h.1) fun v hv g hg => (byP_in hH hr v hv g hg).2
theorem es_byP : ∀ {es : List EnA}, (∀ a ∈ es, a.x.key.length ≤ 1099511627776 ∧ a.x.val.length ≤ 1099511627776) → ByP (es.flatMap enM) (es.flatMap enSl)
  | [], _ => .nil
  | a :: es, h => by
    obtain ⟨h1, h2⟩ := h a List.mem_cons_self
    exact .cons h1 (.cons h2 (es_byP fun b hb => h b (List.mem_cons_of_mem _ hb)))
end Go.Proofs.Ytojncfdlddepdaa


/-
  Pieces of bytes of any make, told for the test of Apart; copies with spare room; Seek of blocks, its answer in memory of its own.
-/
namespace Go.Proofs.Ytojncfdlddepdaa
open Go.RowKit

/-- A piece that holds just the bytes of a slice. -/
def HdC (c : Cd) (A : Option Addr) (n d : Nat) : Prop := ∀ (w : World) (S : BS), c.P w S → (∀ a, A = some a → S a.block) ∧ ∀ base, (∀ b, S b → base ≤ b) → Hd w base A n d
inductive ByQ : List Cd → List Value → Prop
  | nil : ByQ [] []
  | cons {c : Cd} {A : Option Addr} {n d : Nat} {H : List Cd} {vs : List Value} : n ≤ 1099511627776 → HdC c A n d → ByQ H vs → ByQ (c :: H) (.slice A n d :: vs)
theorem ByQ.append {H H' : List Cd} {vs vs' : List Value} (h : ByQ H vs) (h' : ByQ H' vs') : ByQ (H ++ H') (vs ++ vs') := by
  induction h with
  | nil => exact h'
  | cons hn hc _ ih => exact .cons hn hc ih
theorem hdc_ow {A : Option Addr} {n c : Nat} {xs : List Value} : HdC (.ow 5 A n c xs) A n c := fun _ _ h => ⟨h.1, fun _ hb => ow_hd h hb⟩
theorem hdc_nw {A : Option Addr} {c : Nat} {xs : List UInt8} : HdC (.ck (nwC A c xs)) A xs.length c := fun w S h => ⟨h.1, fun base hb => by
  refine NwB.hd ?_
  rcases h.2 with h2 | ⟨g, cs, hA, _, h2⟩
  · exact .inl h2
  · exact .inr ⟨g, cs, hA, hb g (h.1 ⟨g, 0, none⟩ hA), h2⟩⟩
theorem byQ_in {w : World} {H : List Cd} {vs : List Value} (h : ByQ H vs) : ∀ {S : BS}, Sat w H S → ∀ v ∈ vs, ∀ g, v.ownBlock = some g → S g := by
  induction h with
  | nil => intro S _ v hv; cases hv
  | @cons c A n d H vs hn hk _ ih =>
    rintro S ⟨T, hT, hc, hr⟩ v hv g hg
    rcases List.mem_cons.1 hv with rfl | hv
    · rw [ownBlock_slice] at hg
      cases A with
      | none => cases hg
      | some a => simp at hg; subst hg; exact hT _ ((hk w T hc).1 a rfl)
    · exact (ih hr v hv g hg).1
theorem byQ_own {w : World} {base : Nat} {H : List Cd} {vs : List Value} (h : ByQ H vs) : ∀ {S : BS}, Sat w H S → (∀ b, S b → base ≤ b) → Own1 w base vs := by
  induction h with
  | nil => intro S _ _; exact Own1.nil
  | @cons c A n d H vs hn hk hH ih =>
    rintro S ⟨T, hT, hc, hr⟩ hb
    obtain ⟨hA, hd⟩ := hk w T hc
    have hin : ∀ v ∈ vs, ∀ g, v.ownBlock = some g → ¬ T g := fun v hv g hg => (byQ_in hH hr v hv g hg).2
    have ho := ih hr fun b h => hb b h.1
    refine ⟨fun v hv => ?_, List.pairwise_cons.2 ⟨fun v hv g hg hg' => ?_, ho.2⟩⟩
    · rcases List.mem_cons.1 hv with rfl | hv
      · exact ⟨A, n, d, rfl, hd base fun b h => hb b (hT b h), hn⟩
      · exact ho.1 v hv
    · rw [ownBlock_slice] at hg
      cases A with
      | none => cases hg
      | some a => simp at hg; subst hg; exact hin v hv _ hg' (hA a rfl)
/-- Pieces of bytes are told apart by the reference; the other pieces stay. -/
theorem apartQ_any {w0 w : World} {V : Option Addr} {N c : Nat} {vs : List Value} {H1 H2 : List Cd} (hs : St NoB w0 w (.ow 25 V N c vs :: .ck (packC H1) :: H2)) (hby : ByQ H1 vs) (hN : N ≤ 4194304) :
    CallsV Try.prog 22 #[.slice V N c] w fun v w' => v = .bool true ∧ St NoB w0 w' H2 := by
  have hrd := (hs.ow 0 rfl).rd
  obtain ⟨hm, T, hT, hV, U, hU, hpk, hr⟩ := hs
  have hpk : Sat w H1 U := hpk
  have hin := byQ_in hby hpk
  have hbase : ∀ b, U b → w0.heap.size ≤ b := fun b h => (hU b h).1.elim (fun k => k.elim) id
  refine (apartK_any (base := w0.heap.size) hrd (fun a ha v hv hg => (hU _ (hin v hv _ hg)).2 (hV.1 a ha)) (byQ_own hby hpk hbase) hm.size hN).mono fun v w' ⟨hv, h1, h2, h3, h4, h5⟩ => ⟨hv, ?_, ?_⟩
  · refine ⟨h1.trans hm.os, h2.trans hm.tape, h3.trans hm.output, Nat.le_trans hm.size h4, fun b hb hn => ?_⟩
    rw [h5 b (Nat.lt_of_lt_of_le hb hm.size) fun v hv hg => by have := hbase b (hin v hv b hg); omega]
    exact hm.block b hb hn
  · exact hr.move h4 fun b hb k => ⟨k.1.1, h5 b hb fun v hv hg => k.2 (hin v hv b hg)⟩
/-! #### A copy with its spare room -/
theorem blk_ow {w : World} {g : Nat} {cs : List Value} {S : BS} (h : (Cd.blk g 5 cs).P w S) (hl : cs.length ≤ maxLen) : (Cd.ow 5 (some ⟨g, 0, none⟩) cs.length cs.length cs).P w S := by
  refine ⟨fun a ha => by cases ha; exact h.1, by simp, .inr ⟨g, cs.length, cs.toArray, rfl, Nat.zero_le _, h.2, Nat.le_refl _, hl, by simp, by simp⟩⟩
def spP (x : List UInt8 × Nat) : Cd := .ow 5 (some ⟨x.2, 0, none⟩) (x.1.length + 40) (x.1.length + 40) (bvs (spareL x.1))
def spV (x : List UInt8 × Nat) : Value := .slice (some ⟨x.2, 0, none⟩) (x.1.length + 40) (x.1.length + 40)
theorem St.newSp {M : BS} {w0 w w' : World} {H : List Cd} {g : Nat} {xs : List UInt8} (hs : St M w0 w H) (hb : Below w.heap.size w w') (hg : w.heap.size ≤ g) (ha : Ar w' g 5 (bvs (spareL xs))) (hl : xs.length ≤ 1099511627776) : St M w0 w' (spP (xs, g) :: H) := by
  refine (hs.newA hb hg ha).map fun S h => h.mapC fun T h => ?_
  have hlen : (bvs (spareL xs)).length = xs.length + 40 := by rw [bvs_length, spareL_length]
  have := blk_ow h (by rw [hlen]; simp only [maxLen]; omega)
  rwa [hlen] at this
theorem sp_rd {w : World} {x : List UInt8 × Nat} {S : BS} (h : (spP x).P w S) : RdB w (some ⟨x.2, 0, none⟩) (spareL x.1) ∧ RdB w (some ⟨x.2, 0, none⟩) x.1 := by
  have h1 : RdB w (some ⟨x.2, 0, none⟩) (spareL x.1) := by
    have := h.2.rd
    unfold RdB
    rw [spareL_length]; exact this
  refine ⟨h1, ?_⟩
  have h2 := Rd.cut (l := 0) (h := x.1.length) (c := x.1.length + 40) h.2.rd (Nat.zero_le _) (by omega) (Nat.le_refl _)
  rw [cutA_zero, Nat.sub_zero, List.drop_zero] at h2
  unfold RdB
  have e : (bvs (spareL x.1)).take x.1.length = bvs x.1 := by rw [bvs, ← List.map_take, spareL_take]; rfl
  rw [e] at h2
  exact h2
theorem St.sp {M : BS} {w0 w : World} {H : List Cd} {x : List UInt8 × Nat} (hs : St M w0 w H) (i : Nat) (hi : nthC H i = some (spP x)) : RdB w (some ⟨x.2, 0, none⟩) (spareL x.1) ∧ RdB w (some ⟨x.2, 0, none⟩) x.1 := by
  obtain ⟨T, hc, _⟩ := hs.get i hi
  exact sp_rd hc
/-! #### Rows of entries, told one by one -/
theorem zip_take {α β : Type} {l : List α} {r : List β} {i : Nat} {a : α} {b : β} (ha : l[i]? = some a) (hb : r[i]? = some b) : (l.zip r).take (i + 1) = (l.zip r).take i ++ [(a, b)] := take_getR (by rw [List.getElem?_zip_eq_some]; exact ⟨ha, hb⟩)
theorem zip_perm {α β : Type} (f : α → List β) : ∀ {l r : List α}, l.length = r.length → (l.flatMap f ++ r.flatMap f).Perm ((l.zip r).flatMap fun p => f p.1 ++ f p.2)
  | [], [], _ => .refl _
  | a :: l, b :: r, h => by
    have ih := zip_perm f (l := l) (r := r) (by simpa using h)
    rw [List.zip_cons_cons, List.flatMap_cons, List.flatMap_cons, List.flatMap_cons, List.append_assoc, List.append_assoc]
    refine List.Perm.append_left _ ?_
    rw [← List.append_assoc]
    refine (List.perm_append_comm.append_right _).trans ?_
    rw [List.append_assoc]
    exact ih.append_left _
  | [], _ :: _, h => by simp at h
  | _ :: _, [], h => by simp at h
abbrev prM (p : EnA × EnA) : List Cd := enM p.1 ++ enM p.2
abbrev prSl (p : EnA × EnA) : List Value := enSl p.1 ++ enSl p.2
theorem zip_byQ : ∀ {zs : List (EnA × EnA)}, (∀ p ∈ zs, (p.1.x.key.length ≤ 1048576 ∧ p.1.x.val.length ≤ 1048576) ∧ (p.2.x.key.length ≤ 1048576 ∧ p.2.x.val.length ≤ 1048576)) → ByQ (zs.flatMap prM) (zs.flatMap prSl)
  | [], _ => .nil
  | p :: zs, h => by
    obtain ⟨⟨h1, h2⟩, h3, h4⟩ := h p List.mem_cons_self
    exact .cons (by omega) hdc_ow (.cons (by omega) hdc_ow (.cons (by omega) hdc_ow (.cons (by omega) hdc_ow (zip_byQ fun q hq => h q (List.mem_cons_of_mem _ hq)))))
theorem St.es7 {M : BS} {w0 w : World} {H : List Cd} {A : Option Addr} {c : Nat} {l : List En} (hs : St M w0 w (.ck (rsC 4 38 A c (l.map oE)) :: H)) : ∃ es : List EnA, es.map (·.x) = l ∧ St M w0 w (.rg 4 38 A c ((es.map eaV).map rawEl) :: .ck (packC (es.flatMap enM)) :: H) := by
  obtain ⟨⟨es, he⟩, h⟩ := hs.unpackE (α := { es : List EnA // es.map (·.x) = l }) (H1 := fun es => [.rg 4 38 A c ((es.1.map eaV).map rawEl), .ck (packC (es.1.flatMap enM))]) fun T h => by
    obtain ⟨es, e1, e2⟩ := rs_es h
    refine ⟨⟨es, e1⟩, ?_⟩
    rw [List.map_map]
    exact Sat.packR (X := [.rg 4 38 A c (es.map fun a => rawEl (eaV a))]) e2 fun T h => h
  exact ⟨es, he, h⟩
theorem pks7 {w : World} : ∀ {Hs : List (List Cd)} {S : BS}, Sat w (Hs.map fun H => .ck (packC H)) S → Sat w Hs.flatten S
  | [], _, _ => trivial
  | H :: Hs, S, ⟨T, hT, hc, hr⟩ => by
    rw [List.flatten_cons]
    exact Sat.join hT hc (pks7 hr)
/-- One entry's memory, out of that of all. -/
theorem St.esAt {M : BS} {w0 w : World} {H : List Cd} {es : List EnA} {i : Nat} {a : EnA} (hs : St M w0 w (.ck (packC (es.flatMap enM)) :: H)) (hi : es[i]? = some a) : St M w0 w (enM a) := by
  obtain ⟨r, hp⟩ := mem_perm (List.mem_of_getElem? hi)
  refine (hs.unpk).map fun S h => ?_
  obtain ⟨T, hT, h1, _⟩ := h.append
  have h2 := Sat.permL (hp.flatMap_right enM) h1
  rw [List.flatMap_cons] at h2
  obtain ⟨U, hU, h3, _⟩ := h2.append
  exact h3.mono fun b _ hb => hT b (hU b hb)
theorem raw8 {k c j : Nat} {w : World} {e : TypeId} {A : Option Addr} {css : List (List Value)} {cs : List Value} (hk : 0 < k) (h : OwR k e w 0 All A c (css.map rawEl)) (hcs : css[j]? = some cs) : ∃ b o, A = some ⟨b, o, none⟩ ∧ Wi w b (o + j * k) cs := by
  obtain ⟨b, o, _, rfl, _, _, rfl, i0⟩ := RdR.at (k := k) hk (OwR.rd h) (E := rawEl cs) (i := j) (by rw [List.getElem?_map, hcs]; rfl)
  exact ⟨b, o, rfl, i0⟩
theorem noE_own {M : BS} {w0 w : World} {H : List Cd} (hs : St M w0 w H) : St M w0 w (enOw noE none 0 none 0) := (hs.nil.nilO 5).nilO 5
theorem bseek3_any {A K : Option Addr} {n c kn kc m : Nat} {xs key : List UInt8} {w : World} (hr : RdB w A xs) (hn : xs.length = n) (hc : xs.length ≤ c) (hl : xs.length ≤ 1099511627776) (rk : RdB w K key) (hkn : key.length = kn) :
    CallsV Try.prog 13 #[.slice A n c, .slice K kn kc, .int .u64 (m : Int)] w fun v w' => ∃ (X : Option Addr) (cx : Nat) (Y : Option Addr) (cy : Nat), v = .tuple #[.agg (enV (sekB xs ⟨key, m, 0, []⟩).1 X cx Y cy).toArray, .bool (sekB xs ⟨key, m, 0, []⟩).2.1, .int .i64 ((sekB xs ⟨key, m, 0, []⟩).2.2 : Nat)] ∧ St NoB w w' (enOw (sekB xs ⟨key, m, 0, []⟩).1 X cx Y cy) := by
  subst hn hkn
  have hs := St.init w
  obtain ⟨y, hy⟩ : ∃ y : En, ⟨key, m, 0, []⟩ = y := ⟨_, rfl⟩
  rw [hy]
  refine calls_in (N := _) Try.func13 rfl Try.ntmps13 rfl ?_; show WC _ _ _ _ _ _
  refine wc_sr ?_
  refine ws_new hs zeroE rfl ?_; clear hs; intro g6 _ hs
  unfold zE at hs
  refine wl_as rfl rfl ?_; refine wl_as rfl rfl ?_; refine wl_ns ?_; refine wc_sr ?_; refine wl_mv rfl rfl ?_
  refine wl_call ok_block_Decode (decode_any (hr.below hs.bel) rfl hc hl) ⟨rfl, trivial⟩ rfl ?_
  obtain ⟨⟨l, e⟩, hd⟩ : ∃ q, decB xs = q := ⟨_, rfl⟩
  have hok := dec_ok hd
  rw [hd]
  rintro _ w1 ⟨R, rc, rfl, hsx⟩
  replace hs := hs.call hsx
  clear hsx
  dsimp only [List.cons_append, List.nil_append] at hs hok ⊢
  refine wl_mv rfl rfl ?_; apply wl_val; apply opv_extract; exact rfl; exact rfl; exact rfl; apply wl_val; apply opv_extract; exact rfl; exact rfl; exact rfl
  refine ws_new1 hs zeroR rfl rfl ?_; clear hs; intro g9 _ hs
  apply ws_st hs 0; exact rfl; exact rfl; exact e1_row; exact rfl; exact rfl; exact rfl; clear hs; intro _ hs; dsimp only [setC, List.set] at hs; refine wl_as rfl rfl ?_; refine wl_ns ?_; refine wc_seq ?_; refine wc_sr ?_; refine wl_mv rfl rfl ?_; refine wl_bin rfl rfl bin_neq rfl ?_; refine wl_ns ?_
  by_cases he : e = 0
  · subst he
    have ho := hok.2 rfl
    have hsk : sekB xs y = ((sekE l y).getD noE, (sekE l y).isSome, 0) := by rw [sekB, hd]; rfl
    rw [hsk]
    apply wc_condFb; exact rfl; exact rfl; refine wc_skip ?_; refine we_seq ?_; refine wc_sr ?_; refine wl_mv rfl rfl ?_; refine wl_mv rfl rfl ?_
    refine wl_val (opv_build (vs := [(0, .slice K key.length kc), (1, .int .u64 (m : Int))]) (cs := enV y K kc none 0) ⟨rfl, rfl, rfl, rfl, trivial⟩ (by subst hy; kernel_rfl)) rfl ?_
    skip
    refine ws_new hs zeroE rfl ?_; clear hs; intro g11 _ hs
    unfold zE at hs
    unfold enV
    apply ws_stS hs 0; exact rfl; exact rfl; exact rfl; exact sE; exact rfl; exact rfl; clear hs; intro _ hs; dsimp only [setC] at hs; refine wl_ns ?_; refine wc_sr ?_; apply wl_val; apply opv_ldX; exact rfl; exact hs.ar 1 rfl; exact e1_row; exact rfl; exact rfl; apply wl_val; apply opv_len; exact rfl; exact tkE.sl; exact rfl
    refine wl_val (opv_mkFunc (us := [.pointer (some ⟨g9, 0, none⟩), .pointer (some ⟨g11, 0, none⟩)]) ⟨rfl, rfl, trivial⟩) rfl ?_
    have hrk := rk.below hs.bel
    refine wl_call ok_sort_Search (search_any (n := l.length) (p := fun k => !lessE (l[k]?.getD noE) y) ok_block_Seek_1 (by omega) (fun k hk w' hb => ?_) fun i j h1 h2 h3 => ord_mono ho h1 h2 h3) ⟨rfl, rfl, trivial⟩ rfl ?_
    · have hs' := hs.below hb
      have hx : l[k]? = some l[k] := List.getElem?_eq_getElem hk
      rw [hx, Option.getD_some]
      exact seekP_any hx (OwR.rd (hs'.rsE 2 rfl)) (by simp) (hs'.ar 1 rfl) (hs'.ar 0 rfl) (by subst hy; exact hrk.below hb)
    rintro _ w2 ⟨⟨i, rfl, hi⟩, hb⟩
    replace hs := hs.below hb
    clear hb
    have hil := hi.le
    rw [sek_at hi]
    refine wl_as rfl rfl ?_; refine wl_ns ?_; refine wc_seq ?_; refine wc_sr ?_; refine wl_mv rfl rfl ?_; apply wl_val; apply opv_ldX; exact rfl; exact hs.ar 1 rfl; exact e1_row; exact rfl; exact rfl; apply wl_val; apply opv_len; exact rfl; exact tkE.sl; exact rfl; refine wl_bin rfl rfl bin_eql rfl ?_; refine wl_ns ?_
    by_cases k1 : i = l.length
    · subst k1
      rw [List.getElem?_eq_none (Nat.le_refl _)]
      apply wc_decT; exact rfl; (with_reducible rfl); refine wc_sr ?_
      refine wl_val (opv_build (vs := []) (cs := zE) trivial (by kernel_rfl)) rfl ?_
      unfold zE
      apply ws_stS hs 3; exact rfl; exact rfl; exact rfl; exact sE; exact rfl; exact rfl; clear hs; intro _ hs; dsimp only [setC] at hs; refine wl_as rfl rfl ?_; refine wl_as rfl rfl ?_; refine wl_ns ?_; refine wc_ret ?_; refine we_seq_ret ?_
      exact we_retC2 rfl rfl rfl rfl (hs.ar 3 rfl) sE ⟨_, rfl, none, 0, none, 0, rfl, noE_own hs⟩
    · obtain ⟨x, hx⟩ : ∃ x, l[i]? = some x := ⟨_, List.getElem?_eq_getElem (by omega)⟩
      have k1' : ¬ (i : Int) = (l.length : Int) := by omega
      rw [hx]
      obtain ⟨es, hes, hs⟩ := (hs.front 2 rfl).es7
      dsimp only [delC] at hs
      replace hs := ((hs.front 4 rfl).front 4 rfl).front 4 rfl
      dsimp only [delC] at hs
      obtain ⟨a, ha⟩ : ∃ a, es[i]? = some a := ⟨_, List.getElem?_eq_getElem (by rw [← List.length_map (f := (·.x)), hes]; omega)⟩
      have hax : a.x = x := by rw [← hes, List.getElem?_map, ha] at hx; exact Option.some.inj hx
      subst hax
      obtain ⟨b, o, hb, i0⟩ := raw8 (by decide) (hs.rg 3 rfl) (j := i) (cs := eaV a) (by rw [List.getElem?_map, ha]; rfl)
      subst hb
      unfold eaV enV at i0
      apply wc_decF; exact rfl; (with_reducible assumption); refine wc_skip ?_; refine we_seq ?_; refine wc_sr ?_; apply wl_val; apply opv_ldX; exact rfl; exact hs.ar 1 rfl; exact e1_row; exact rfl; exact rfl; refine wl_mv rfl rfl ?_; apply wl_val; apply opv_idxG tkE; exact rfl; exact rfl; exact rfl; omega; exact rfl; apply wl_val; apply opv_ldG; exact rfl; assumption; exact sE; exact rfl; apply ws_stS hs 2; exact rfl; exact rfl; exact rfl; exact sE; exact rfl; exact rfl; clear hs; intro _ hs; dsimp only [setC] at hs; refine wl_as rfl rfl ?_; refine wl_as rfl rfl ?_; refine wl_ns ?_; refine wc_ret ?_
      exact we_retC2 rfl rfl rfl rfl (hs.ar 2 rfl) sE ⟨_, rfl, a.A, a.c, a.B, a.d, rfl, St.esAt (hs.front 4 rfl) ha⟩
  · have he' : ¬ (e : Int) = 0 := by omega
    have hsk : sekB xs y = (noE, false, e) := by
      rw [sekB, hd]
      cases e with
      | zero => exact absurd rfl he
      | succ e => rfl
    rw [hsk]
    apply wc_decT; exact rfl; (with_reducible assumption); refine wc_sr ?_
    refine wl_val (opv_build (vs := []) (cs := zE) trivial (by kernel_rfl)) rfl ?_
    refine wl_mv rfl rfl ?_; apply ws_stS hs 2; exact rfl; exact rfl; exact rfl; exact sE; exact rfl; exact rfl; clear hs; intro _ hs; dsimp only [setC] at hs; refine wl_as rfl rfl ?_; refine wl_as rfl rfl ?_; refine wl_ns ?_; refine wc_ret ?_; refine we_seq_ret ?_
    unfold zE
    skip
    exact we_retC2 rfl rfl rfl rfl (hs.ar 2 rfl) sE ⟨_, rfl, none, 0, none, 0, rfl, noE_own hs⟩
end Go.Proofs.Ytojncfdlddepdaa
