/-
  The texts of this proof, joined: Br, Bs, Zd, Bt, Bu.
-/
import Derived.Test.YtojncfdlddepdaaRdsM5
import Derived.Test.YtojncfdlddepdaaRdsM2

/-
  Walk over the document's Decode of blocks.
-/
namespace Go.Proofs.Ytojncfdlddepdaa
open Go.RowKit

theorem ow_len8 {w : World} {base c : Nat} {A : Option Addr} {xs : List UInt8} (h : OwB w base A c xs) : xs.length ≤ maxLen := by
  rcases h.2 with ⟨_, hn⟩ | ⟨g, cap, cur, hv, _, _, hnc, hm, _⟩
  · rw [hn]; exact Nat.zero_le _
  · injection hv with _ _ hc
    exact Nat.le_trans hnc hm
theorem rdL_siz {b : List UInt8} {r : List (En × Nat)} (h : rdL b b.length 0 [] = some r) (_hl : b.length ≤ 1048576) : ∀ y ∈ r, y.1.key.length ≤ b.length ∧ y.1.val.length ≤ b.length ∧ y.1.seq < 2 ^ 64 := by
  have key : ∀ (f : Nat) (done : List (En × Nat)) (p : Nat) (key : List UInt8), DecI b done p key f → ∀ r', rdL b f p key = some r' → ∀ y ∈ done ++ r', y.1.key.length ≤ b.length ∧ y.1.val.length ≤ b.length ∧ y.1.seq < 2 ^ 64 := by
    intro f
    induction f with
    | zero =>
      intro done p key hI r' h
      rw [rdL] at h
      split at h
      · cases h
      · cases h; rw [List.append_nil]; exact hI.siz
    | succ f ih =>
      intro done p key hI r' h
      by_cases hlt : p < b.length
      · cases hr : rdE b p key with
        | none => rw [rdL_bad hlt hr] at h; cases h
        | some z =>
          obtain ⟨x, p'⟩ := z
          rw [rdL_step hlt hr] at h
          obtain ⟨r2, h2, rfl⟩ := Option.map_eq_some_iff.1 h
          have h1 := rdE_inv hr
          have h3 := rdE_bnd hr
          have hk := hI.key
          have hl := hI.len
          have hf := hI.fuel
          have hI2 : DecI b (done ++ [(x, p)]) p' x.key f := by
            refine ⟨by rw [hI.all, rdL_step hlt hr, opt_map_app], by omega, h1.2, by omega, by rw [List.length_append]; simp; omega, fun y hy => ?_⟩
            rcases List.mem_append.1 hy with hy | hy
            · exact hI.siz y hy
            · rw [List.mem_singleton.1 hy]
              show x.key.length ≤ b.length ∧ x.val.length ≤ b.length ∧ x.seq < 2 ^ 64
              exact ⟨by omega, by omega, h3.2.2⟩
          have := ih _ _ _ hI2 r2 h2
          rwa [List.append_assoc, List.singleton_append] at this
      · rw [rdL_end hlt] at h; cases h; rw [List.append_nil]; exact hI.siz
  exact fun y hy => key _ _ _ _ (DecI.start b) r h y (by simpa using hy)
set_option maxRecDepth 8000 in
set_option maxHeartbeats 2000000 in
theorem refDecode_any {A : Option Addr} {n c : Nat} {xs : List UInt8} {w : World} (hr : RdB w A xs) (hn : xs.length = n) (hc : xs.length ≤ c) (hl : xs.length ≤ 1099511627776) :
    CallsV Try.prog 12 #[.slice A n c] w fun v w' => ∃ (R : Option Addr) (rc : Nat), v = .tuple #[.slice R (decB xs).1.length rc, .int .i64 ((decB xs).2 : Nat)] ∧ St NoB w w' [.ck (rsC 4 38 R rc ((decB xs).1.map oE))] := by
  subst hn
  have hs := St.init w
  refine calls_in (N := _) Try.func12 rfl Try.ntmps12 rfl ?_; show WC _ _ _ _ _ _
  refine wc_sr ?_; refine wl_as rfl rfl ?_; refine wl_as rfl rfl ?_; refine wl_ns ?_; refine wc_sr ?_; refine wl_mv rfl rfl ?_
  obtain ⟨⟨body, nx, e⟩, ho⟩ : ∃ q, openB xs 0 = q := ⟨_, rfl⟩
  refine wl_call ok_caissonref03_Open (refOpen_at ho hr rfl hc (by omega) (by decide)) ⟨rfl, rfl, trivial⟩ rfl ?_
  rintro _ w1 ⟨B, bc, rfl, o1, hb⟩
  have hcap : body.length ≤ bc := o1.cap
  replace hs := hs.newO hb o1 (Nat.le_refl _)
  clear o1 hb
  dsimp only at hs ⊢
  cases e with
  | succ e =>
    have hd : decB xs = ([], e + 1) := by unfold decB; rw [ho]; rfl
    rw [hd]
    have h1 : ¬ ((e + 1 : Nat) : Int) = 0 := by omega
    refine wl_mv rfl rfl ?_; apply wl_val; apply opv_extract; exact rfl; exact rfl; exact rfl; apply wl_val; apply opv_extract; exact rfl; exact rfl; exact rfl; apply wl_val; apply opv_extract; exact rfl; exact rfl; exact rfl; refine wl_as rfl rfl ?_; refine wl_as rfl rfl ?_; refine wl_as rfl rfl ?_; refine wl_ns ?_; refine wc_seq ?_; refine wc_sr ?_; refine wl_mv rfl rfl ?_; refine wl_bin rfl rfl bin_neq rfl ?_; refine wl_ns ?_; apply wc_condTb; exact rfl; exact rfl; refine wc_sr ?_; refine wl_mv rfl rfl ?_; refine wl_as rfl rfl ?_; refine wl_as rfl rfl ?_; refine wl_ns ?_; refine wc_ret ?_; refine we_seq_ret ?_
    exact we_ret2 rfl rfl rfl ⟨_, rfl, none, 0, rfl, (hs.drop 0 rfl).nilS 4 38⟩
  | zero =>
    obtain ⟨i1, i2, i3⟩ := openB_inv (q := 0) (Nat.zero_le _) ho
    have h00 : ((0 : Nat) : Int) = 0 := rfl
    by_cases h1 : nx < xs.length
    · have h1' : ¬ (nx : Int) = (xs.length : Int) := by omega
      have hd : decB xs = ([], 3) := by unfold decB; rw [ho]; exact if_pos (.inl h1)
      rw [hd]
      refine wl_mv rfl rfl ?_; apply wl_val; apply opv_extract; exact rfl; exact rfl; exact rfl; apply wl_val; apply opv_extract; exact rfl; exact rfl; exact rfl; apply wl_val; apply opv_extract; exact rfl; exact rfl; exact rfl; refine wl_as rfl rfl ?_; refine wl_as rfl rfl ?_; refine wl_as rfl rfl ?_; refine wl_ns ?_; refine wc_seq ?_; refine wc_sr ?_; refine wl_mv rfl rfl ?_; refine wl_bin rfl rfl bin_neq rfl ?_; refine wl_ns ?_; apply wc_condFb; exact rfl; exact rfl; refine wc_skip ?_; refine we_seq ?_; refine wc_seq ?_; refine wc_sr ?_; refine wl_mv rfl rfl ?_; refine wl_mv rfl rfl ?_; apply wl_val; apply opv_len; exact rfl; exact tyB.sl; exact rfl; refine wl_bin rfl rfl bin_neq rfl ?_; refine wl_mv rfl rfl ?_; apply wl_skip; exact rfl; exact rfl; exact rfl; refine bTn ?_; (with_reducible assumption); exact rfl; apply wl_skip; exact rfl; exact rfl; exact rfl; refine bTn ?_; (with_reducible assumption); exact rfl; apply wl_skip; exact rfl; exact rfl; exact rfl; refine bTn ?_; (with_reducible assumption); exact rfl; apply wl_val; apply opv_pickT; exact rfl; refine bT ?_; (with_reducible assumption); exact rfl; exact rfl; refine wl_ns ?_; apply wc_condTb; exact rfl; exact rfl; refine wc_sr ?_; refine wl_as rfl rfl ?_; refine wl_as rfl rfl ?_; refine wl_ns ?_; refine wc_ret ?_; refine we_seq_ret ?_
      exact we_ret2 rfl rfl rfl ⟨_, rfl, none, 0, rfl, (hs.drop 0 rfl).nilS 4 38⟩
    have h1' : (nx : Int) = (xs.length : Int) := by omega
    have h1n : nx = xs.length := by omega
    by_cases h2 : body.length < 4
    · have h2' : (body.length : Int) < 4 := by omega
      have hd : decB xs = ([], 3) := by unfold decB; rw [ho]; exact if_pos (.inr h2)
      rw [hd]
      refine wl_mv rfl rfl ?_; apply wl_val; apply opv_extract; exact rfl; exact rfl; exact rfl; apply wl_val; apply opv_extract; exact rfl; exact rfl; exact rfl; apply wl_val; apply opv_extract; exact rfl; exact rfl; exact rfl; refine wl_as rfl rfl ?_; refine wl_as rfl rfl ?_; refine wl_as rfl rfl ?_; refine wl_ns ?_; refine wc_seq ?_; refine wc_sr ?_; refine wl_mv rfl rfl ?_; refine wl_bin rfl rfl bin_neq rfl ?_; refine wl_ns ?_; apply wc_condFb; exact rfl; exact rfl; refine wc_skip ?_; refine we_seq ?_; refine wc_seq ?_; refine wc_sr ?_; refine wl_mv rfl rfl ?_; refine wl_mv rfl rfl ?_; apply wl_val; apply opv_len; exact rfl; exact tyB.sl; exact rfl; refine wl_bin rfl rfl bin_neq rfl ?_; refine wl_mv rfl rfl ?_; apply wl_take; exact rfl; exact rfl; exact rfl; refine bF ?_; omega; refine wl_mv rfl rfl ?_; apply wl_take; exact rfl; exact rfl; exact rfl; refine bF ?_; omega; apply wl_val; apply opv_len; exact rfl; exact tyB.sl; exact rfl; apply wl_take; exact rfl; exact rfl; exact rfl; refine bF ?_; omega; refine wl_bin rfl rfl bin_lss rfl ?_; apply wl_val; apply opv_pickF; exact rfl; refine bF ?_; omega; exact rfl; exact rfl; refine wl_ns ?_; apply wc_decT; exact rfl; (with_reducible assumption); refine wc_sr ?_; refine wl_as rfl rfl ?_; refine wl_as rfl rfl ?_; refine wl_ns ?_; refine wc_ret ?_; refine we_seq_ret ?_
      exact we_ret2 rfl rfl rfl ⟨_, rfl, none, 0, rfl, (hs.drop 0 rfl).nilS 4 38⟩
    have h2' : ¬ (body.length : Int) < 4 := by omega
    have hm4 : (body.length : Int) - 4 = ((body.length - 4 + 0 : Nat) : Int) := by omega
    have l1 : (body.drop (body.length - 4)).length = 4 := by rw [List.length_drop]; omega
    refine wl_mv rfl rfl ?_; apply wl_val; apply opv_extract; exact rfl; exact rfl; exact rfl; apply wl_val; apply opv_extract; exact rfl; exact rfl; exact rfl; apply wl_val; apply opv_extract; exact rfl; exact rfl; exact rfl; refine wl_as rfl rfl ?_; refine wl_as rfl rfl ?_; refine wl_as rfl rfl ?_; refine wl_ns ?_; refine wc_seq ?_; refine wc_sr ?_; refine wl_mv rfl rfl ?_; refine wl_bin rfl rfl bin_neq rfl ?_; refine wl_ns ?_; apply wc_condFb; exact rfl; exact rfl; refine wc_skip ?_; refine we_seq ?_; refine wc_seq ?_; refine wc_sr ?_; refine wl_mv rfl rfl ?_; refine wl_mv rfl rfl ?_; apply wl_val; apply opv_len; exact rfl; exact tyB.sl; exact rfl; refine wl_bin rfl rfl bin_neq rfl ?_; refine wl_mv rfl rfl ?_; apply wl_take; exact rfl; exact rfl; exact rfl; refine bF ?_; omega; refine wl_mv rfl rfl ?_; apply wl_take; exact rfl; exact rfl; exact rfl; refine bF ?_; omega; apply wl_val; apply opv_len; exact rfl; exact tyB.sl; exact rfl; apply wl_take; exact rfl; exact rfl; exact rfl; refine bF ?_; omega; refine wl_bin rfl rfl bin_lss rfl ?_; apply wl_val; apply opv_pickF; exact rfl; refine bF ?_; omega; exact rfl; exact rfl; refine wl_ns ?_; apply wc_decF; exact rfl; (with_reducible assumption); refine wc_skip ?_; refine we_seq ?_; refine wc_sr ?_; refine wl_as rfl rfl ?_; refine wl_ns ?_; refine wc_seq ?_; refine wc_sr ?_; refine wl_mv rfl rfl ?_; apply wl_val; apply opv_len; exact rfl; exact tyB.sl; exact rfl; apply wl_val; apply opv_bin; exact rfl; exact rfl; exact bin_sub64 (by omega); exact rfl; refine wl_as rfl rfl ?_; refine wl_ns ?_; refine wc_block ?_
    rw [hm4]
    skip
    refine wc_loop (fun L wr mm => ∃ j : Nat, L = [(0, .slice A xs.length c), (4, .slice B body.length bc), (7, .int .i64 (numB ((body.drop (body.length - 4)).take j) : Nat)), (8, .int .i64 ((body.length - 4 + j : Nat) : Int))] ∧ j ≤ 4 ∧ St NoB w wr [.ow 5 B body.length bc (bvs body)] ∧ mm = 4 - j)
      [(0, .slice A xs.length c), (4, .slice B body.length bc), (7, .int .i64 0), (8, .int .i64 ((body.length - 4 + 0 : Nat) : Int))] 4 ⟨0, rfl, by omega, hs, rfl⟩ ⟨rfl, rfl, rfl, rfl, trivial⟩ ?_
    clear hs
    rintro _ w2 mm ⟨j, rfl, hj, hs, rfl⟩
    have hnl := numB_lt4' (l := body.drop (body.length - 4)) hj
    refine wc_seq ?_; refine wc_sr ?_; refine wl_mv rfl rfl ?_; refine wl_mv rfl rfl ?_; apply wl_val; apply opv_len; exact rfl; exact tyB.sl; exact rfl; refine wl_bin rfl rfl bin_lss rfl ?_; refine wl_ns ?_
    refine wc_cond rfl (fun h3 => ?_) (fun h3 => ?_)
    · obtain ⟨x, hx⟩ : ∃ x, body[body.length - 4 + j]? = some x := ⟨_, List.getElem?_eq_getElem (by omega)⟩
      have hrow : RdB w2 B body := (hs.ow 0 rfl).rd
      have hst := numB_step (l := body.drop (body.length - 4)) (k := j) (x := x) (by rw [List.getElem?_drop]; exact hx)
      have hxl := x.toNat_lt
      refine wc_skip ?_; refine we_seq ?_; refine wc_seq ?_; refine wc_block ?_; refine wc_region ?_; refine wl_mv rfl rfl ?_; apply wl_val; apply opv_bin; exact rfl; exact rfl; exact bin_mul64 (by omega); exact rfl; refine wl_mv rfl rfl ?_; refine wl_mv rfl rfl ?_; apply wl_byK (T := tyB) (hr := hrow) (hb := hx); exact rfl; exact rfl; exact rfl; exact rfl; exact rfl; intro _; apply wl_val; apply opv_convR; exact rfl; exact Try.underlying5; exact Try.underlying3; exact IntWalk.i64_in _ (by omega); exact rfl; apply wl_val; apply opv_bin; exact rfl; exact rfl; exact bin_add64 (by omega); exact rfl; refine wl_as rfl rfl ?_; refine wl_nil ?_; refine we_block_norm ?_; refine we_seq ?_; refine wc_region ?_; refine wl_mv rfl rfl ?_; apply wl_val; apply opv_bin; exact rfl; exact rfl; exact bin_add64 (by omega); exact rfl; refine wl_as rfl rfl ?_; refine wl_nil ?_
      have e1 : ((numB ((body.drop (body.length - 4)).take (j + 1)) : Nat) : Int) = (numB ((body.drop (body.length - 4)).take j) : Int) * 256 + (x.toNat : Int) := by rw [hst]; omega
      exact we_loop _ (4 - (j + 1)) ⟨j + 1, rfl, by omega, hs, rfl⟩ (by omega) ⟨rfl, rfl, by rw [e1]; rfl, by rw [show body.length - 4 + (j + 1) = body.length - 4 + j + 1 by omega]; rfl, trivial⟩
    · obtain rfl : j = 4 := by omega
      rw [List.take_of_length_le (Nat.le_of_eq l1)] at hnl ⊢
      obtain ⟨k, hk⟩ : ∃ q, numB (body.drop (body.length - 4)) = q := ⟨_, rfl⟩
      rw [hk] at hnl ⊢
      by_cases h5 : (body.length - 4) / 4 < k
      · have hd : decB xs = ([], 3) := by unfold decB; rw [ho]; simp only; rw [if_neg (by omega), hk, if_pos h5]
        rw [hd]
        have h5' : 4 * (k : Int) + 4 > (body.length : Int) := by omega
        refine wc_exit ?_; refine we_seq_exit ?_; refine we_loop_exit ?_; refine we_block_exit ?_; refine we_seq ?_; refine wc_seq ?_; refine wc_sr ?_; refine wl_mv rfl rfl ?_; apply wl_val; apply opv_bin; exact rfl; exact rfl; exact bin_mul64 (by omega); exact rfl; apply wl_val; apply opv_bin; exact rfl; exact rfl; exact bin_add64 (by omega); exact rfl; refine wl_mv rfl rfl ?_; apply wl_val; apply opv_len; exact rfl; exact tyB.sl; exact rfl; refine wl_bin rfl rfl bin_gtr rfl ?_; refine wl_ns ?_; apply wc_decT; exact rfl; (with_reducible assumption); refine wc_sr ?_; refine wl_as rfl rfl ?_; refine wl_as rfl rfl ?_; refine wl_ns ?_; refine wc_ret ?_; refine we_seq_ret ?_
        exact we_ret2 rfl rfl rfl ⟨_, rfl, none, 0, rfl, (hs.drop 0 rfl).nilS 4 38⟩
      have h5' : ¬ 4 * (k : Int) + 4 > (body.length : Int) := by omega
      obtain ⟨q, hq⟩ : ∃ q, body.length - 4 - 4 * k = q := ⟨_, rfl⟩
      have hqi : (body.length : Int) - 4 - 4 * (k : Int) = (q : Int) := by omega
      have lq : (body.take q).length = q := by rw [List.length_take]; omega
      obtain ⟨ss, hss⟩ : ∃ s, startsB (body.take (body.length - 4)) q k = s := ⟨_, rfl⟩
      have hsl : ss.length = k := by rw [← hss]; exact startsB_len _ _ _
      have hd : decB xs = match rdL (body.take q) q 0 [] with
        | none => ([], 3)
        | some r => if buildB (evL ss (r.map (·.2))) (r.map (·.1)) = (xs, 0) then (r.map (·.1), 0) else ([], 3) := by
        unfold decB; rw [ho]; simp only; rw [if_neg (by omega), hk, if_neg h5, hq, hss]
        rfl
      refine wc_exit ?_; refine we_seq_exit ?_; refine we_loop_exit ?_; refine we_block_exit ?_; refine we_seq ?_; refine wc_seq ?_; refine wc_sr ?_; refine wl_mv rfl rfl ?_; apply wl_val; apply opv_bin; exact rfl; exact rfl; exact bin_mul64 (by omega); exact rfl; apply wl_val; apply opv_bin; exact rfl; exact rfl; exact bin_add64 (by omega); exact rfl; refine wl_mv rfl rfl ?_; apply wl_val; apply opv_len; exact rfl; exact tyB.sl; exact rfl; refine wl_bin rfl rfl bin_gtr rfl ?_; refine wl_ns ?_; apply wc_decF; exact rfl; (with_reducible assumption); refine wc_skip ?_; refine we_seq ?_; refine wc_sr ?_; refine wl_mv rfl rfl ?_; refine wl_mv rfl rfl ?_; apply wl_val; apply opv_len; exact rfl; exact tyB.sl; exact rfl; apply wl_val; apply opv_bin; exact rfl; exact rfl; exact bin_sub64 (by omega); exact rfl; refine wl_mv rfl rfl ?_; apply wl_val; apply opv_bin; exact rfl; exact rfl; exact bin_mul64 (by omega); exact rfl; apply wl_val; apply opv_bin; exact rfl; exact rfl; exact bin_sub64 (by omega); exact rfl
      rw [hqi]
      refine wl_sl (l := 0) (h := q) tyB rfl rfl ⟨_, rfl⟩ (Nat.zero_le _) (by omega) rfl ?_
      have rq : RdB w2 (cutA B bc 0) (body.take q) := by
        have := cutB_rd (l := 0) (h := q) (c := bc) (xs := body) (hs.ow 0 rfl).rd (Nat.zero_le _) (by omega) hcap
        rw [List.drop_zero] at this; exact this
      rw [Nat.sub_zero, Nat.sub_zero]
      refine wl_call ok_caissonref08_read (refRead_any rq lq (by omega) (by omega)) ⟨rfl, trivial⟩ rfl ?_
      rw [lq]
      intro v w3 hv
      cases hrd : rdL (body.take q) q 0 [] with
      | none =>
        rw [hrd] at hv hd
        obtain ⟨rfl, hbx⟩ := hv
        replace hs := hs.below hbx
        rw [hd]
        refine wl_mv rfl rfl ?_; apply wl_val; apply opv_extract; exact rfl; exact rfl; exact rfl; apply wl_val; apply opv_extract; exact rfl; exact rfl; exact rfl; apply wl_val; apply opv_extract; exact rfl; exact rfl; exact rfl; refine wl_as rfl rfl ?_; refine wl_as rfl rfl ?_; refine wl_as rfl rfl ?_; refine wl_ns ?_; refine wc_seq ?_; refine wc_sr ?_; refine wl_mv rfl rfl ?_; apply wl_val; apply opv_not; exact rfl; exact rfl; refine wl_ns ?_; apply wc_condTb; exact rfl; exact Bool.not_false; refine wc_sr ?_; refine wl_as rfl rfl ?_; refine wl_as rfl rfl ?_; refine wl_ns ?_; refine wc_ret ?_; refine we_seq_ret ?_
        exact we_ret2 rfl rfl rfl ⟨_, rfl, none, 0, rfl, (hs.drop 0 rfl).nilS 4 38⟩
      | some r =>
        rw [hrd] at hv hd
        obtain ⟨R, rc, Q, qc, rfl, hsx⟩ := hv
        replace hs := hs.call hsx
        clear hsx
        dsimp only [List.cons_append, List.nil_append] at hs hd
        obtain ⟨l, hrl⟩ : ∃ q, r.map (·.1) = q := ⟨_, rfl⟩
        obtain ⟨ps, hrp⟩ : ∃ q, r.map (·.2) = q := ⟨_, rfl⟩
        have hll : r.length = l.length := by rw [← hrl, List.length_map]
        have hpl : ps.length = l.length := by rw [← hrl, ← hrp]; simp
        have hinc := (rdL_inc hrd).2
        have hrd2 : rdL (body.take q) (body.take q).length 0 [] = some r := by rw [lq]; exact hrd
        have hl9 := rdL_len hrd2 (Nat.zero_le _)
        have hlb : l.length ≤ 1048576 := by omega
        rw [hrp] at hinc
        rw [hrl, hrp] at hs hd
        rw [hll] at hs ⊢
        rw [hd]
        by_cases hne : l = []
        · subst hne
          have hpn : ps = [] := List.eq_nil_of_length_eq_zero hpl
          subst hpn
          have hev : evL ss [] = 1 := rfl
          obtain ⟨hb1, _⟩ := dec_build (every := 1) (l := []) (by decide) (fun x h => by cases h) rfl rfl (by rw [blkB_length]; decide)
          have hz0 : (([] : List En).length : Int) = 0 := rfl
          rw [hev, hb1]
          obtain ⟨bs, hbs⟩ : ∃ q, crcRec (blkB 1 []) = q := ⟨_, rfl⟩
          rw [hbs] at hb1 ⊢
          refine wl_mv rfl rfl ?_; apply wl_val; apply opv_extract; exact rfl; exact rfl; exact rfl; apply wl_val; apply opv_extract; exact rfl; exact rfl; exact rfl; apply wl_val; apply opv_extract; exact rfl; exact rfl; exact rfl; refine wl_as rfl rfl ?_; refine wl_as rfl rfl ?_; refine wl_as rfl rfl ?_; refine wl_ns ?_; refine wc_seq ?_; refine wc_sr ?_; refine wl_mv rfl rfl ?_; apply wl_val; apply opv_not; exact rfl; exact rfl; refine wl_ns ?_; apply wc_condFb; exact rfl; exact Bool.not_true; refine wc_skip ?_; refine we_seq ?_; refine wc_seq ?_; refine wc_sr ?_; refine wl_mv rfl rfl ?_; apply wl_val; apply opv_len; exact rfl; exact tkE.sl; exact rfl; refine wl_bin rfl rfl bin_eql rfl ?_; refine wl_ns ?_; apply wc_condTb; exact rfl; exact rfl; refine wc_sr ?_
          refine wl_call ok_caissonref08_Build (refBuild_any (every := 1) (l := []) (by decide) (by decide) (RdR.nil none) rfl (by decide) (fun x h => by cases h)) ⟨rfl, rfl, trivial⟩ rfl ?_
          rw [hb1]
          rintro _ w4 ⟨G, gc, rfl, oG, hbx⟩
          replace hs := hs.below hbx
          clear hbx
          dsimp only at oG ⊢
          refine wl_mv rfl rfl ?_; apply wl_val; apply opv_extract; exact rfl; exact rfl; exact rfl; apply wl_val; apply opv_extract; exact rfl; exact rfl; exact rfl; refine wl_as rfl rfl ?_; refine wl_as rfl rfl ?_; refine wl_ns ?_; refine wc_seq ?_; refine wc_sr ?_; refine wl_mv rfl rfl ?_; refine wl_mv rfl rfl ?_
          refine wl_call ok_caissonref01_Equal (equal_any (xs := bs) (ys := xs) oG.rd (hr.below hs.bel) rfl rfl (by rw [← hbs, crcRec_length, blkB_length]; decide)) ⟨rfl, rfl, trivial⟩ rfl ?_
          rintro _ w5 ⟨rfl, hbx⟩
          replace hs := hs.below hbx
          clear hbx
          by_cases he : bs = xs
          · rw [decide_eq_true he, if_pos (by rw [he])]
            apply wl_val; apply opv_not; exact rfl; exact rfl; refine wl_ns ?_; apply wc_condFb; exact rfl; exact Bool.not_true; refine wc_skip ?_; refine we_seq ?_; refine wc_sr ?_; refine wl_as rfl rfl ?_; refine wl_as rfl rfl ?_; refine wl_ns ?_; refine wc_ret ?_; refine we_seq_ret ?_
            exact we_ret2 rfl rfl rfl ⟨_, rfl, none, 0, rfl, (hs.nil).nilS 4 38⟩
          · rw [decide_eq_false he, if_neg fun h => he (Prod.mk.inj h).1]
            apply wl_val; apply opv_not; exact rfl; exact rfl; refine wl_ns ?_; apply wc_condTb; exact rfl; exact Bool.not_false; refine wc_sr ?_; refine wl_as rfl rfl ?_; refine wl_as rfl rfl ?_; refine wl_ns ?_; refine wc_ret ?_; refine we_seq_ret ?_; refine we_seq_ret ?_
            exact we_ret2 rfl rfl rfl ⟨_, rfl, none, 0, rfl, (hs.nil).nilS 4 38⟩
        have hlp : 0 < l.length := List.length_pos_iff.2 hne
        have hz0 : ¬ (l.length : Int) = 0 := by omega
        rw [← ev8_eq (b := xs) (r := r) ho hk hsl hrl hrp hinc hne]
        have hpq : ∀ {w' : World}, (∃ T, (Cd.ow 3 Q l.length qc (natV ps)).P w' T) → Rd w' Q l.length (natV ps) := fun ⟨T, h⟩ => h.2.rd
        refine wl_mv rfl rfl ?_; apply wl_val; apply opv_extract; exact rfl; exact rfl; exact rfl; apply wl_val; apply opv_extract; exact rfl; exact rfl; exact rfl; apply wl_val; apply opv_extract; exact rfl; exact rfl; exact rfl; refine wl_as rfl rfl ?_; refine wl_as rfl rfl ?_; refine wl_as rfl rfl ?_; refine wl_ns ?_; refine wc_seq ?_; refine wc_sr ?_; refine wl_mv rfl rfl ?_; apply wl_val; apply opv_not; exact rfl; exact rfl; refine wl_ns ?_; apply wc_condFb; exact rfl; exact Bool.not_true; refine wc_skip ?_; refine we_seq ?_; refine wc_seq ?_; refine wc_sr ?_; refine wl_mv rfl rfl ?_; apply wl_val; apply opv_len; exact rfl; exact tkE.sl; exact rfl; refine wl_bin rfl rfl bin_eql rfl ?_; refine wl_ns ?_; apply wc_decF; exact rfl; (with_reducible assumption); refine wc_skip ?_; refine we_seq ?_; refine wc_sr ?_; refine wl_mv rfl rfl ?_; apply wl_val; apply opv_len; exact rfl; exact tkE.sl; exact rfl; refine wl_as rfl rfl ?_; refine wl_ns ?_; refine wc_seq ?_; refine wc_sr ?_; refine wl_mv rfl rfl ?_; refine wl_bin rfl rfl bin_gtr rfl ?_; refine wl_ns ?_
        refine wc_cutE (fun L' w' => L' = [(0, .slice A xs.length c), (9, .slice R l.length rc), (14, .int .i64 (ev8 ss k ps : Nat))] ∧ w' = w3) ?_ ?_
        · by_cases hk1 : 1 < k
          · have hk1' : (k : Int) > 1 := by omega
            have hat : (body.length : Int) - 4 * (k : Int) = ((q + 4 + 0 : Nat) : Int) := by omega
            have hat2 : ((q + 4 + 0 : Nat) : Int) = ((q + 4 : Nat) : Int) := rfl
            apply wc_decT; exact rfl; (with_reducible assumption); refine wc_sr ?_; refine wl_as rfl rfl ?_; refine wl_ns ?_; refine wc_sr ?_; refine wl_mv rfl rfl ?_; apply wl_val; apply opv_len; exact rfl; exact tyB.sl; exact rfl; refine wl_mv rfl rfl ?_; apply wl_val; apply opv_bin; exact rfl; exact rfl; exact bin_mul64 (by omega); exact rfl; apply wl_val; apply opv_bin; exact rfl; exact rfl; exact bin_sub64 (by omega); exact rfl; refine wl_as rfl rfl ?_; refine wl_ns ?_; refine wc_seq ?_; refine wc_sr ?_; refine wl_mv rfl rfl ?_; refine wl_as rfl rfl ?_; refine wl_ns ?_; refine wc_block ?_
            rw [hat]
            have l4 : ((body.drop (q + 4)).take 4).length = 4 := by rw [List.length_take, List.length_drop]; omega
            refine wc_loop (fun L wr mm => ∃ j : Nat, L = [(0, .slice A xs.length c), (4, .slice B body.length bc), (9, .slice R l.length rc), (10, .slice Q l.length qc), (14, .int .i64 (l.length : Int)), (15, .int .i64 (numB ((body.drop (q + 4)).take j) : Nat)), (16, .int .i64 ((q + 4 : Nat) : Int)), (17, .int .i64 ((q + 4 + j : Nat) : Int))] ∧ j ≤ 4 ∧ wr = w3 ∧ mm = 4 - j)
              [(0, .slice A xs.length c), (4, .slice B body.length bc), (9, .slice R l.length rc), (10, .slice Q l.length qc), (14, .int .i64 (l.length : Int)), (15, .int .i64 0), (16, .int .i64 ((q + 4 : Nat) : Int)), (17, .int .i64 ((q + 4 + 0 : Nat) : Int))] 4 ⟨0, rfl, by omega, rfl, rfl⟩ ⟨rfl, rfl, rfl, rfl, rfl, rfl, rfl, rfl, trivial⟩ ?_
            rintro _ w3 mm ⟨j, rfl, hj, rfl, rfl⟩
            have hnl2 := numB_lt4' (l := body.drop (q + 4)) hj
            refine wc_seq ?_; refine wc_sr ?_; refine wl_mv rfl rfl ?_; refine wl_mv rfl rfl ?_; apply wl_val; apply opv_bin; exact rfl; exact rfl; exact bin_add64 (by omega); exact rfl; refine wl_bin rfl rfl bin_lss rfl ?_; refine wl_ns ?_
            refine wc_cond rfl (fun h3 => ?_) (fun h3 => ?_)
            · obtain ⟨x, hx⟩ : ∃ x, body[q + 4 + j]? = some x := ⟨_, List.getElem?_eq_getElem (by omega)⟩
              have hrow : RdB _ B body := (hs.ow 2 rfl).rd
              have hst := numB_step (l := body.drop (q + 4)) (k := j) (x := x) (by rw [List.getElem?_drop]; exact hx)
              have hxl := x.toNat_lt
              refine wc_skip ?_; refine we_seq ?_; refine wc_seq ?_; refine wc_block ?_; refine wc_region ?_; refine wl_mv rfl rfl ?_; apply wl_val; apply opv_bin; exact rfl; exact rfl; exact bin_mul64 (by omega); exact rfl; refine wl_mv rfl rfl ?_; refine wl_mv rfl rfl ?_; apply wl_byK (T := tyB) (hr := hrow) (hb := hx); exact rfl; exact rfl; exact rfl; exact rfl; exact rfl; intro _; apply wl_val; apply opv_convR; exact rfl; exact Try.underlying5; exact Try.underlying3; exact IntWalk.i64_in _ (by omega); exact rfl; apply wl_val; apply opv_bin; exact rfl; exact rfl; exact bin_add64 (by omega); exact rfl; refine wl_as rfl rfl ?_; refine wl_nil ?_; refine we_block_norm ?_; refine we_seq ?_; refine wc_region ?_; refine wl_mv rfl rfl ?_; apply wl_val; apply opv_bin; exact rfl; exact rfl; exact bin_add64 (by omega); exact rfl; refine wl_as rfl rfl ?_; refine wl_nil ?_
              have e1 : ((numB ((body.drop (q + 4)).take (j + 1)) : Nat) : Int) = (numB ((body.drop (q + 4)).take j) : Int) * 256 + (x.toNat : Int) := by rw [hst]; omega
              exact we_loop _ (4 - (j + 1)) ⟨j + 1, rfl, by omega, rfl, rfl⟩ (by omega) ⟨rfl, rfl, rfl, rfl, rfl, by rw [e1]; rfl, rfl, by rw [show q + 4 + (j + 1) = q + 4 + j + 1 by omega]; rfl, trivial⟩
            · obtain rfl : j = 4 := by omega
              obtain ⟨sd, hsd⟩ : ∃ z, numB ((body.drop (q + 4)).take 4) = z := ⟨_, rfl⟩
              rw [hsd] at hnl2 ⊢
              have hs1 : ss[1]? = some sd := by
                rw [← hss, startsB, List.getElem?_map, List.getElem?_range (by omega)]
                simp only [Option.map_some, Option.some.injEq]
                rw [← hsd, List.drop_take, List.take_take, Nat.min_eq_left (by omega)]
              have e8 : ev8 ss k ps = evR sd ps ps.length ps.length := by rw [ev8, if_pos hk1, hs1]; rfl
              rw [e8]
              refine wc_exit ?_; refine we_seq_exit ?_; refine we_loop_exit ?_; refine we_block_exit ?_; refine we_seq ?_; refine wc_sr ?_; refine wl_as rfl rfl ?_; refine wl_ns ?_; refine wc_block ?_
              refine wc_loop (fun L wr mm => ∃ i : Nat, L = [(0, .slice A xs.length c), (9, .slice R l.length rc), (10, .slice Q l.length qc), (14, .int .i64 (evR sd ps ps.length i : Nat)), (15, .int .i64 (sd : Nat)), (18, .int .i64 (i : Int))] ∧ i ≤ ps.length ∧ wr = w3 ∧ mm = ps.length - i)
                [(0, .slice A xs.length c), (9, .slice R l.length rc), (10, .slice Q l.length qc), (14, .int .i64 (l.length : Int)), (15, .int .i64 (sd : Nat)), (18, .int .i64 (0 : Nat))] ps.length ⟨0, by rw [evR, hpl], by omega, rfl, rfl⟩ ⟨rfl, rfl, rfl, rfl, rfl, rfl, trivial⟩ ?_
              rintro _ _ mm ⟨i, rfl, hi, rfl, rfl⟩
              refine wc_seq ?_; refine wc_sr ?_; refine wl_mv rfl rfl ?_; refine wl_mv rfl rfl ?_; apply wl_val; apply opv_len; exact rfl; exact tyI.sl; exact rfl; refine wl_bin rfl rfl bin_lss rfl ?_; refine wl_ns ?_
              refine wc_cond rfl (fun h6 => ?_) (fun h6 => ?_)
              · obtain ⟨u, hu0⟩ : ∃ u, ps[i]? = some u := ⟨_, List.getElem?_eq_getElem (by omega)⟩
                have hu : (natV ps)[i]? = some (.int .i64 (u : Int)) := by rw [natV, List.getElem?_map, hu0]; rfl
                have hrow := (hs.ow 0 rfl).rd
                have hes : evR sd ps ps.length (i + 1) = if u = sd then i else evR sd ps ps.length i := by
                  rw [evR, hu0]
                  by_cases h : u = sd
                  · rw [if_pos h, if_pos (by rw [h])]
                  · rw [if_neg h, if_neg fun h' => h (Option.some.inj h')]
                by_cases h7 : u = sd
                · have h7' : (u : Int) = (sd : Int) := by omega
                  rw [if_pos h7] at hes
                  refine wc_skip ?_; refine we_seq ?_; refine wc_seq ?_; refine wc_block ?_; refine wc_sr ?_; refine wl_mv rfl rfl ?_; refine wl_mv rfl rfl ?_; apply wl_elK (T := tyI) (hr := hrow) (hb := hu); exact rfl; exact rfl; exact rfl; exact rfl; exact rfl; intro _; refine wl_mv rfl rfl ?_; refine wl_bin rfl rfl bin_eql rfl ?_; refine wl_ns ?_; apply wc_decT; exact rfl; (with_reducible assumption); refine wc_region ?_; refine wl_mv rfl rfl ?_; refine wl_as rfl rfl ?_; refine wl_nil ?_; refine we_block_norm ?_; refine we_seq ?_; refine wc_region ?_; refine wl_mv rfl rfl ?_; apply wl_val; apply opv_bin; exact rfl; exact rfl; exact bin_add64 (by omega); exact rfl; refine wl_as rfl rfl ?_; refine wl_nil ?_
                  exact we_loop _ (ps.length - (i + 1)) ⟨i + 1, rfl, by omega, rfl, rfl⟩ (by omega) ⟨rfl, rfl, rfl, by rw [hes]; rfl, rfl, by simp [lookT], trivial⟩
                · have h7' : ¬ (u : Int) = (sd : Int) := by omega
                  rw [if_neg h7] at hes
                  refine wc_skip ?_; refine we_seq ?_; refine wc_seq ?_; refine wc_block ?_; refine wc_sr ?_; refine wl_mv rfl rfl ?_; refine wl_mv rfl rfl ?_; apply wl_elK (T := tyI) (hr := hrow) (hb := hu); exact rfl; exact rfl; exact rfl; exact rfl; exact rfl; intro _; refine wl_mv rfl rfl ?_; refine wl_bin rfl rfl bin_eql rfl ?_; refine wl_ns ?_; apply wc_decF; exact rfl; (with_reducible assumption); refine wc_skip ?_; refine we_block_norm ?_; refine we_seq ?_; refine wc_region ?_; refine wl_mv rfl rfl ?_; apply wl_val; apply opv_bin; exact rfl; exact rfl; exact bin_add64 (by omega); exact rfl; refine wl_as rfl rfl ?_; refine wl_nil ?_
                  exact we_loop _ (ps.length - (i + 1)) ⟨i + 1, rfl, by omega, rfl, rfl⟩ (by omega) ⟨rfl, rfl, rfl, by rw [hes]; rfl, rfl, by simp [lookT], trivial⟩
              · obtain rfl : i = ps.length := by omega
                refine wc_exit ?_; refine we_seq_exit ?_; refine we_loop_exit ?_; refine we_block_exit ?_
                exact we_cut _ ⟨rfl, rfl⟩ ⟨rfl, rfl, rfl, trivial⟩
          · have hk1' : ¬ (k : Int) > 1 := by omega
            have e8 : ev8 ss k ps = l.length := by rw [ev8, if_neg hk1, hpl]
            rw [e8]
            apply wc_decF; exact rfl; (with_reducible assumption); refine wc_skip ?_
            exact we_cut _ ⟨rfl, rfl⟩ ⟨rfl, rfl, rfl, trivial⟩
        rintro _ _ ⟨rfl, rfl⟩
        refine we_seq ?_
        refine wc_seq ?_; refine wc_sr ?_; refine wl_mv rfl rfl ?_; refine wl_bin rfl rfl bin_eql rfl ?_; refine wl_ns ?_
        have hel : ev8 ss k ps ≤ l.length := by
          have key : ∀ i, i ≤ ps.length → evR (ss[1]?.getD 0) ps ps.length i ≤ ps.length := by
            intro i
            induction i with
            | zero => intro _; exact Nat.le_refl _
            | succ i ih => intro h; have := ih (by omega); rw [evR]; split <;> omega
          rw [ev8, ← hpl]; split
          · exact key _ (Nat.le_refl _)
          · exact Nat.le_refl _
        obtain ⟨ev, hevd⟩ : ∃ z, ev8 ss k ps = z := ⟨_, rfl⟩
        rw [hevd] at hel ⊢
        by_cases h8 : ev = 0
        · subst h8
          rw [if_pos rfl]
          apply wc_condTb; exact rfl; exact rfl; refine wc_sr ?_; refine wl_as rfl rfl ?_; refine wl_as rfl rfl ?_; refine wl_ns ?_; refine wc_ret ?_; refine we_seq_ret ?_
          exact we_ret2 rfl rfl rfl ⟨_, rfl, none, 0, rfl, (hs.nil).nilS 4 38⟩
        have h8' : ¬ (ev : Int) = 0 := by omega
        rw [if_neg h8]
        have hz2 : Siz2 l := fun x hx => by
          rw [← hrl] at hx
          obtain ⟨y, hy, rfl⟩ := List.mem_map.1 hx
          have := rdL_siz hrd2 (by omega) y hy
          exact ⟨by omega, by omega, this.2.2⟩
        apply wc_decF; exact rfl; (with_reducible assumption); refine wc_skip ?_; refine we_seq ?_; refine wc_sr ?_; refine wl_mv rfl rfl ?_; refine wl_mv rfl rfl ?_
        refine wl_call ok_caissonref08_Build (refBuild_any (every := ev) (l := l) (by omega) (by omega) (OwR.rd (hs.rsE 1 rfl)) rfl (by omega) hz2) ⟨rfl, rfl, trivial⟩ rfl ?_
        obtain ⟨⟨G, eb⟩, hbB⟩ : ∃ z, buildB ev l = z := ⟨_, rfl⟩
        rw [hbB]
        rintro _ w4 ⟨GA, gc, rfl, oG, hbx⟩
        replace hs := hs.below hbx
        clear hbx
        dsimp only at oG ⊢
        by_cases h9 : eb = 0
        · subst h9
          refine wl_mv rfl rfl ?_; apply wl_val; apply opv_extract; exact rfl; exact rfl; exact rfl; apply wl_val; apply opv_extract; exact rfl; exact rfl; exact rfl; refine wl_as rfl rfl ?_; refine wl_as rfl rfl ?_; refine wl_ns ?_; refine wc_seq ?_; refine wc_sr ?_; refine wl_mv rfl rfl ?_; refine wl_bin rfl rfl bin_neq rfl ?_; refine wl_mv rfl rfl ?_; apply wl_take; exact rfl; exact rfl; exact rfl; refine bF ?_; omega; refine wl_mv rfl rfl ?_; apply wl_take; exact rfl; exact rfl; exact rfl; refine bF ?_; omega; refine wl_mv rfl rfl ?_; apply wl_take; exact rfl; exact rfl; exact rfl; refine bF ?_; omega
          refine wl_call ok_caissonref01_Equal (equal_any (xs := G) (ys := xs) oG.rd (hr.below hs.bel) rfl rfl (by have := ow_len8 oG; exact this)) ⟨rfl, rfl, trivial⟩ rfl ?_
          rintro _ w5 ⟨rfl, hbx⟩
          replace hs := hs.below hbx
          clear hbx
          by_cases he : G = xs
          · rw [decide_eq_true he, if_pos (by rw [he])]
            apply wl_take; exact rfl; exact rfl; exact rfl; refine bF ?_; omega; apply wl_val; apply opv_not; exact rfl; exact rfl; apply wl_val; apply opv_pickF; exact rfl; refine bF ?_; omega; exact rfl; exact rfl; refine wl_ns ?_; apply wc_condFb; exact rfl; exact Bool.not_true; refine wc_skip ?_; refine we_seq ?_; refine wc_sr ?_; refine wl_mv rfl rfl ?_; refine wl_as rfl rfl ?_; refine wl_as rfl rfl ?_; refine wl_ns ?_; refine wc_ret ?_
            exact we_ret2 rfl rfl rfl ⟨_, rfl, R, rc, rfl, (hs.drop 2 rfl).drop 0 rfl⟩
          · rw [decide_eq_false he, if_neg fun h => he (Prod.mk.inj h).1]
            apply wl_take; exact rfl; exact rfl; exact rfl; refine bF ?_; omega; apply wl_val; apply opv_not; exact rfl; exact rfl; apply wl_val; apply opv_pickF; exact rfl; refine bF ?_; omega; exact rfl; exact rfl; refine wl_ns ?_; apply wc_condTb; exact rfl; exact Bool.not_false; refine wc_sr ?_; refine wl_as rfl rfl ?_; refine wl_as rfl rfl ?_; refine wl_ns ?_; refine wc_ret ?_; refine we_seq_ret ?_
            exact we_ret2 rfl rfl rfl ⟨_, rfl, none, 0, rfl, (hs.nil).nilS 4 38⟩
        · have h9' : ¬ (eb : Int) = 0 := by omega
          rw [if_neg fun h => h9 (Prod.mk.inj h).2]
          refine wl_mv rfl rfl ?_; apply wl_val; apply opv_extract; exact rfl; exact rfl; exact rfl; apply wl_val; apply opv_extract; exact rfl; exact rfl; exact rfl; refine wl_as rfl rfl ?_; refine wl_as rfl rfl ?_; refine wl_ns ?_; refine wc_seq ?_; refine wc_sr ?_; refine wl_mv rfl rfl ?_; refine wl_bin rfl rfl bin_neq rfl ?_; refine wl_mv rfl rfl ?_; apply wl_skip; exact rfl; exact rfl; exact rfl; refine bTn ?_; (with_reducible assumption); exact rfl; apply wl_skip; exact rfl; exact rfl; exact rfl; refine bTn ?_; (with_reducible assumption); exact rfl; apply wl_skip; exact rfl; exact rfl; exact rfl; refine bTn ?_; (with_reducible assumption); exact rfl; apply wl_skip; exact rfl; exact rfl; exact rfl; refine bTn ?_; (with_reducible assumption); exact rfl; apply wl_val; apply opv_pickT; exact rfl; refine bT ?_; (with_reducible assumption); exact rfl; exact rfl; refine wl_ns ?_; apply wc_condTb; exact rfl; exact rfl; refine wc_sr ?_; refine wl_as rfl rfl ?_; refine wl_as rfl rfl ?_; refine wl_ns ?_; refine wc_ret ?_; refine we_seq_ret ?_
          exact we_ret2 rfl rfl rfl ⟨_, rfl, none, 0, rfl, (hs.nil).nilS 4 38⟩
end Go.Proofs.Ytojncfdlddepdaa


/-
  Walk over the document's Seek of blocks, and over the fixed fact of its laws.
-/
namespace Go.Proofs.Ytojncfdlddepdaa
open Go.RowKit

theorem refSeek8_any {A K : Option Addr} {n c kn kc m : Nat} {l : List En} {key : List UInt8} {w : World} (hr : RdR 4 w All A (l.map enEl)) (hn : l.length = n) (hl : l.length ≤ 4294967296) (rk : RdB w K key) (hkn : key.length = kn) (hkl : key.length ≤ maxLen) (hok : ∀ x ∈ l, x.key.length ≤ maxLen) :
    CallsV Try.prog 15 #[.slice A n c, .slice K kn kc, .int .u64 (m : Int)] w fun v w' => (∃ (X : Option Addr) (cx : Nat) (Y : Option Addr) (cy : Nat), v = .tuple #[.agg (enV ((sekE l ⟨key, m, 0, []⟩).getD noE) X cx Y cy).toArray, .bool (sekE l ⟨key, m, 0, []⟩).isSome] ∧ RdB w' X ((sekE l ⟨key, m, 0, []⟩).getD noE).key ∧ RdB w' Y ((sekE l ⟨key, m, 0, []⟩).getD noE).val) ∧ Below w.heap.size w w' := by
  subst hn hkn
  have hs := St.init w
  refine calls_in (N := _) Try.func15 rfl Try.ntmps15 rfl ?_; show WC _ _ _ _ _ _
  refine wc_sr ?_
  refine ws_new hs zeroE rfl ?_; clear hs; intro g6 _ hs
  unfold zE at hs
  refine wl_as rfl rfl ?_; refine wl_ns ?_; refine wc_seq ?_; refine wc_sr ?_; refine wl_as rfl rfl ?_; refine wl_ns ?_; refine wc_block ?_
  refine wc_loop (fun L wr mm => ∃ i : Nat, L = [(0, .slice A l.length c), (1, .slice K key.length kc), (2, .int .u64 (m : Int)), (6, .pointer (some ⟨g6, 0, none⟩)), (8, .int .i64 (i : Int))] ∧ i ≤ l.length ∧ sekE l ⟨key, m, 0, []⟩ = sekE (l.drop i) ⟨key, m, 0, []⟩ ∧ St NoB w wr [.blk g6 38 [.slice none 0 0, .int .u64 0, .int .u8 0, .slice none 0 0]] ∧ mm = l.length - i)
    [(0, .slice A l.length c), (1, .slice K key.length kc), (2, .int .u64 (m : Int)), (6, .pointer (some ⟨g6, 0, none⟩)), (8, .int .i64 (0 : Nat))] l.length ⟨0, rfl, by omega, rfl, hs, rfl⟩ ⟨rfl, rfl, rfl, rfl, rfl, trivial⟩ ?_
  clear hs
  rintro _ w2 mm ⟨i, rfl, hi, hse, hs, rfl⟩
  refine wc_seq ?_; refine wc_sr ?_; refine wl_mv rfl rfl ?_; refine wl_mv rfl rfl ?_; apply wl_val; apply opv_len; exact rfl; exact tkE.sl; exact rfl; refine wl_bin rfl rfl bin_lss rfl ?_; refine wl_ns ?_
  refine wc_cond rfl (fun h1 => ?_) (fun h1 => ?_)
  · obtain ⟨x, hx⟩ : ∃ x, l[i]? = some x := ⟨_, List.getElem?_eq_getElem (by omega)⟩
    obtain ⟨b, o, cs, rfl, _, _, hp, i0⟩ := RdR.at (k := 4) (by decide) hr (E := enEl x) (i := i) (by rw [List.getElem?_map, hx]; rfl)
    obtain ⟨X, cx, X2, cx2, rfl, rx, hcx, rx2, hcx2⟩ := enEl.rd hp
    have i1 := i0.below hs.bel
    have hdr := drop_getB hx
    refine wc_skip ?_; refine we_seq ?_; refine wc_seq ?_; refine wc_block ?_; refine wc_sr ?_; refine wl_mv rfl rfl ?_; refine wl_mv rfl rfl ?_; apply wl_val; apply opv_idxG tkE; exact rfl; exact rfl; exact rfl; omega; exact rfl; apply wl_val; apply opv_ldG; exact rfl; assumption; exact sE; exact rfl; refine wl_mv rfl rfl ?_; refine wl_mv rfl rfl ?_
    refine wl_val (opv_build (vs := [(0, .slice K key.length kc), (1, .int .u64 (m : Int))]) (cs := enV ⟨key, m, 0, []⟩ K kc none 0) ⟨rfl, rfl, rfl, rfl, trivial⟩ (by kernel_rfl)) rfl ?_
    skip
    refine wl_call ok_caissonref07_Less (refLess_any (x := x) (y := ⟨key, m, 0, []⟩) (rx.below hs.bel) (rk.below hs.bel) (hok x (List.mem_of_getElem? hx)) hkl) ⟨rfl, rfl, trivial⟩ rfl ?_
    rintro _ w3 ⟨rfl, hbx⟩
    replace hs := hs.below hbx
    clear hbx i1
    have i1 := i0.below hs.bel
    cases hless : lessE x ⟨key, m, 0, []⟩ with
    | true =>
      apply wl_val; apply opv_not; exact rfl; exact rfl; refine wl_ns ?_; apply wc_condFb; exact rfl; exact Bool.not_true; refine wc_skip ?_; refine we_block_norm ?_; refine we_seq ?_; refine wc_region ?_; refine wl_mv rfl rfl ?_; apply wl_val; apply opv_bin; exact rfl; exact rfl; exact bin_add64 (by omega); exact rfl; refine wl_as rfl rfl ?_; refine wl_nil ?_
      exact we_loop _ (l.length - (i + 1)) ⟨i + 1, rfl, by omega, by rw [hse, hdr, sekE, List.find?_cons, hless]; rfl, hs, rfl⟩ (by omega) ⟨rfl, rfl, rfl, rfl, by simp [lookT], trivial⟩
    | false =>
      have hsx : sekE l ⟨key, m, 0, []⟩ = some x := by rw [hse, hdr, sekE, List.find?_cons, hless]; rfl
      rw [hsx]
      apply wl_val; apply opv_not; exact rfl; exact rfl; refine wl_ns ?_; apply wc_condTb; exact rfl; exact Bool.not_false; refine wc_sr ?_; refine wl_mv rfl rfl ?_; refine wl_mv rfl rfl ?_; apply wl_val; apply opv_idxG tkE; exact rfl; exact rfl; exact rfl; omega; exact rfl; apply wl_val; apply opv_ldG; exact rfl; assumption; exact sE; exact rfl; apply ws_stS hs 0; exact rfl; exact rfl; exact rfl; exact sE; exact rfl; exact rfl; clear hs; intro _ hs; dsimp only [setC] at hs; refine wl_as rfl rfl ?_; refine wl_ns ?_; refine wc_ret ?_; refine we_block_ret ?_; refine we_seq_ret ?_; refine we_loop_ret ?_; refine we_block_ret ?_; refine we_seq_ret ?_
      exact we_retC1 rfl rfl rfl (hs.ar 0 rfl) sE ⟨_, rfl, ⟨X, cx, X2, cx2, rfl, rx.below hs.bel, rx2.below hs.bel⟩, hs.bel⟩
  · obtain rfl : i = l.length := by omega
    rw [List.drop_length] at hse
    have hsx : sekE l ⟨key, m, 0, []⟩ = none := hse
    rw [hsx]
    refine wc_exit ?_; refine we_seq_exit ?_; refine we_loop_exit ?_; refine we_block_exit ?_; refine we_seq ?_; refine wc_sr ?_
    refine wl_val (opv_build (vs := []) (cs := zE) trivial (by kernel_rfl)) rfl ?_
    unfold zE
    apply ws_stS hs 0; exact rfl; exact rfl; exact rfl; exact sE; exact rfl; exact rfl; clear hs; intro _ hs; dsimp only [setC] at hs; refine wl_as rfl rfl ?_; refine wl_ns ?_; refine wc_ret ?_
    exact we_retC1 rfl rfl rfl (hs.ar 0 rfl) sE ⟨_, rfl, ⟨none, 0, none, 0, rfl, Rd.nil _ _, Rd.nil _ _⟩, hs.bel⟩
end Go.Proofs.Ytojncfdlddepdaa


/-
  The bytes of a constant string, over pieces: made, marked, and read from then on. Nothing here names the program.
-/
namespace Go.Proofs.Ytojncfdlddepdaa
open Go.RowKit

theorem zell_freeze (w : World) (a : Addr) (n : Nat) (p : Addr) : (w.freeze a n).cell? p = w.cell? p := by
  unfold World.freeze
  split
  · rfl
  · unfold World.cell?
    simp only [Array.getElem?_modify]
    by_cases h : a.block = p.block
    · rw [if_pos h]
      cases w.heap[p.block]? with
      | none => rfl
      | some o => cases o <;> rfl
    · rw [if_neg h]
theorem zelow_freeze {B : Nat} (w : World) (a : Addr) (n : Nat) (h : B ≤ a.block) : Below B w (w.freeze a n) := by
  unfold World.freeze
  split
  · exact Below.refl _ _
  · refine ⟨rfl, rfl, rfl, by simp, fun j hj => ?_⟩
    simp only [Array.getElem?_modify]
    rw [if_neg (by omega)]
section
variable {P : Program} {N : Nat} {ops : Array Oper} {Q : Exit → Act → World → Prop} {rest : List Oper} {L : FL} {w0 w : World} {M : BS} {H : List Cd} {t e : TypeId} {bytes : Nat}
theorem ws_lit {d1 d2 len : Nat} {ps : List (Nat × Operand)} {ty1 ty2 : TypeId} {p1 p2 : String} {f1 f2 : Array Edge} (hs : St M w0 w H) (xs : List UInt8) (T : Row1 P t e (.int .u8 0) bytes) (he : P.underlying e = some (.int .u8)) (hp : PLooks L 0 ps (bvs xs)) (hl : xs.length = len) (hle : len ≤ 16777216) (h0 : 0 < len) (hd1 : Nat.blt d1 N = true) (hd2 : Nat.blt d2 N = true)
    (h : ∀ p A w', St M w0 w' (.ce (byEl xs) [.slice A xs.length xs.length] :: H) → WL P N ops Q rest ((d2, .slice A xs.length xs.length) :: (d1, p) :: L) w') :
    WL P N ops Q (⟨some d1, .buildSlice t len ps.toArray, ty1, p1, f1, none⟩ :: ⟨some d2, .convert t t (.tmp d1), ty2, p2, f2, none⟩ :: rest) L w := by
  subst hl
  refine wl_bs T hp (bvs_length xs) hle hd1 fun A w1 ho hb _ => ?_
  have hr : RdR 1 w1 All A [] := RdR.nil _
  have hr : Rd w1 A xs.length (bvs xs) := ho.rd
  obtain ⟨b, o, rfl, hb1, hc⟩ := hr.2 h0
  have hlen : 0 < (bvs xs).length := by rw [bvs_length]; exact h0
  have h0c := hc 0 (bvs xs)[0] (List.getElem?_eq_getElem hlen)
  obtain ⟨k, hk⟩ : ∃ k, w1.shape? b = some k := by
    unfold World.cell? at h0c
    unfold World.shape?
    simp only at h0c
    cases hh : w1.heap[b]? with
    | none => rw [hh] at h0c; cases h0c
    | some ob => cases ob <;> first | exact ⟨_, rfl⟩ | (rw [hh] at h0c; cases h0c)
  have hge : w.heap.size ≤ b := (Ow.lt ho _ rfl).1
  have hbf : Below w.heap.size w (w1.freeze ⟨b, k.2, none⟩ 1) := hb.trans (zelow_freeze _ _ _ hge)
  refine wl_val (v := .slice (some ⟨b, o, none⟩) xs.length xs.length) (w' := w1.freeze ⟨b, k.2, none⟩ 1) (fun ρ op hρ ho _ => ?_) hd2 (h _ _ _ ?_)
  · unfold execOp
    simp only [ho, hρ (.tmp d1) (.slice (some ⟨b, o, none⟩) xs.length xs.length) (by simp [look, lookT]), convert, Sem.run_bind, run_underlying T.sl, Result.andThen_ok]
    simp [run_underlying he, markStringish, hk]
  · refine hs.new (T := fun b => w.heap.size ≤ b) (c := .ce (byEl xs) [.slice (some ⟨b, o, none⟩) xs.length xs.length]) hbf ?_ fun _ _ h => h
    refine byEl.mk ⟨hr.1, fun _ => ⟨b, o, rfl, ?_, fun j u hu => by rw [zell_freeze]; exact hc j u hu⟩⟩ (Nat.le_refl _) fun a ha _ => by cases ha; exact hge
    unfold World.freeze; simp; exact hb1
end
end Go.Proofs.Ytojncfdlddepdaa


/-
  The fixed fact of the laws of blocks.
-/
namespace Go.Proofs.Ytojncfdlddepdaa
open Go.RowKit

def aw8 : List En := [⟨[97, 98], 5, 1, [120]⟩, ⟨[97, 98, 99], 7, 2, []⟩]
theorem putU_small {n : Nat} (h : n < 128) : putU n = [UInt8.ofNat n] := by rw [putU, if_pos h]
theorem aw8_blk : blkB 2 aw8 = [0, 2, 5, 1, 1, 97, 98, 120, 2, 1, 7, 2, 0, 99, 0, 0, 0, 0, 0, 0, 0, 1] := by
  have h0 : shrN 2 aw8 0 = 0 := rfl
  have h1 : shrN 2 aw8 1 = 2 := by decide
  have hb1 : bodyB 2 aw8 1 = [0, 2, 5, 1, 1, 97, 98, 120] := by
    rw [bodyB, h0]; simp [aw8, entB, putU_small, bodyB]
  have hb : bodyB 2 aw8 2 = [0, 2, 5, 1, 1, 97, 98, 120, 2, 1, 7, 2, 0, 99] := by
    rw [bodyB, hb1, h1]; simp [aw8, entB, putU_small]
  have hr : resB 2 aw8 2 = [0, 0, 0, 0] := by
    rw [resB, resB]; simp [resB, bodyB]; decide
  have hst : stN 2 2 = 1 := by decide
  have hl : aw8.length = 2 := rfl
  rw [blkB, hl, hb, hr, hst]; decide
theorem aw8_build : ∃ bs, buildB 2 aw8 = (bs, 0) ∧ bs.length = 30 ∧ bs[8]? = some 0 ∧ bs[9]? = some 2 ∧ bs[10]? = some 5 ∧ bs[16]? = some 2 ∧ bs[17]? = some 1 ∧ bs[18]? = some 7 := by
  obtain ⟨h, _⟩ := dec_build (every := 2) (l := aw8) (by decide) (by simp [Siz, aw8]) (by decide) (by decide) (by rw [aw8_blk]; decide)
  obtain ⟨s, hs⟩ : ∃ s, crcOf (four (blkB 2 aw8).length ++ blkB 2 aw8) = s := ⟨_, rfl⟩
  have e : crcRec (blkB 2 aw8) = (four (blkB 2 aw8).length ++ four s) ++ blkB 2 aw8 := by rw [crcRec, hs, List.append_assoc]
  have l8 : (four (blkB 2 aw8).length ++ four s).length = 8 := by rw [List.length_append, four_length, four_length]
  have hg : ∀ i, (crcRec (blkB 2 aw8))[8 + i]? = (blkB 2 aw8)[i]? := fun i => by rw [e, List.getElem?_append_right (by omega), l8, Nat.add_sub_cancel_left]
  refine ⟨_, h, by rw [crcRec_length, aw8_blk]; rfl, ?_⟩
  rw [hg 0, hg 1, hg 2, hg 8, hg 9, hg 10, aw8_blk]
  exact ⟨rfl, rfl, rfl, rfl, rfl, rfl⟩
theorem awake8_any {w : World} : CallsV Try.prog 7 #[] w fun v w' => v = .bool true ∧ Below w.heap.size w w' := by
  have hs := St.init w
  obtain ⟨bs, hbd, hbl, h8, h9, h10, h16, h17, h18⟩ := aw8_build
  refine calls_in (N := _) Try.func7 rfl Try.ntmps7 rfl ?_; show WC _ _ _ _ _ _
  refine wc_sr ?_; refine wl_as rfl rfl ?_; refine wl_ns ?_; refine wc_sr ?_
  refine ws_lit hs [97, 98] tyB Try.underlying5 ⟨rfl, rfl, rfl, rfl, rfl, rfl, trivial⟩ rfl (by decide) (by decide) rfl rfl ?_
  clear hs; intro _ A w2 hs
  skip
  refine ws_lit hs [120] tyB Try.underlying5 ⟨rfl, rfl, rfl, trivial⟩ rfl (by decide) (by decide) rfl rfl ?_
  clear hs; intro _ B w3 hs
  skip
  refine wl_val (opv_build (vs := [(0, .slice A 2 2), (1, .int .u64 5), (2, .int .u8 1), (3, .slice B 1 1)]) (cs := enV ⟨[97, 98], 5, 1, [120]⟩ A 2 B 1) ⟨rfl, rfl, rfl, rfl, rfl, rfl, rfl, rfl, trivial⟩ (by kernel_rfl)) rfl ?_
  skip
  refine ws_lit hs [97, 98, 99] tyB Try.underlying5 ⟨rfl, rfl, rfl, rfl, rfl, rfl, rfl, rfl, rfl, trivial⟩ rfl (by decide) (by decide) rfl rfl ?_
  clear hs; intro _ C w4 hs
  skip
  refine wl_val (opv_build (vs := [(0, .slice C 3 3), (1, .int .u64 7), (2, .int .u8 2)]) (cs := enV ⟨[97, 98, 99], 7, 2, []⟩ C 3 none 0) ⟨rfl, rfl, rfl, rfl, rfl, rfl, trivial⟩ (by kernel_rfl)) rfl ?_
  skip
  refine wl_bsG (css := [enV ⟨[97, 98], 5, 1, [120]⟩ A 2 B 1, enV ⟨[97, 98, 99], 7, 2, []⟩ C 3 none 0]) tkE ⟨rfl, ⟨_, rfl, rfl⟩, rfl, rfl, ⟨_, rfl, rfl⟩, rfl, trivial⟩ (els := [enV ⟨[97, 98], 5, 1, [120]⟩ A 2 B 1, enV ⟨[97, 98, 99], 7, 2, []⟩ C 3 none 0].map rawEl) (S := NoB) rfl (by decide) (by decide)
    (grp_raw (by simp [enV])) rfl fun R w8 hR hbx _ => ?_
  replace hs := hs.newG hbx hR (Nat.le_refl _) fun _ _ h => h.elim
  clear hR hbx
  have hr : RdR 4 w8 All R (aw8.map enEl) := by
    obtain ⟨T1, hT1, hrg, T2, hT2, h2, T3, hT3, h3, T4, hT4, h4, _⟩ := hs.2
    obtain ⟨ho, _⟩ := OwR.raw (css := [enV ⟨[97, 98], 5, 1, [120]⟩ A 2 B 1, enV ⟨[97, 98, 99], 7, 2, []⟩ C 3 none 0]) hrg.2
    refine ⟨[enV ⟨[97, 98], 5, 1, [120]⟩ A 2 B 1, enV ⟨[97, 98, 99], 7, 2, []⟩ C 3 none 0], (Grp.one (E := enEl ⟨[97, 98], 5, 1, [120]⟩) (enEl.mk ?_ ?_) rfl).append (Grp.one (E := enEl ⟨[97, 98, 99], 7, 2, []⟩) (enEl.mk ?_ ?_) rfl), own_rd ho, fun a ha _ => trivial⟩
    · exact El.all h4
    · exact El.all h3
    · exact El.all h2
    · exact byEl.mk (xs := []) (Rd.nil _ _) (Nat.zero_le _) fun a h _ => by cases h
  refine wl_call ok_block_Build (blkBuild_any (every := 2) (l := aw8) (by decide) (by decide) hr rfl (by decide) (by simp [Siz2, aw8])) ⟨rfl, rfl, trivial⟩ rfl ?_
  rw [hbd]
  rintro _ w9 ⟨G, gc, rfl, oG, hbx⟩
  replace hs := hs.below hbx
  clear hbx
  have hb : RdB w9 G bs := oG.rd
  dsimp only
  have h00 : ((0 : Nat) : Int) = 0 := rfl
  have hl30 : (bs.length : Int) = 30 := by omega
  refine wl_mv rfl rfl ?_; apply wl_val; apply opv_extract; exact rfl; exact rfl; exact rfl; apply wl_val; apply opv_extract; exact rfl; exact rfl; exact rfl; refine wl_as rfl rfl ?_; refine wl_as rfl rfl ?_; refine wl_ns ?_; refine wc_sr ?_; refine wl_mv rfl rfl ?_; refine wl_bin rfl rfl bin_eql rfl ?_; refine wl_mv rfl rfl ?_; apply wl_take; exact rfl; exact rfl; exact rfl; refine bT ?_; (with_reducible assumption); refine wl_mv rfl rfl ?_; apply wl_take; exact rfl; exact rfl; exact rfl; refine bT ?_; (with_reducible assumption); apply wl_val; apply opv_len; exact rfl; exact tyB.sl; exact rfl; apply wl_take; exact rfl; exact rfl; exact rfl; refine bT ?_; (with_reducible assumption); refine wl_bin rfl rfl bin_eql rfl ?_; apply wl_val; apply opv_pickT; exact rfl; refine bT ?_; (with_reducible assumption); exact rfl; exact rfl; refine wl_mv rfl rfl ?_; apply wl_take; exact rfl; exact rfl; exact rfl; refine bT ?_; (with_reducible assumption); refine wl_mv rfl rfl ?_; apply wl_byTK (T := tyB) (hr := hb) (hb := h8); exact rfl; exact rfl; exact rfl; refine bT ?_; (with_reducible assumption); exact rfl; exact rfl; exact rfl; exact rfl; refine bT ?_; (with_reducible assumption); exact rfl; exact rfl; exact rfl; exact rfl; exact rfl; intro _; apply wl_take; exact rfl; exact rfl; exact rfl; refine bT ?_; (with_reducible assumption); refine wl_bin rfl rfl bin_eql rfl ?_; apply wl_val; apply opv_pickT; exact rfl; refine bT ?_; (with_reducible assumption); exact rfl; exact rfl; refine wl_mv rfl rfl ?_; apply wl_take; exact rfl; exact rfl; exact rfl; refine bT ?_; exact rfl; refine wl_mv rfl rfl ?_; apply wl_byTK (T := tyB) (hr := hb) (hb := h9); exact rfl; exact rfl; exact rfl; refine bT ?_; exact rfl; exact rfl; exact rfl; exact rfl; exact rfl; refine bT ?_; exact rfl; exact rfl; exact rfl; exact rfl; exact rfl; exact rfl; intro _; apply wl_take; exact rfl; exact rfl; exact rfl; refine bT ?_; exact rfl; refine wl_bin rfl rfl bin_eql rfl ?_; apply wl_val; apply opv_pickT; exact rfl; refine bT ?_; exact rfl; exact rfl; exact rfl; refine wl_mv rfl rfl ?_; apply wl_take; exact rfl; exact rfl; exact rfl; refine bT ?_; exact rfl; refine wl_mv rfl rfl ?_; apply wl_byTK (T := tyB) (hr := hb) (hb := h10); exact rfl; exact rfl; exact rfl; refine bT ?_; exact rfl; exact rfl; exact rfl; exact rfl; exact rfl; refine bT ?_; exact rfl; exact rfl; exact rfl; exact rfl; exact rfl; exact rfl; intro _; apply wl_take; exact rfl; exact rfl; exact rfl; refine bT ?_; exact rfl; refine wl_bin rfl rfl bin_eql rfl ?_; apply wl_val; apply opv_pickT; exact rfl; refine bT ?_; exact rfl; exact rfl; exact rfl; refine wl_mv rfl rfl ?_; apply wl_take; exact rfl; exact rfl; exact rfl; refine bT ?_; exact rfl; refine wl_mv rfl rfl ?_; apply wl_byTK (T := tyB) (hr := hb) (hb := h16); exact rfl; exact rfl; exact rfl; refine bT ?_; exact rfl; exact rfl; exact rfl; exact rfl; exact rfl; refine bT ?_; exact rfl; exact rfl; exact rfl; exact rfl; exact rfl; exact rfl; intro _; apply wl_take; exact rfl; exact rfl; exact rfl; refine bT ?_; exact rfl; refine wl_bin rfl rfl bin_eql rfl ?_; apply wl_val; apply opv_pickT; exact rfl; refine bT ?_; exact rfl; exact rfl; exact rfl; refine wl_mv rfl rfl ?_; apply wl_take; exact rfl; exact rfl; exact rfl; refine bT ?_; exact rfl; refine wl_mv rfl rfl ?_; apply wl_byTK (T := tyB) (hr := hb) (hb := h17); exact rfl; exact rfl; exact rfl; refine bT ?_; exact rfl; exact rfl; exact rfl; exact rfl; exact rfl; refine bT ?_; exact rfl; exact rfl; exact rfl; exact rfl; exact rfl; exact rfl; intro _; apply wl_take; exact rfl; exact rfl; exact rfl; refine bT ?_; exact rfl; refine wl_bin rfl rfl bin_eql rfl ?_; apply wl_val; apply opv_pickT; exact rfl; refine bT ?_; exact rfl; exact rfl; exact rfl; refine wl_mv rfl rfl ?_; apply wl_take; exact rfl; exact rfl; exact rfl; refine bT ?_; exact rfl; refine wl_mv rfl rfl ?_; apply wl_byTK (T := tyB) (hr := hb) (hb := h18); exact rfl; exact rfl; exact rfl; refine bT ?_; exact rfl; exact rfl; exact rfl; exact rfl; exact rfl; refine bT ?_; exact rfl; exact rfl; exact rfl; exact rfl; exact rfl; exact rfl; intro _; apply wl_take; exact rfl; exact rfl; exact rfl; refine bT ?_; exact rfl; refine wl_bin rfl rfl bin_eql rfl ?_; apply wl_val; apply opv_pickT; exact rfl; refine bT ?_; exact rfl; exact rfl; exact rfl; refine wl_as rfl rfl ?_; refine wl_ns ?_; refine wc_ret ?_
  exact we_ret1 rfl rfl ⟨_, rfl, rfl, hs.bel⟩
end Go.Proofs.Ytojncfdlddepdaa


/-
  Walk over the law BlockReads.
-/
namespace Go.Proofs.Ytojncfdlddepdaa
open Go.RowKit

theorem dec_key {b : List UInt8} {l : List En} {e : Nat} (h : decB b = (l, e)) : ∀ x ∈ l, x.key.length ≤ 1048576 ∧ x.val.length ≤ 1048576 := by
  rw [dec_spl] at h
  obtain ⟨⟨⟨body, ss⟩, e'⟩, hsp⟩ : ∃ q, splB b = q := ⟨_, rfl⟩
  have hs := spl_small hsp
  rw [hsp] at h
  cases e' with
  | succ e' => cases h; simp
  | zero =>
    replace h : (match rdL body body.length 0 [] with
      | none => ([], 3)
      | some r => if buildB (evL ss (r.map (·.2))) (r.map (·.1)) = (b, 0) then (r.map (·.1), 0) else ([], 3)) = (l, e) := h
    cases hr : rdL body body.length 0 [] with
    | none => rw [hr] at h; cases h; simp
    | some r =>
      rw [hr] at h
      dsimp only at h
      split at h
      · cases h
        intro x hx
        obtain ⟨y, hy, rfl⟩ := List.mem_map.1 hx
        have := rdL_siz hr hs.1 y hy
        omega
      · cases h; simp
theorem dec_err {b : List UInt8} {l : List En} {e : Nat} (h : decB b = (l, e)) (he : ¬ e = 0) : l = [] := by
  unfold decB at h
  split at h
  · split at h
    · exact (Prod.mk.inj h).1.symm
    · split at h
      · exact (Prod.mk.inj h).1.symm
      · split at h
        · exact (Prod.mk.inj h).1.symm
        · split at h
          · exact absurd (Prod.mk.inj h).2.symm he
          · exact (Prod.mk.inj h).1.symm
  · exact (Prod.mk.inj h).1.symm
theorem reads_any {A K : Option Addr} {n c kn kc m : Nat} {xs key : List UInt8} {w : World} (hr : RdB w A xs) (hn : xs.length = n) (_hc : xs.length ≤ c) (_hl : xs.length ≤ 140737488355328) (rk : RdB w K key) (hkn : key.length = kn) (_hkc : key.length ≤ kc) (hkl : key.length ≤ 140737488355328) (_hm : m < 18446744073709551616) :
    CallsV Try.prog 4 #[.slice A n c, .slice K kn kc, .int .u64 (m : Int)] w (RetTrue w) := by
  subst hn hkn
  have hs := St.init w
  refine calls_in (N := _) Try.func4 rfl Try.ntmps4 rfl ?_; show WC _ _ _ _ _ _
  refine wc_sr ?_; refine wl_as rfl rfl ?_; refine wl_ns ?_; refine wc_seq ?_; refine wc_sr ?_
  refine wl_call ok_caissonlaw08_awake (awake8_any) trivial rfl ?_; rintro _ _ ⟨rfl, hbx⟩; replace hs := hs.below hbx; try dsimp only [List.cons_append, List.nil_append, setC, delC] at hs
  apply wl_val; apply opv_not; exact rfl; exact rfl; refine wl_ns ?_; apply wc_condFb; exact rfl; exact Bool.not_true; refine wc_skip ?_; refine we_seq ?_; refine wc_seq ?_; refine wc_sr ?_; refine wl_mv rfl rfl ?_; apply wl_val; apply opv_len; exact rfl; exact tyB.sl; exact rfl; refine wl_bin rfl rfl bin_gtr rfl ?_; refine wl_ns ?_
  by_cases hbig : 20000 < xs.length
  · have hbig' : (xs.length : Int) > 20000 := by omega
    apply wc_decT; exact rfl; (with_reducible assumption); refine wc_sr ?_; refine wl_as rfl rfl ?_; refine wl_ns ?_; refine wc_ret ?_; refine we_seq_ret ?_
    exact we_ret1 rfl rfl ⟨_, rfl, rfl, hs.bel⟩
  have hbig' : ¬ (xs.length : Int) > 20000 := by omega
  apply wc_decF; exact rfl; (with_reducible assumption); refine wc_skip ?_; refine we_seq ?_; refine wc_sr ?_; refine wl_mv rfl rfl ?_
  refine wl_call ok_caissonref01_Copy (copy_any (hr.below hs.bel) rfl (by omega)) ⟨rfl, trivial⟩ rfl ?_; rintro _ _ ⟨C1, c1, rfl, o_, hbx⟩; replace hs := hs.newO hbx o_ (Nat.le_refl _); try dsimp only [List.cons_append, List.nil_append, setC, delC] at hs
  have hc1 := ow_cap (hs.ow 0 rfl)
  obtain ⟨⟨l, e⟩, hd⟩ : ∃ q, decB xs = q := ⟨_, rfl⟩
  obtain ⟨hok1, _⟩ := dec_ok hd
  have hok2 := dec_key hd
  skip
  refine wl_call ok_block_Decode (decode_any (hs.ow 0 rfl).rd rfl hc1 (by omega)) ⟨rfl, trivial⟩ rfl ?_
  rw [hd]
  rintro _ w3 ⟨R, rc, rfl, hsx⟩
  replace hs := hs.call hsx
  clear hsx
  dsimp only [List.cons_append, List.nil_append] at hs ⊢
  refine wl_mv rfl rfl ?_; apply wl_val; apply opv_extract; exact rfl; exact rfl; exact rfl; apply wl_val; apply opv_extract; exact rfl; exact rfl; exact rfl; refine wl_as rfl rfl ?_; refine wl_as rfl rfl ?_; refine wl_ns ?_; refine wc_sr ?_; refine wl_mv rfl rfl ?_
  refine wl_call ok_caissonref08_Decode (refDecode_any (hr.below hs.bel) rfl _hc (by omega)) ⟨rfl, trivial⟩ rfl ?_
  rw [hd]
  rintro _ w4 ⟨R2, rc2, rfl, hsx⟩
  replace hs := hs.call hsx
  clear hsx
  dsimp only [List.cons_append, List.nil_append] at hs ⊢
  refine wl_mv rfl rfl ?_; apply wl_val; apply opv_extract; exact rfl; exact rfl; exact rfl; apply wl_val; apply opv_extract; exact rfl; exact rfl; exact rfl; refine wl_as rfl rfl ?_; refine wl_as rfl rfl ?_; refine wl_ns ?_; refine wc_sr ?_; refine wl_mv rfl rfl ?_
  refine wl_call ok_caissonref01_Copy (copy_any (hr.below hs.bel) rfl (by omega)) ⟨rfl, trivial⟩ rfl ?_; rintro _ _ ⟨C3, c3, rfl, o_, hbx⟩; replace hs := hs.newO hbx o_ (Nat.le_refl _); try dsimp only [List.cons_append, List.nil_append, setC, delC] at hs
  refine wl_mv rfl rfl ?_
  refine wl_call ok_caissonref01_Copy (copy_any (rk.below hs.bel) rfl (by omega)) ⟨rfl, trivial⟩ rfl ?_; rintro _ _ ⟨C4, c4, rfl, o_, hbx⟩; replace hs := hs.newO hbx o_ (Nat.le_refl _); try dsimp only [List.cons_append, List.nil_append, setC, delC] at hs
  have hc3 := ow_cap (hs.ow 1 rfl)
  refine wl_mv rfl rfl ?_
  refine wl_call ok_block_Seek (bseek_any (m := m) (hs.ow 1 rfl).rd rfl hc3 (by omega) (hs.ow 0 rfl).rd rfl) ⟨rfl, rfl, rfl, trivial⟩ rfl ?_
  have hsk : sekB xs ⟨key, m, 0, []⟩ = ((sekE l ⟨key, m, 0, []⟩).getD noE, (sekE l ⟨key, m, 0, []⟩).isSome, e) := by
    rw [sekB, hd]
    cases e with
    | zero => rfl
    | succ e => rw [dec_err hd (by omega)]; rfl
  rw [hsk]
  have hzm : ((sekE l ⟨key, m, 0, []⟩).getD noE).key.length ≤ 1048576 ∧ ((sekE l ⟨key, m, 0, []⟩).getD noE).val.length ≤ 1048576 := by
    cases h : sekE l ⟨key, m, 0, []⟩ with
    | none => exact ⟨Nat.zero_le _, Nat.zero_le _⟩
    | some z => exact hok2 z (List.mem_of_find?_eq_some h)
  clear hsk
  rintro _ w5 ⟨⟨X, cx, Y, cy, rfl, q1, q2⟩, hbx⟩
  replace hs := hs.below hbx
  clear hbx
  have hse8 := fun (w : World) => refSeek8_any (w := w) (A := R2) (K := K) (n := l.length) (c := rc2) (kn := key.length) (kc := kc) (m := m) (l := l) (key := key)
  obtain ⟨z, hz⟩ : ∃ q, (sekE l ⟨key, m, 0, []⟩).getD noE = q := ⟨_, rfl⟩
  obtain ⟨ib, hib⟩ : ∃ q, (sekE l ⟨key, m, 0, []⟩).isSome = q := ⟨_, rfl⟩
  rw [hz] at q1 q2 hzm
  simp only [hz, hib] at hse8 ⊢
  have hee : ¬ ¬ (e : Int) = (e : Int) := fun h => h rfl
  refine wl_mv rfl rfl ?_; apply wl_val; apply opv_extract; exact rfl; exact rfl; exact rfl; apply wl_val; apply opv_extract; exact rfl; exact rfl; exact rfl; apply wl_val; apply opv_extract; exact rfl; exact rfl; exact rfl
  refine wl_var (cs := enV z X cx Y cy) zeroE sE rfl (fun _ => rfl) rfl rfl fun g11 w6 hg11 a11 hbx => ?_
  replace hs := hs.newA hbx hg11 a11
  replace q1 := q1.below hbx
  replace q2 := q2.below hbx
  clear hbx hg11 a11
  refine wl_as rfl rfl ?_; refine wl_as rfl rfl ?_; refine wl_ns ?_; refine wc_seq ?_; refine wc_sr ?_; refine wl_mv rfl rfl ?_; refine wl_mv rfl rfl ?_; refine wl_bin rfl rfl bin_neq rfl ?_; refine wl_mv rfl rfl ?_; apply wl_take; exact rfl; exact rfl; exact rfl; refine bF ?_; (with_reducible assumption); refine wl_mv rfl rfl ?_; apply wl_take; exact rfl; exact rfl; exact rfl; refine bF ?_; (with_reducible assumption); refine wl_mv rfl rfl ?_; apply wl_take; exact rfl; exact rfl; exact rfl; refine bF ?_; (with_reducible assumption); refine wl_bin rfl rfl bin_neq rfl ?_; apply wl_val; apply opv_pickF; exact rfl; refine bF ?_; (with_reducible assumption); exact rfl; exact rfl; refine wl_mv rfl rfl ?_; apply wl_take; exact rfl; exact rfl; exact rfl; refine bF ?_; (with_reducible assumption); refine wl_mv rfl rfl ?_; apply wl_take; exact rfl; exact rfl; exact rfl; refine bF ?_; (with_reducible assumption); refine wl_mv rfl rfl ?_; apply wl_take; exact rfl; exact rfl; exact rfl; refine bF ?_; (with_reducible assumption)
  refine wl_call ok_caissonref07_SameList (sameListE_any (OwR.rd (hs.rsE 4 rfl)) (OwR.rd (hs.rsE 3 rfl)) rfl rfl (fun x h => by have := hok2 x h; simp only [maxLen]; omega) (by omega) (by omega)) ⟨rfl, rfl, trivial⟩ rfl ?_
  rintro _ w7 ⟨⟨q, rfl, hq⟩, hbx⟩
  obtain rfl := hq.2 rfl
  replace hs := hs.below hbx
  replace q1 := q1.below hbx
  replace q2 := q2.below hbx
  clear hbx hq
  apply wl_take; exact rfl; exact rfl; exact rfl; refine bF ?_; (with_reducible assumption); apply wl_val; apply opv_not; exact rfl; exact rfl; apply wl_val; apply opv_pickF; exact rfl; refine bF ?_; (with_reducible assumption); exact rfl; exact rfl; refine wl_ns ?_; apply wc_condFb; exact rfl; exact Bool.not_true; refine wc_skip ?_; refine we_seq ?_; refine wc_sr ?_; refine wl_mv rfl rfl ?_; refine wl_mv rfl rfl ?_; refine wl_mv rfl rfl ?_
  refine wl_call ok_caissonref08_Seek (hse8 _ (OwR.rd (hs.rsE 3 rfl)) trivial (by omega) (rk.below hs.bel) trivial (by simp only [maxLen]; omega) (fun x h => by have := hok2 x h; simp only [maxLen]; omega)) ⟨rfl, rfl, rfl, trivial⟩ rfl ?_
  rintro _ w8 ⟨⟨X2, cx2, Y2, cy2, rfl, q3, q4⟩, hbx⟩
  replace hs := hs.below hbx
  replace q1 := q1.below hbx
  replace q2 := q2.below hbx
  clear hbx
  refine wl_mv rfl rfl ?_; apply wl_val; apply opv_extract; exact rfl; exact rfl; exact rfl; apply wl_val; apply opv_extract; exact rfl; exact rfl; exact rfl
  refine wl_var (cs := enV z X2 cx2 Y2 cy2) zeroE sE rfl (fun _ => rfl) rfl rfl fun g14 w9 hg14 a14 hbx => ?_
  replace hs := hs.newA hbx hg14 a14
  replace q1 := q1.below hbx
  replace q2 := q2.below hbx
  replace q3 := q3.below hbx
  replace q4 := q4.below hbx
  clear hbx hg14 a14
  have hbb : (ib = ib) = True := by simp
  refine wl_as rfl rfl ?_; refine wl_ns ?_; refine wc_sr ?_; refine wl_mv rfl rfl ?_; refine wl_mv rfl rfl ?_; apply wl_val; apply opv_bin; exact rfl; exact rfl; exact bin_eqlB tyBool; exact rfl; refine wl_mv rfl rfl ?_; apply wl_take; exact rfl; exact rfl; exact rfl; refine bT ?_; (with_reducible rfl); apply wl_val; apply opv_loadX; exact rfl; exact hs.ar 1 rfl; exact sE; exact rfl; apply wl_take; exact rfl; exact rfl; exact rfl; refine bT ?_; (with_reducible rfl); apply wl_val; apply opv_loadX; exact rfl; exact hs.ar 0 rfl; exact sE; exact rfl; apply wl_take; exact rfl; exact rfl; exact rfl; refine bT ?_; (with_reducible rfl)
  refine wl_call ok_caissonref07_Same (sameE_any (x := z) (y := z) q1 q2 q3 q4 (by simp only [maxLen]; omega) (by simp only [maxLen]; omega)) ⟨rfl, rfl, trivial⟩ rfl ?_
  rintro _ w10 ⟨⟨q, rfl, hq⟩, hbx⟩
  obtain rfl := hq.2 rfl
  replace hs := hs.below hbx
  apply wl_val; apply opv_pickT; exact rfl; refine bT ?_; (with_reducible rfl); exact rfl; exact rfl; refine wl_as rfl rfl ?_; refine wl_ns ?_; refine wc_ret ?_
  exact we_ret1 rfl rfl ⟨_, rfl, rfl, hs.bel⟩
end Go.Proofs.Ytojncfdlddepdaa
