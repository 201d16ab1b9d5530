/-
  The texts of this proof, joined: Yb, Hg, Tt, Hh.
-/
import Derived.Test.YtpnckagibkdcpaaStrM3
import Derived.Test.YtpnckagibkdcpaaStrM4
import Derived.Test.YtpnckagibkdcpaaStrM1
import Derived.Test.YtpnckagibkdcpaaStrM2

/-
  Bytes of one's own that are turned over; twins of lists whose entries lie apart.
-/
namespace Go.Proofs.Ytpnckagibkdcpaa
open Go.RowKit

theorem bvs_setO (l : List UInt8) (i : Nat) (b : UInt8) : (bvs l).set i (bv b) = bvs (l.set i b) := by rw [bvs, bvs, List.map_set]
theorem overO_any {A : Option Addr} {n c base : Nat} {l : List UInt8} {w : World} (ho : OwB w base A c l) (hn : l.length = n) (hl : l.length ≤ 2199023255552) :
    CallsV Try.prog 36 #[.slice A n c] w fun v w' => v = .tuple #[] ∧ ∃ l' : List UInt8, l'.length = l.length ∧ OwB w' base A c l' ∧ Gr w w' A := by
  subst hn
  refine calls_in (N := _) Try.func36 rfl Try.ntmps36 rfl ?_; show WC _ _ _ _ _ _
  refine wc_sr ?_; refine wl_as rfl rfl ?_; refine wl_ns ?_; refine wc_block ?_
  refine wc_loop (fun L wr m => ∃ (i : Nat) (l' : List UInt8), L = [(0, .slice A l.length c), (2, .int .i64 (i : Int))] ∧ i ≤ l.length ∧ l'.length = l.length ∧ OwB wr base A c l' ∧ Gr w wr A ∧ m = l.length - i)
    [(0, .slice A l.length c), (2, .int .i64 (0 : Nat))] l.length ⟨0, l, rfl, by omega, rfl, ho, Gr.refl _ _, rfl⟩ ⟨rfl, rfl, trivial⟩ ?_
  rintro _ w1 m ⟨i, l', rfl, hi, hl', o1, g1, rfl⟩
  have o1' : Ow w1 base 5 A l.length c (bvs l') := by rw [← hl']; exact o1
  have r1 : Rd w1 A l.length (bvs l') := by rw [← hl']; exact o1.rd
  refine wc_seq ?_; refine wc_sr ?_; refine wl_mv rfl rfl ?_; refine wl_mv rfl rfl ?_; apply wl_val; apply opv_len; exact rfl; exact tyB.sl; exact rfl; refine wl_bin rfl rfl bin_lss rfl ?_; refine wl_ns ?_
  refine wc_cond rfl (fun h1 => ?_) (fun h1 => ?_)
  · obtain ⟨x, hx⟩ : ∃ x, l'[i]? = some x := ⟨_, List.getElem?_eq_getElem (by omega)⟩
    have hxl := x.toNat_lt
    have hxx : x.toNat ^^^ 90 < 256 := Nat.xor_lt_two_pow (n := 8) hxl (by decide)
    refine wc_skip ?_; refine we_seq ?_; refine wc_seq ?_; refine wc_block ?_; refine wc_region ?_; refine wl_mv rfl rfl ?_; refine wl_mv rfl rfl ?_; refine wl_mv rfl rfl ?_; refine wl_mv rfl rfl ?_; apply wl_byK (T := tyB) (hr := r1) (hb := hx); exact rfl; exact rfl; exact rfl; exact rfl; exact rfl; intro _
    refine wl_val (opv_bin (b := .int .u8 (90 : Nat)) rfl rfl (bin_xor rfl hxl (by decide))) rfl ?_
    refine wl_set (n := l.length) (kk := i) tyB rfl rfl o1' rfl (by omega) (fun _ => rfl) rfl rfl fun p w2 o2 g2 _ => ?_
    have eu : Value.int .u8 ((x.toNat ^^^ 90 : Nat) : Int) = bv (UInt8.ofNat (x.toNat ^^^ 90)) := by
      unfold bv; rw [UInt8.toNat_ofNat', Nat.mod_eq_of_lt hxx]
    rw [eu, bvs_setO] at o2
    have o2' : OwB w2 base A c (l'.set i (UInt8.ofNat (x.toNat ^^^ 90))) := by unfold OwB; rw [List.length_set, hl']; exact o2
    refine wl_nil ?_; refine we_block_norm ?_; refine we_seq ?_; refine wc_region ?_; refine wl_mv rfl rfl ?_; apply wl_val; apply opv_bin; exact rfl; exact rfl; exact bin_add64 (by omega); exact rfl; refine wl_as rfl rfl ?_; refine wl_nil ?_
    refine we_loop [(0, .slice A l.length c), (2, .int .i64 ((i + 1 : Nat) : Int))] (l.length - (i + 1)) ⟨i + 1, _, rfl, by omega, by rw [List.length_set]; exact hl', o2', g1.trans g2, rfl⟩ (by omega) ⟨rfl, by simp [lookT], trivial⟩
  · refine wc_exit ?_; refine we_seq_exit ?_; refine we_loop_exit ?_; refine we_block_exit ?_
    exact we_end0 rfl ⟨_, rfl, rfl, l', hl', o1, g1⟩
/-- Bytes of one's own, whatever they are. -/
def jk (A : Option Addr) (n c : Nat) : Ck := ⟨fun w S => ∃ xs : List UInt8, xs.length = n ∧ (Cd.ow 5 A n c (bvs xs)).P w S, fun ⟨xs, h, h2⟩ hz hm => ⟨xs, h, Cd.move (c := .ow 5 _ _ _ (bvs xs)) h2 hz hm⟩⟩
theorem jk_of {A : Option Addr} {c : Nat} {xs : List UInt8} {w : World} {S : BS} (h : (Cd.ow 5 A xs.length c (bvs xs)).P w S) : (jk A xs.length c).P w S := ⟨xs, rfl, h⟩
theorem over_jk {S : BS} {A : Option Addr} {n c : Nat} {w : World} (h0 : Sat w [.ck (jk A n c)] S) (hl : n ≤ 2199023255552) :
    CallsV Try.prog 36 #[.slice A n c] w fun v w' => v = .tuple #[] ∧ St S w w' [.ck (jk A n c)] := by
  obtain ⟨T, hT, ⟨xs, hx, hc⟩, _⟩ := h0
  subst hx
  refine (overO_any (base := 0) hc.2 rfl hl).mono fun v w' ⟨hv, l', hl', ho, hg⟩ => ⟨hv, Mod.of_gr hg fun a ha => hT _ (hc.1 a ha), T, fun b h => .inl (hT b h), ⟨l', hl', hc.1, ?_⟩, trivial⟩
  rw [← hl']; exact ho
theorem mem_perm {α : Type} {a : α} {l : List α} (h : a ∈ l) : ∃ r, l.Perm (a :: r) := by
  obtain ⟨s, t, rfl⟩ := List.append_of_mem h
  exact ⟨s ++ t, List.perm_middle⟩
/-- One of many pieces is turned over. -/
theorem over_in {S : BS} {A : Option Addr} {n c : Nat} {H : List Cd} {w : World} (h0 : Sat w [.ck (packC H)] S) (hm : Cd.ck (jk A n c) ∈ H) (hl : n ≤ 2199023255552) :
    CallsV Try.prog 36 #[.slice A n c] w fun v w' => v = .tuple #[] ∧ St S w w' [.ck (packC H)] := by
  obtain ⟨r, hp⟩ := mem_perm hm
  have hs : St S w w ([.ck (jk A n c)] ++ r) := (St.start h0).unpk.map fun _ h => Sat.permL (by simpa using hp) h
  obtain ⟨S2, hS2, _, _, _, hB⟩ := St.lend hs
  refine (over_jk hS2 hl).mono fun v w' ⟨hv, hsx⟩ => ⟨hv, ?_⟩
  have hs2 := hB _ _ hsx
  refine St.pk (H := []) ?_
  rw [List.append_nil]
  exact hs2.map fun _ h => Sat.permL hp.symm h
/-- Two new rows of bytes. -/
theorem St.two {w w' : World} {A B : Option Addr} {n c m d : Nat} {xs ys : List Value} (hb : Below w.heap.size w w') (h1 : Ow w' w.heap.size 5 A n c xs) (h2 : Ow w' w.heap.size 5 B m d ys) (hne : ∀ a b, A = some a → B = some b → a.block ≠ b.block) : St NoB w w' [.ow 5 A n c xs, .ow 5 B m d ys] :=
  ⟨Mod.of_below hb _, fun b => ∃ a, A = some a ∧ b = a.block, fun b ⟨a, ha, hb⟩ => .inr (by rw [hb]; exact (Ow.lt h1 a ha).1), ⟨fun a ha => ⟨a, ha, rfl⟩, h1.mono (Nat.zero_le _)⟩,
    fun b => ∃ a, B = some a ∧ b = a.block, fun b ⟨a, ha, hb⟩ => ⟨.inr (by rw [hb]; exact (Ow.lt h2 a ha).1), fun ⟨a', ha', hb'⟩ => hne a' a ha' ha (by rw [← hb', hb])⟩, ⟨fun a ha => ⟨a, ha, rfl⟩, h2.mono (Nat.zero_le _)⟩, trivial⟩
theorem twin2_any {x : En} {A B : Option Addr} {c d : Nat} {w : World} (rx : RdB w A x.key) (rx2 : RdB w B x.val) (hl : x.key.length ≤ 140737488355328) (hl2 : x.val.length ≤ 140737488355328) :
    CallsV Try.prog 49 #[.agg (enV x A c B d).toArray] w (RetE2 w x) :=
  (twinE_any rx rx2 hl hl2).mono fun v w' ⟨C, e, D, f, hv, h1, h2, h3, hb⟩ => ⟨C, e, D, f, hv, St.two hb h1 h2 h3⟩
/-- Twins of entries, each in memory that lies apart. -/
def RetEs2 (w : World) (l : List En) (v : Value) (w' : World) : Prop := ∃ (A : Option Addr) (c : Nat), v = .slice A l.length c ∧ St NoB w w' [.ck (rsC 4 56 A c (l.map oE))]
theorem twins3_any {A : Option Addr} {n c : Nat} {l : List En} {w : World} (hr : RdR 4 w All A (l.map enEl)) (hn : l.length = n) (hok : ∀ x ∈ l, x.key.length ≤ 140737488355328 ∧ x.val.length ≤ 140737488355328) (hl : l.length ≤ 1099511627776) :
    CallsV Try.prog 24 #[.slice A n c] w (RetEs2 w l) := by
  subst hn
  have hmax : maxLen = 9223372036854775807 := rfl
  have hs := (St.init w).nilS 4 56
  refine calls_in (N := _) Try.func24 rfl Try.ntmps24 rfl ?_; show WC _ _ _ _ _ _
  refine wc_sr ?_; refine wl_as rfl rfl ?_; refine wl_ns ?_; refine wc_sr ?_; refine wl_as rfl rfl ?_; refine wl_ns ?_; refine wc_seq ?_; refine wc_sr ?_; refine wl_as rfl rfl ?_; refine wl_ns ?_; refine wc_block ?_
  refine wc_loop (fun L wr m => ∃ (k : Nat) (P : Option Addr) (cp : Nat), L = [(0, .slice A l.length c), (3, .slice P k cp), (4, .int .i64 (k : Int))] ∧ k ≤ l.length ∧ St NoB w wr [.ck (rsC 4 56 P cp ((l.take k).map oE))] ∧ m = l.length - k)
    [(0, .slice A l.length c), (3, .slice none 0 0), (4, .int .i64 (0 : Nat))] l.length ⟨0, none, 0, rfl, by omega, hs, rfl⟩ ⟨rfl, rfl, rfl, trivial⟩ ?_
  clear hs
  rintro _ w1 m ⟨k, P, cp, rfl, hk, hs, rfl⟩
  refine wc_seq ?_; refine wc_sr ?_; refine wl_mv rfl rfl ?_; refine wl_mv rfl rfl ?_; apply wl_val; apply opv_len; exact rfl; exact tkE.sl; exact rfl; refine wl_bin rfl rfl bin_lss rfl ?_; refine wl_ns ?_
  refine wc_cond rfl (fun h1 => ?_) (fun h1 => ?_)
  · obtain ⟨x, hx⟩ : ∃ x, l[k]? = some x := ⟨_, List.getElem?_eq_getElem (by omega)⟩
    have hox := hok x (List.mem_of_getElem? hx)
    obtain ⟨b, o, cs, rfl, _, _, hp, i1⟩ := RdR.at (k := 4) (by decide) hr (E := enEl x) (i := k) (by rw [List.getElem?_map, hx]; rfl)
    obtain ⟨X, cx, Y, cy, rfl, rx, _, ry, _⟩ := enEl.rd hp
    replace i1 := i1.below hs.bel
    refine wc_skip ?_; refine we_seq ?_; refine wc_seq ?_; refine wc_block ?_; refine wc_region ?_; refine wl_mv rfl rfl ?_; refine wl_mv rfl rfl ?_; refine wl_mv rfl rfl ?_; apply wl_val; apply opv_idxG tkE; exact rfl; exact rfl; exact rfl; omega; exact rfl; apply wl_val; apply opv_ldG; exact rfl; assumption; exact sE; exact rfl
    refine wl_call ok_caissonref07_Twin (twin2_any (x := x) (rx.below hs.bel) (ry.below hs.bel) hox.1 hox.2) ⟨rfl, trivial⟩ rfl ?_
    rintro _ w2 ⟨C, e, D, f, rfl, hsx⟩
    replace hs := ((hs.call hsx).pack (H1 := enOw x C e D f) (.ce (oE x) (enV x C e D f)) oE_of).front 1 rfl
    dsimp only [delC] at hs
    refine ws_pushS hs tkE (fun _ => rfl) (by simp; omega) ⟨_, rfl, rfl⟩ rfl rfl (by decide) (by omega) (by simp only [maxLen]; omega) rfl rfl ?_; clear hs; intro _ R2 c2 _ hs
    refine wl_as rfl rfl ?_; refine wl_nil ?_; refine we_block_norm ?_; refine we_seq ?_; refine wc_region ?_; refine wl_mv rfl rfl ?_; apply wl_val; apply opv_bin; exact rfl; exact rfl; exact bin_add64 (by omega); exact rfl; refine wl_as rfl rfl ?_; refine wl_nil ?_
    refine we_loop _ (l.length - (k + 1)) ⟨k + 1, R2, c2, rfl, by omega, by rw [take_getR hx]; simpa using hs, rfl⟩ (by omega) ⟨rfl, rfl, by simp [lookT], trivial⟩
  · obtain rfl : k = l.length := by omega
    rw [List.take_length] at hs
    refine wc_exit ?_; refine we_seq_exit ?_; refine we_loop_exit ?_; refine we_block_exit ?_; refine we_seq ?_; refine wc_sr ?_; refine wl_mv rfl rfl ?_; refine wl_as rfl rfl ?_; refine wl_ns ?_; refine wc_ret ?_
    exact we_ret1 rfl rfl ⟨_, rfl, P, cp, rfl, hs⟩
end Go.Proofs.Ytpnckagibkdcpaa


/-
  For the law MergeStreams: lists of lists whose entries lie apart; the document's Merge over sets of blocks; acts as arguments.
-/
namespace Go.Proofs.Ytpnckagibkdcpaa
open Go.RowKit Go.ChangeShapes Go.WideShapes Go.ChangeAt Go.Deep

/-- A list of entries that lie apart, in one cell. -/
def lE (l : List En) : El := ⟨fun w S cs => ∃ A c, cs = [.slice A l.length c] ∧ (rsC 4 56 A c (l.map oE)).P w S, fun ⟨A, c, h, h2⟩ hz hm => ⟨A, c, h, (rsC 4 56 A c (l.map oE)).move h2 hz hm⟩⟩
theorem lE_row {l : List En} {w : World} {S : BS} {cs : List Value} (h : (lE l).P w S cs) : (rowEl 4 (l.map enEl)).P w S cs := by
  obtain ⟨A, c, rfl, h⟩ := h
  have h1 := rs_rg h
  have h2 := owr_en h1.2
  have := rg_ce (A := A) (c := c) (e := 56) (by decide : 0 < 4) (show (Cd.rg 4 56 A c (l.map enEl)).P w S from ⟨h1.1, h2⟩)
  rwa [List.length_map] at this
theorem grp_map {α : Type} {k : Nat} {w : World} {S : BS} {R R' : α → El} {l : List α} {css : List (List Value)} (h : Grp k w S (l.map R) css) (hr : ∀ a cs, (R a).P w S cs → (R' a).P w S cs) : Grp k w S (l.map R') css := ⟨by rw [h.1]; simp, fun i cs hi => by
  obtain ⟨h1, E, h2, h3⟩ := h.2 i cs hi
  refine ⟨h1, ?_⟩
  rw [List.getElem?_map] at h2 ⊢
  cases hx : l[i]? with
  | none => rw [hx] at h2; cases h2
  | some x => rw [hx] at h2; cases h2; exact ⟨_, rfl, hr _ _ h3⟩⟩
theorem St.rows {M : BS} {w0 w : World} {H : List Cd} {e : TypeId} {A : Option Addr} {c : Nat} {lists : List (List En)} (hs : St M w0 w H) (i : Nat) (hi : nthC H i = some (.ck (rsC 1 e A c (lists.map lE)))) : RdR 1 w All A (rowsE lists) := by
  obtain ⟨css, h1, h2, h3⟩ := OwR.rd (hs.rs i hi)
  exact ⟨css, grp_map h1 fun _ _ h => lE_row h, by simpa using h2, by simpa using h3⟩
theorem twins4_any {A : Option Addr} {n c : Nat} {lists : List (List En)} {w : World} (hr : RdR 1 w All A (rowsE lists)) (hn : lists.length = n) (hok : ∀ l ∈ lists, l.length ≤ 1048576 ∧ ∀ x ∈ l, x.key.length ≤ 1048576 ∧ x.val.length ≤ 1048576) (hl : n ≤ 1048576) :
    CallsV Try.prog 34 #[.slice A n c] w fun v w' => ∃ P cp, v = .slice P lists.length cp ∧ St NoB w w' [.ck (rsC 1 40 P cp (lists.map lE))] := by
  subst hn
  have hs := (St.init w).nilS 1 40
  have hmax : maxLen = 9223372036854775807 := rfl
  refine calls_in (N := _) Try.func34 rfl Try.ntmps34 rfl ?_; show WC _ _ _ _ _ _
  refine wc_sr ?_; refine wl_as rfl rfl ?_; refine wl_ns ?_; refine wc_sr ?_; refine wl_as rfl rfl ?_; refine wl_ns ?_; refine wc_seq ?_; refine wc_sr ?_; refine wl_mv rfl rfl ?_; apply wl_val; apply opv_len; exact rfl; exact tkEE.sl; exact rfl; refine wl_mv rfl rfl ?_; refine wl_ns ?_; refine wc_block ?_
  refine wc_loop (fun L wr mm => ∃ (k : Nat) (P : Option Addr) (cp : Nat), L = [(3, .slice P k cp), (6, .slice A lists.length c), (7, .int .i64 (lists.length : Int)), (8, .int .i64 (k : Int))] ∧ k ≤ lists.length ∧ St NoB w wr [.ck (rsC 1 40 P cp ((lists.take k).map lE))] ∧ mm = lists.length - k)
    [(3, .slice none 0 0), (6, .slice A lists.length c), (7, .int .i64 (lists.length : Int)), (8, .int .i64 (0 : Nat))] lists.length ⟨0, none, 0, rfl, by omega, hs, rfl⟩ ⟨rfl, rfl, rfl, rfl, trivial⟩ ?_
  clear hs
  rintro _ w1 mm ⟨k, P, cp, rfl, hk, hs, rfl⟩
  refine wc_sr ?_; refine wl_bin rfl rfl bin_lss rfl ?_; refine wl_ns ?_; refine wc_seq ?_
  refine wc_cond rfl (fun h1 => ?_) (fun h1 => ?_)
  · obtain ⟨l, hx⟩ : ∃ l, lists[k]? = some l := ⟨_, List.getElem?_eq_getElem (by omega)⟩
    obtain ⟨b, o, X, cx, rfl, hcx, rl, i1⟩ := rowsE_at hr hx
    obtain ⟨hol, hox⟩ := hok l (List.mem_of_getElem? hx)
    replace i1 := i1.below hs.bel
    refine wc_skip ?_; refine we_seq ?_; refine wc_seq ?_; refine wc_block ?_; refine wc_sr ?_; apply wl_val; apply opv_idxG tkEE; exact rfl; exact rfl; exact rfl; omega; exact rfl; apply wl_val; apply opv_ldW0; exact rfl; assumption; exact e1_row; exact rfl; exact rfl; refine wl_as rfl rfl ?_; refine wl_ns ?_; refine wc_region ?_; refine wl_mv rfl rfl ?_; refine wl_mv rfl rfl ?_
    refine wl_call ok_caissonref07_Twins (twins3_any (rl.below hs.bel) rfl (fun x hx => by have := hox x hx; omega) (by omega)) ⟨rfl, trivial⟩ rfl ?_
    rintro _ w3 ⟨D, d, rfl, hsx⟩
    replace hs := ((hs.call hsx).pack (H1 := [.ck (rsC 4 56 D d (l.map oE))]) (.ce (lE l) [.slice D l.length d]) fun w S h => by
      obtain ⟨T, hT, h1, _⟩ := h
      exact ⟨D, d, rfl, (rsC 4 56 D d (l.map oE)).move h1 (Nat.le_refl _) fun b _ h => ⟨hT b h, rfl⟩⟩).front 1 rfl
    dsimp only [delC] at hs
    refine ws_pushS hs tkEE (fun _ => rfl) (by simp; omega) ⟨_, rfl, rfl⟩ rfl rfl (by decide) (by omega) (by omega) rfl rfl ?_
    clear hs; intro _ P2 cp2 w5 hs
    rw [show (lists.take k).map lE ++ [lE l] = (lists.take (k + 1)).map lE by rw [take_getR hx]; simp] at hs
    refine wl_as rfl rfl ?_; refine wl_nil ?_; refine we_block_norm ?_; refine we_seq ?_; refine wc_region ?_; apply wl_val; apply opv_bin; exact rfl; exact rfl; exact bin_add64 (by omega); exact rfl; refine wl_mv rfl rfl ?_; refine wl_nil ?_
    refine we_loop _ (lists.length - (k + 1)) ⟨k + 1, P2, cp2, rfl, by omega, hs, rfl⟩ (by omega) ⟨rfl, rfl, rfl, by simp [lookT], trivial⟩
  · obtain rfl : k = lists.length := by omega
    rw [List.take_length] at hs
    refine wc_exit ?_; refine we_seq_exit ?_; refine we_loop_exit ?_; refine we_block_exit ?_; refine we_seq ?_; refine wc_sr ?_; refine wl_mv rfl rfl ?_; refine wl_as rfl rfl ?_; refine wl_ns ?_; refine wc_ret ?_
    exact we_ret1 rfl rfl ⟨_, rfl, P, cp, rfl, hs⟩
/-- A list that has been told apart. -/
structure LsA where
  es : List EnA
  A : Option Addr
  c : Nat
def lsV (s : LsA) : List Value := [.slice s.A s.es.length s.c]
def enJ (a : EnA) : List Cd := [.ck (jk a.A a.x.key.length a.c), .ck (jk a.B a.x.val.length a.d)]
def lsJ (s : LsA) : List Cd := .rg 4 56 s.A s.c ((s.es.map eaV).map rawEl) :: s.es.flatMap enJ
theorem enJ_of {w : World} : ∀ {es : List EnA} {S : BS}, Sat w (es.flatMap enM) S → Sat w (es.flatMap enJ) S
  | [], _, _ => trivial
  | a :: es, S, ⟨T, hT, h1, U, hU, h2, h3⟩ => ⟨T, hT, jk_of h1, U, hU, jk_of h2, enJ_of h3⟩
theorem St.lists {M : BS} {w0 w : World} {H : List Cd} {A : Option Addr} {c : Nat} {lists : List (List En)} (hs : St M w0 w (.ck (rsC 1 40 A c (lists.map lE)) :: H)) :
    ∃ ss : List LsA, ss.map (fun s => s.es.map (·.x)) = lists ∧ St M w0 w (.rg 1 40 A c ((ss.map lsV).map rawEl) :: .ck (packC (ss.flatMap lsJ)) :: H) := by
  have key : ∀ (lists : List (List En)) (css : List (List Value)) (S : BS), css.length = lists.length → Sat w (zipCe (lists.map lE) css) S → ∃ ss : List LsA, ss.map (fun s => s.es.map (·.x)) = lists ∧ ss.map lsV = css ∧ Sat w (ss.flatMap lsJ) S := by
    intro lists
    induction lists with
    | nil => intro css S h _; exact ⟨[], rfl, (List.eq_nil_of_length_eq_zero h).symm, trivial⟩
    | cons l lists ih =>
      intro css S h hs
      cases css with
      | nil => simp at h
      | cons cs css =>
        obtain ⟨T, hT, ⟨A, c, hcs, he⟩, hr⟩ := hs
        obtain ⟨es, e1, U, hU, h1, h2⟩ := rs_es he
        obtain ⟨ss, s1, s2, s3⟩ := ih css _ (by simpa using h) hr
        refine ⟨⟨es, A, c⟩ :: ss, by simp [s1, e1], ?_, Sat.join hT (H1 := lsJ ⟨es, A, c⟩) ⟨U, hU, by rw [List.map_map]; exact h1, enJ_of h2⟩ s3⟩
        rw [List.map_cons, s2, hcs, lsV, ← e1, List.length_map]
  obtain ⟨⟨ss, he⟩, h⟩ := hs.unpackE (α := { ss : List LsA // ss.map (fun s => s.es.map (·.x)) = lists }) (H1 := fun ss => [.rg 1 40 A c ((ss.1.map lsV).map rawEl), .ck (packC (ss.1.flatMap lsJ))]) fun T ⟨css, hl, U, hU, h1, h2⟩ => by
    obtain ⟨ss, s1, s2, s3⟩ := key lists css _ (by simpa using hl) h2
    exact ⟨⟨ss, s1⟩, Sat.packR (X := [.rg 1 40 A c ((ss.map lsV).map rawEl)]) (Y := ss.flatMap lsJ) ⟨U, hU, by rw [s2]; exact h1, s3⟩ fun T h => h⟩
  exact ⟨ss, he, h⟩
set_option maxRecDepth 8000 in
theorem refMergeS_any {S : BS} {A : Option Addr} {n c : Nat} {lists : List (List En)} {w : World} (hr : RdR 1 w S A (rowsE lists)) (hn : lists.length = n) (hok : ∀ l ∈ lists, l.length ≤ 1048576 ∧ ∀ x ∈ l, x.key.length ≤ 1048576) (hl : lists.length ≤ 1000) :
    CallsV Try.prog 37 #[.slice A n c] w (RetL w S (mergeE lists)) := by
  subst hn
  have hmax : maxLen = 9223372036854775807 := rfl
  have hs := St.init w
  refine calls_in (N := _) Try.func37 rfl Try.ntmps37 rfl ?_; show WC _ _ _ _ _ _
  refine wc_sr ?_; refine wl_as rfl rfl ?_; refine wl_ns ?_; refine wc_sr ?_; refine wl_as rfl rfl ?_; refine wl_ns ?_; refine wc_seq ?_; refine wc_sr ?_; refine wl_as rfl rfl ?_; refine wl_ns ?_; refine wc_block ?_
  refine wc_loop (fun L wr mm => ∃ (k : Nat) (P : Option Addr) (cp : Nat) (out : List En), L = [(0, .slice A lists.length c), (3, .slice P out.length cp), (4, .int .i64 (k : Int))] ∧ k ≤ lists.length ∧ mergeE (lists.take k) = out ∧ out.length ≤ cp ∧ RdR 4 wr (Ab S w) P (out.map enEl) ∧ St NoB w wr [] ∧ mm = lists.length - k)
    [(0, .slice A lists.length c), (3, .slice none 0 0), (4, .int .i64 (0 : Nat))] lists.length ⟨0, none, 0, [], rfl, by omega, rfl, by simp, RdR.nil _, hs, rfl⟩ ⟨rfl, rfl, rfl, trivial⟩ ?_
  clear hs
  rintro _ w1 mm ⟨k, P, cp, out, rfl, hk, hout, hcp, hro, hs, rfl⟩
  refine wc_seq ?_; refine wc_sr ?_; refine wl_mv rfl rfl ?_; refine wl_mv rfl rfl ?_; apply wl_val; apply opv_len; exact rfl; exact tkEE.sl; exact rfl; refine wl_bin rfl rfl bin_lss rfl ?_; refine wl_ns ?_
  refine wc_cond rfl (fun h1 => ?_) (fun h1 => ?_)
  · obtain ⟨l, hx⟩ : ∃ l, lists[k]? = some l := ⟨_, List.getElem?_eq_getElem (by omega)⟩
    have hml := mergeE_len (m := 1048576) (lists := lists.take k) fun l h => (hok l (List.mem_of_mem_take h)).1
    have hmm := mergeE_mem (p := fun x => x.key.length ≤ 1048576) (lists := lists.take k) fun l h => (hok l (List.mem_of_mem_take h)).2
    have htk : (lists.take k).length = k := by rw [List.length_take]; omega
    rw [hout, htk] at hml
    rw [hout] at hmm
    have hmt := mergeE_take hx
    rw [hout] at hmt
    obtain ⟨b, o, X, cx, rfl, hcx, rl0, i1⟩ := rowsE_at hr hx
    obtain ⟨hol, hox⟩ := hok l (List.mem_of_getElem? hx)
    refine wc_skip ?_; refine we_seq ?_; refine wc_seq ?_; refine wc_block ?_; refine wc_sr ?_; refine wl_as rfl rfl ?_; refine wl_ns ?_; refine wc_block ?_
    refine wc_loop (fun L wr mm => ∃ (j : Nat) (P : Option Addr) (cp : Nat) (o2 : List En), L = [(0, .slice (some ⟨b, o, none⟩) lists.length c), (3, .slice P o2.length cp), (4, .int .i64 (k : Int)), (5, .int .i64 (j : Int))] ∧ j ≤ l.length ∧ (l.take j).foldl addM out = o2 ∧ o2.length ≤ cp ∧ RdR 4 wr (Ab S w) P (o2.map enEl) ∧ St NoB w wr [] ∧ mm = l.length - j)
      [(0, .slice (some ⟨b, o, none⟩) lists.length c), (3, .slice P out.length cp), (4, .int .i64 (k : Int)), (5, .int .i64 (0 : Nat))] l.length ⟨0, P, cp, out, rfl, by omega, rfl, hcp, hro, hs, rfl⟩ ⟨rfl, rfl, rfl, rfl, trivial⟩ ?_
    clear hs hro hcp P cp
    rintro _ w2 mm ⟨j, P, cp, o2, rfl, hj, ho2, hcp, hro, hs, rfl⟩
    have i2 := i1.below hs.bel
    refine wc_seq ?_; refine wc_sr ?_; refine wl_mv rfl rfl ?_; refine wl_mv rfl rfl ?_; refine wl_mv rfl rfl ?_; apply wl_val; apply opv_idxG tkEE; exact rfl; exact rfl; exact rfl; omega; exact rfl; apply wl_val; apply opv_ldW0; exact rfl; assumption; exact e1_row; exact rfl; exact rfl; apply wl_val; apply opv_len; exact rfl; exact tkE.sl; exact rfl; refine wl_bin rfl rfl bin_lss rfl ?_; refine wl_ns ?_
    refine wc_cond rfl (fun h2 => ?_) (fun h2 => ?_)
    · obtain ⟨x, hxj⟩ : ∃ x, l[j]? = some x := ⟨_, List.getElem?_eq_getElem (by omega)⟩
      have hl2 := addM_fold (l.take j) out
      have htj : (l.take j).length = j := by rw [List.length_take]; omega
      rw [ho2, htj] at hl2
      have hm2 := addM_mem (p := fun x => x.key.length ≤ 1048576) (l.take j) out (fun y hy => hox y (List.mem_of_mem_take hy)) hmm
      rw [ho2] at hm2
      have hat := addM_take (out0 := out) hxj
      rw [ho2] at hat
      obtain ⟨b1, o1, cs, rfl, _, _, hp, i3⟩ := RdR.at (k := 4) (by decide) rl0 (E := enEl x) (i := j) (by rw [List.getElem?_map, hxj]; rfl)
      obtain ⟨Y, cy, Y2, cy2, rfl, rx, _, rx2, _⟩ := enEl.rd (El.all hp)
      replace i3 := i3.below hs.bel
      have hpw := El.below hp hs.bel
      refine wc_skip ?_; refine we_seq ?_; refine wc_seq ?_; refine wc_block ?_; refine wc_sr ?_; refine wl_mv rfl rfl ?_; refine wl_mv rfl rfl ?_; refine wl_mv rfl rfl ?_; apply wl_val; apply opv_idxG tkEE; exact rfl; exact rfl; exact rfl; omega; exact rfl; apply wl_val; apply opv_ldW0; exact rfl; assumption; exact e1_row; exact rfl; exact rfl; refine wl_mv rfl rfl ?_; apply wl_val; apply opv_idxG tkE; exact rfl; exact rfl; exact rfl; omega; exact rfl; apply wl_val; apply opv_ldG; exact rfl; assumption; exact sE; exact rfl
      refine wl_call ok_caissonref07_In (in_any (e := x) hro.all rfl (rx.below hs.bel) (fun y hy => by have := hm2 y hy; omega) (by omega)) ⟨rfl, rfl, trivial⟩ rfl ?_; rintro _ _ ⟨rfl, hbx⟩; replace hs := hs.below hbx; try dsimp only [List.cons_append, List.nil_append, setC, delC] at hs
      replace hro := hro.below hbx
      replace i2 := i2.below hbx
      replace i3 := i3.below hbx
      replace hpw := El.below hpw hbx
      cases hin : inE o2 x with
      | true =>
        rw [addM, if_pos hin] at hat
        apply wl_val; apply opv_not; exact rfl; exact rfl; refine wl_ns ?_; apply wc_condFb; exact rfl; exact Bool.not_true; refine wc_skip ?_; refine we_block_norm ?_; refine we_seq ?_; refine wc_region ?_; refine wl_mv rfl rfl ?_; apply wl_val; apply opv_bin; exact rfl; exact rfl; exact bin_add64 (by omega); exact rfl; refine wl_as rfl rfl ?_; refine wl_nil ?_
        refine we_loop _ (l.length - (j + 1)) ⟨j + 1, P, cp, o2, rfl, by omega, hat, hcp, hro, hs, rfl⟩ (by omega) ⟨rfl, rfl, rfl, by simp [lookT], trivial⟩
      | false =>
        rw [addM, if_neg (by rw [hin]; decide)] at hat
        apply wl_val; apply opv_not; exact rfl; exact rfl; refine wl_ns ?_; apply wc_condTb; exact rfl; exact Bool.not_false; refine wc_region ?_; refine wl_mv rfl rfl ?_; refine wl_mv rfl rfl ?_; refine wl_mv rfl rfl ?_; apply wl_val; apply opv_idxG tkEE; exact rfl; exact rfl; exact rfl; omega; exact rfl; apply wl_val; apply opv_ldW0; exact rfl; assumption; exact e1_row; exact rfl; exact rfl; refine wl_mv rfl rfl ?_; apply wl_val; apply opv_idxG tkE; exact rfl; exact rfl; exact rfl; omega; exact rfl; apply wl_val; apply opv_ldG; exact rfl; assumption; exact sE; exact rfl
        refine wl_call ok_caissonref07_Insert (insert_any (e := x) (S := Ab S w) hro rfl hcp (El.mono hpw fun b _ h => .inl h) (fun y hy => by have := hm2 y hy; omega) (by have := hox x (List.mem_of_getElem? hxj); omega) (by omega)) ⟨rfl, rfl, trivial⟩ rfl ?_
        rintro _ w5 ⟨P2, cp2, rfl, hq2, hbx4⟩
        have hz4 := hs.size
        replace hs := hs.below hbx4
        refine wl_as rfl rfl ?_; refine wl_nil ?_; refine we_block_norm ?_; refine we_seq ?_; refine wc_region ?_; refine wl_mv rfl rfl ?_; apply wl_val; apply opv_bin; exact rfl; exact rfl; exact bin_add64 (by omega); exact rfl; refine wl_as rfl rfl ?_; refine wl_nil ?_
        refine we_loop _ (l.length - (j + 1)) ⟨j + 1, P2, cp2, insE o2 x, rfl, by omega, hat, by have := OwR.len_le hq2; simpa using this, (OwR.ab hq2 (Nat.le_refl _)).mono (by decide) fun b _ h => ?_, hs, rfl⟩ (by omega) ⟨rfl, rfl, rfl, by simp [lookT], trivial⟩
        rcases h with h | h
        · exact h
        · exact .inr (by omega)
    · obtain rfl : j = l.length := by omega
      rw [List.take_length, ← hmt] at ho2
      refine wc_exit ?_; refine we_seq_exit ?_; refine we_loop_exit ?_; refine we_block_exit ?_; refine we_block_norm ?_; refine we_seq ?_; refine wc_region ?_; refine wl_mv rfl rfl ?_; apply wl_val; apply opv_bin; exact rfl; exact rfl; exact bin_add64 (by omega); exact rfl; refine wl_as rfl rfl ?_; refine wl_nil ?_
      refine we_loop _ (lists.length - (k + 1)) ⟨k + 1, P, cp, o2, rfl, by omega, ho2, hcp, hro, hs, rfl⟩ (by omega) ⟨rfl, rfl, by simp [lookT], trivial⟩
  · obtain rfl : k = lists.length := by omega
    rw [List.take_length] at hout
    refine wc_exit ?_; refine we_seq_exit ?_; refine we_loop_exit ?_; refine we_block_exit ?_; refine we_seq ?_; refine wc_sr ?_; refine wl_mv rfl rfl ?_; refine wl_as rfl rfl ?_; refine wl_ns ?_; refine wc_ret ?_
    exact we_ret1 rfl rfl ⟨_, rfl, P, cp, by rw [hout], by rw [hout]; exact hcp, by rw [hout]; exact hro, hs.bel⟩
/-- One act of a stream. -/
structure Ac where
  seek : Bool
  key : List UInt8
def acEl (a : Ac) : El where
  P w S cs := ∃ A c, cs = [.bool a.seek, .slice A a.key.length c] ∧ (byEl a.key).P w S [.slice A a.key.length c]
  move := by rintro w w' S S' cs ⟨A, c, h, h1⟩ hz hm; exact ⟨A, c, h, El.move _ h1 hz hm⟩
def acB (a : Ac) : Nat := a.key.length
theorem sAct : StT Try.prog 72 2 := ⟨by kernel_rfl, by kernel_rfl⟩
theorem fa_sAct {k : Nat} (h : k < 2) : FieldAt Try.prog 72 k k := by
  match k, h with
  | 0, _ => exact fieldAt_mk Try.underlying72 rfl rfl (by kernel_rfl)
  | 1, _ => exact fieldAt_mk Try.underlying72 rfl rfl (by kernel_rfl)
theorem e1_bool : Cell1 Try.prog 4 := ⟨by kernel_rfl, by rw [Try.underlying4]⟩
def zAct : List Value := [.bool false, .slice none 0 0]
theorem zeroAct : (Try.prog.info? 72).map (·.zero) = some (some (.agg zAct.toArray)) := by kernel_rfl
theorem tkAct : RowK Try.prog 57 72 2 (.agg zAct.toArray) 32 := ⟨Try.underlying57, by kernel_rfl, by simp [zAct, Value.cells], by decide⟩
theorem opens_act : Opens Try.prog 72 acEl 2 acB (fun _ => True) := fun {H} enc W fuel cs x h => by
  obtain ⟨xs, n, rfl, rfl, hl, hx, hf⟩ := DataW.trod_struct Try.underlying72 h
  replace hl : cs.length = 2 := hl.trans (by kernel_rfl)
  obtain ⟨c0, c1, rfl⟩ := len2 hl
  obtain ⟨y0, y1, rfl⟩ := len2 hx
  obtain ⟨a0, h0, _, k0, b0⟩ := opens_bool Try.underlying4 enc W n [c0] y0 (field_at hf (i := 0) (off := 0) (k := 1) (t := 4) rfl rfl rfl (by kernel_rfl))
  obtain ⟨a1, h1, _, k1, b1⟩ := opens_bytes enc W n [c1] y1 (field_at hf (i := 1) (off := 1) (k := 1) (t := 24) rfl rfl rfl (by kernel_rfl))
  obtain rfl : c0 = .bool a0 := by simpa [vEl] using h0
  have h1' := h1
  obtain ⟨A, c, e1, _⟩ := h1
  obtain rfl : c1 = .slice A a1.length c := by simpa using e1
  refine ⟨⟨a0, a1⟩, ⟨A, c, rfl, h1'⟩, rfl, trivial, ?_⟩
  replace b1 : a1.length + 1 ≤ _ := b1
  simp only [acB, Rows.uptoBulk, Rows.uptoBulkAll, List.map_cons, List.map_nil]
  omega
theorem opens_acts : Opens Try.prog 57 (fun l : List Ac => rowEl 2 (l.map acEl)) 1 (sumB acB) (fun l => ∀ a ∈ l, True) := opens_slice tkAct (by kernel_rfl) opens_act
end Go.Proofs.Ytpnckagibkdcpaa


/-
  The types of the seat of texts and cells, and small rules for numbers.
-/
namespace Go.Proofs.Ytpnckagibkdcpaa
open Go.RowKit
theorem tyT : Row1 Try.prog 111 4 (.bool false) 1 := ⟨Try.underlying111, by kernel_rfl, rfl, by rw [Try.underlying4]⟩
theorem tyBool : Try.prog.underlying 4 = some .bool := Try.underlying4
theorem tyStr : Try.prog.underlying 9 = some .string := Try.underlying9
section
variable {P : Program} {t : TypeId} {a b : Int}
theorem bin_add32 (h : -2147483648 ≤ a + b ∧ a + b ≤ 2147483647) : BinV P .add t (.int .i32 a) (.int .i32 b) (.int .i32 (a + b)) := bin_add.to (by rw [IntWalk.i32_in _ h])
theorem bin_sub32 (h : -2147483648 ≤ a - b ∧ a - b ≤ 2147483647) : BinV P .sub t (.int .i32 a) (.int .i32 b) (.int .i32 (a - b)) := bin_sub.to (by rw [IntWalk.i32_in _ h])
theorem run_equalIn_bool (w : World) (d : Nat) (p q : Bool) (ht : P.underlying t = some .bool) : (Op.equalIn (d + 1) t (.bool p) (.bool q)).run P w = .ok (decide (p = q)) w := by
  unfold Op.equalIn
  rw [Sem.run_bind, run_underlying ht]
  cases p <;> cases q <;> rfl
theorem bin_eqlB {p q : Bool} (ht : P.underlying t = some .bool) : BinV P .eql t (.bool p) (.bool q) (.bool (decide (p = q))) := .mk fun x y w => by
  have h := run_equalIn_bool w 9999 p q ht
  simp [eqGuard, binOp, Op.equal, Op.maxDepth, h]
theorem bin_neqB {p q : Bool} (ht : P.underlying t = some .bool) : BinV P .neq t (.bool p) (.bool q) (.bool (decide (p ≠ q))) := .mk fun x y w => by
  have h := run_equalIn_bool w 9999 p q ht
  simp [eqGuard, binOp, Op.equal, Op.maxDepth, h]
end
end Go.Proofs.Ytpnckagibkdcpaa


/-
  Walk over the law MergeStreams.
-/
namespace Go.Proofs.Ytpnckagibkdcpaa
open Go.RowKit

def zM : List Value := [.slice none 0 0, .pointer none]
theorem zeroM : (Try.prog.info? 62).map (·.zero) = some (some (.agg zM.toArray)) := by kernel_rfl
theorem str_zero {M : BS} {w0 w : World} {g : Nat} {H : List Cd} (hs : St M w0 w (.blk g 62 zM :: H)) : St M w0 w (.ck (strC g []) :: H) := by
  have h1 := hs.nilG 2 96
  refine St.pack (H1 := [.rg 2 96 none 0 [], .blk g 62 zM]) h1 _ fun w S h => ⟨none, 0, [], [], none, ?_, ⟨.refl _, ⟨by simp, by simp, by simp⟩, fun p j _ _ hj => by simp at hj, by simp, by simp [pairs], Str.start (lists := []) ⟨by simp, by simp, by simp⟩ fun y => by simp [pairs, allP]⟩⟩
  exact Sat.packR (X := [.rg 2 96 none 0 (srcEls []), .blk g 62 [.slice none 0 0, .pointer none]]) (Y := []) h fun T _ => True.intro
theorem acEl.rd {w : World} {S : BS} {a : Ac} {cs : List Value} (h : (acEl a).P w S cs) : ∃ A c, cs = [.bool a.seek, .slice A a.key.length c] ∧ RdB w A a.key := by
  obtain ⟨A, c, h0, h1⟩ := h
  exact ⟨A, c, h0, (byE.rd h1).1⟩
theorem Mod.rdr {M : BS} {w w' : World} {k : Nat} {S : BS} {A : Option Addr} {els : List El} (hm : Mod M w w') (hk : 0 < k) (hS : ∀ b, b < w.heap.size → S b → ¬ M b) (h : RdR k w S A els) : RdR k w' S A els := RdR.move hk h hm.size fun b hb hs => ⟨hs, hm.block b hb (hS b hb hs)⟩
theorem Mod.wi {M : BS} {w w' : World} {b o : Nat} {cs : List Value} (hm : Mod M w w') (hb : ¬ M b) (h : Wi w b o cs) : Wi w' b o cs := ⟨Nat.lt_of_lt_of_le h.1 hm.size, fun j u hu => (World.cell?_of_block (a := ⟨b, o + j, none⟩) (hm.block b h.1 hb)).trans (h.2 j u hu)⟩
theorem Mod.el {M : BS} {w w' : World} {E : El} {S : BS} {cs : List Value} (hm : Mod M w w') (hS : ∀ b, b < w.heap.size → S b → ¬ M b) (h : E.P w S cs) : E.P w' S cs := E.move h hm.size fun b hb hs => ⟨hs, hm.block b hb (hS b hb hs)⟩
theorem filter_or {b : Bool} {P : Prop} [Decidable P] (h : b = true ↔ P) : b = decide P := by cases b <;> simp_all
theorem raw_of {w : World} {k : Nat} {e : TypeId} {S : BS} {Z : Option Addr} {cz base j : Nat} {css : List (List Value)} {cs : List Value} (hk : 0 < k) (h : OwR k e w base S Z cz (css.map rawEl)) (hj : css[j]? = some cs) : ∃ b o, Z = some ⟨b, o, none⟩ ∧ Wi w b (o + j * k) cs := by
  obtain ⟨b, o, cs', hqq, _, _, hp, i1⟩ := RdR.at hk (OwR.rd h) (E := rawEl cs) (i := j) (by rw [List.getElem?_map, hj]; rfl)
  obtain rfl : cs' = cs := hp
  exact ⟨b, o, hqq, i1⟩
theorem St.packed {M : BS} {w0 w : World} {H H1 : List Cd} {c : Cd} (hs : St M w0 w H) (i : Nat) (hi : nthC H i = some (.ck (packC H1))) (hm : c ∈ H1) : ∃ T : BS, c.P w T := by
  obtain ⟨T, hc, _⟩ := hs.get i hi
  obtain ⟨U, _, h⟩ := Sat.mem (show Sat w H1 T from hc) hm
  exact ⟨U, h⟩
theorem mem_row {ss : List LsA} {s : LsA} (h : s ∈ ss) : Cd.rg 4 56 s.A s.c ((s.es.map eaV).map rawEl) ∈ ss.flatMap lsJ := List.mem_flatMap.2 ⟨s, h, List.mem_cons_self⟩
theorem mem_key {ss : List LsA} {s : LsA} {a : EnA} (h : s ∈ ss) (ha : a ∈ s.es) : Cd.ck (jk a.A a.x.key.length a.c) ∈ ss.flatMap lsJ ∧ Cd.ck (jk a.B a.x.val.length a.d) ∈ ss.flatMap lsJ :=
  ⟨List.mem_flatMap.2 ⟨s, h, List.mem_cons_of_mem _ (List.mem_flatMap.2 ⟨a, ha, List.mem_cons_self⟩)⟩, List.mem_flatMap.2 ⟨s, h, List.mem_cons_of_mem _ (List.mem_flatMap.2 ⟨a, ha, List.mem_cons_of_mem _ List.mem_cons_self⟩)⟩⟩
set_option maxRecDepth 8000 in
theorem streams_any {A B : Option Addr} {n c nb cb : Nat} {lists0 : List (List En)} {acts : List Ac} {w : World} (hr : RdR 1 w All A (rowsE lists0)) (hn : lists0.length = n) (_hc : n ≤ c) (_hsq : ∀ l ∈ lists0, ∀ x ∈ l, x.seq < 2 ^ 64) (hl : sumB lnB lists0 ≤ 1048576)
    (hra : RdR 2 w All B (acts.map acEl)) (hna : acts.length = nb) (_hcb : nb ≤ cb) (_hoa : ∀ a ∈ acts, True) (hla : sumB acB acts ≤ 1048576) :
    CallsV Try.prog 7 #[.slice A n c, .slice B nb cb] w (RetTr w) := by
  obtain ⟨hl1, hok1⟩ := lists_small hl
  have hal := sumB_len (bulk := acB) acts
  have hak : ∀ a ∈ acts, a.key.length ≤ 1048576 := fun a ha => by have := sumB_mem (bulk := acB) ha; have : a.key.length = acB a := rfl; omega
  subst hna
  have hs := St.init w
  refine calls_in (N := _) Try.func7 rfl Try.ntmps7 rfl ?_; show WC _ _ _ _ _ _
  refine wc_sr ?_; refine wl_as rfl rfl ?_; refine wl_ns ?_; refine wc_seq ?_; refine wc_sr ?_
  refine wl_call ok_caissonlaw11_awake (awake_any _) trivial rfl ?_; rintro _ _ ⟨rfl, hbx⟩; replace hs := hs.below hbx; try dsimp only [List.cons_append, List.nil_append, setC, delC] at hs
  apply wl_val; apply opv_not; exact rfl; exact rfl; refine wl_ns ?_; apply wc_condFb; exact rfl; exact Bool.not_true; refine wc_skip ?_; refine we_seq ?_; refine wc_sr ?_
  refine ws_new hs zeroM rfl ?_; clear hs; intro g5 _ hs
  replace hs := str_zero hs
  refine wl_ns ?_; refine wc_seq ?_; refine wc_sr ?_
  obtain ⟨S2, hS2, _, _, _, hB⟩ := St.lend (H1 := [.ck (strC g5 [])]) (H2 := []) hs
  refine wl_call ok_merge_Stream_Next (next_any hS2) ⟨rfl, trivial⟩ rfl ?_
  rintro _ w3 ⟨rfl, hsx⟩
  replace hs := hB _ _ hsx
  clear hB hsx hS2
  refine wl_mv rfl rfl ?_; apply wl_val; apply opv_extract; exact rfl; exact rfl; exact rfl; apply wl_val; apply opv_extract; exact rfl; exact rfl; exact rfl
  refine ws_new hs zeroE rfl ?_; clear hs; intro g6 _ hs
  apply ws_stS hs 0; exact rfl; exact rfl; exact rfl; exact sE; exact rfl; exact rfl; clear hs; intro _ hs; dsimp only [setC] at hs; refine wl_as rfl rfl ?_; refine wl_ns ?_; refine wc_sr ?_; refine wl_mv rfl rfl ?_; refine wl_ns ?_; apply wc_condFb; exact rfl; exact rfl; refine wc_skip ?_; refine we_seq ?_; refine wc_sr ?_
  refine ws_lit hs [97] tyB Try.underlying5 ⟨rfl, rfl, rfl, trivial⟩ rfl (by decide) (by decide) rfl rfl ?_
  clear hs; intro _ K w4 hs
  replace hs := (hs.drop 1 rfl).front 1 rfl
  dsimp only [delC] at hs
  obtain ⟨S2, hS2, _, hM, hH2, hB⟩ := St.lend (H1 := [.ck (strC g5 [])]) (H2 := [.ce (byEl [97]) [.slice K [(97 : UInt8)].length [(97 : UInt8)].length]]) hs
  refine wl_call ok_merge_Stream_Seek (seek_any (key := [97]) hS2 rfl fun w' hm => ?_) ⟨rfl, rfl, trivial⟩ rfl ?_
  · obtain ⟨T, _, h1, _⟩ := hH2 w' hm
    exact (byE.rd (El.all h1)).1
  rintro _ w5 ⟨rfl, hsx⟩
  replace hs := (hB _ _ hsx).nil
  clear hB hsx hS2 hM hH2
  refine wl_ns ?_; refine wc_sr ?_; refine wl_mv rfl rfl ?_
  refine wl_call ok_caissonlaw11_some (some_any (S := All) (hr.below hs.bel) hn (fun l h => (hok1 l h).1) (by omega)) ⟨rfl, trivial⟩ rfl ?_
  rintro _ w2 ⟨P, cp, rfl, hP, hbx2⟩
  replace hs := hs.below hbx2
  obtain ⟨hl2, hok2⟩ := some_facts (p := fun x => x.key.length ≤ 1048576 ∧ x.val.length ≤ 1048576) (lists := lists0) fun l h => (hok1 l h).2
  obtain ⟨lists, hld⟩ : ∃ q, someE lists0 = q := ⟨_, rfl⟩
  rw [hld] at hP hl2 hok2
  rw [hld]
  have hr2 := OwR.rd hP
  have hbw2 := hs.bel
  have hra2 := hra.below hbw2
  have hok : ∀ l ∈ lists, l.length ≤ 1048576 ∧ ∀ x ∈ l, x.key.length ≤ 1048576 ∧ x.val.length ≤ 1048576 := fun l h => ⟨by have := (hok2 l h).1; omega, (hok2 l h).2⟩
  have hmk := mergeE_mem (p := fun x => x.key.length ≤ 1048576 ∧ x.val.length ≤ 1048576) (lists := lists) fun l h x hx => (hok l h).2 x hx
  have hml := mergeE_len (m := 30) (lists := lists) fun l h => (hok2 l h).1
  have hS2' : RdR 1 w2 (fun b => b < w2.heap.size) P (rowsE lists) := RdR.move (by decide) hr2 (Nat.le_refl _) fun b hb _ => ⟨hb, rfl⟩
  have hra2' : RdR 2 w2 (fun b => b < w2.heap.size) B (acts.map acEl) := RdR.move (by decide) hra2 (Nat.le_refl _) fun b hb _ => ⟨hb, rfl⟩
  clear hs hbx2 hbx hra hr
  have hs := St.init w2
  refine wl_as rfl rfl ?_; refine wl_ns ?_; refine wc_sr ?_; refine wl_mv rfl rfl ?_
  refine wl_call ok_caissonlaw11_twins (twins4_any hr2 rfl hok (by omega)) ⟨rfl, trivial⟩ rfl ?_
  rintro _ w6 ⟨D, d, rfl, hsx⟩
  replace hs := hs.call hsx
  dsimp only [List.cons_append, List.nil_append] at hs
  refine wl_as rfl rfl ?_; refine wl_ns ?_; refine wc_sr ?_; refine wl_mv rfl rfl ?_
  refine wl_call ok_merge_Open (open_any (hs.rows 0 rfl) rfl hok (by omega)) ⟨rfl, trivial⟩ rfl ?_
  rintro _ w7 (⟨hw, g, rfl, hsx⟩ | ⟨hw, rfl, hbx⟩)
  case inr =>
    replace hs := hs.below hbx
    refine wl_mv rfl rfl ?_; apply wl_val; apply opv_extract; exact rfl; exact rfl; exact rfl; apply wl_val; apply opv_extract; exact rfl; exact rfl; exact rfl; refine wl_as rfl rfl ?_; refine wl_as rfl rfl ?_; refine wl_ns ?_; refine wc_sr ?_; refine wl_mv rfl rfl ?_
    refine wl_call ok_caissonref11_Check (refCheck11_any (hr2.below hs.bel) rfl (fun l h => ⟨(hok l h).1, fun x hx => by have := ((hok l h).2 x hx).1; simp only [maxLen]; omega⟩) (by omega)) ⟨rfl, trivial⟩ rfl ?_
    rintro _ w8 ⟨rfl, hbx⟩
    replace hs := hs.below hbx
    have h0' : ((worstE lists : Nat) : Int) ≠ 0 := by omega
    have hbb : ¬ (true ≠ decide (((worstE lists : Nat) : Int) ≠ 0)) := by simp; exact hw
    refine wl_as rfl rfl ?_; refine wl_ns ?_; refine wc_seq ?_; refine wc_sr ?_; refine wl_mv rfl rfl ?_; refine wl_mv rfl rfl ?_; refine wl_bin rfl rfl bin_neq rfl ?_; refine wl_mv rfl rfl ?_; apply wl_take; exact rfl; exact rfl; exact rfl; refine bF ?_; (with_reducible exact nne); refine wl_mv rfl rfl ?_; apply wl_take; exact rfl; exact rfl; exact rfl; refine bF ?_; (with_reducible exact nne); apply wl_val; apply opv_bin; exact rfl; exact rfl; exact bin_eqlNilNil Try.underlying67; exact rfl; apply wl_take; exact rfl; exact rfl; exact rfl; refine bF ?_; (with_reducible exact nne); refine wl_mv rfl rfl ?_; apply wl_take; exact rfl; exact rfl; exact rfl; refine bF ?_; (with_reducible exact nne); refine wl_bin rfl rfl bin_neq rfl ?_; apply wl_take; exact rfl; exact rfl; exact rfl; refine bF ?_; (with_reducible exact nne); apply wl_val; apply opv_bin; exact rfl; exact rfl; exact bin_neqB tyBool; exact rfl; apply wl_val; apply opv_pickF; exact rfl; refine bF ?_; (with_reducible exact nne); exact rfl; exact rfl; refine wl_ns ?_; apply wc_decF; exact rfl; (with_reducible assumption); refine wc_skip ?_; refine we_seq ?_; refine wc_seq ?_; refine wc_sr ?_; refine wl_mv rfl rfl ?_; refine wl_bin rfl rfl bin_neq rfl ?_; refine wl_ns ?_; apply wc_decT; exact rfl; (with_reducible assumption); refine wc_sr ?_; refine wl_as rfl rfl ?_; refine wl_ns ?_; refine wc_ret ?_; refine we_seq_ret ?_
    exact we_ret1 rfl rfl ⟨_, rfl, rfl, hbw2.trans (hs.bel.mono hbw2.size)⟩
  replace hs := hs.call hsx
  dsimp only [List.cons_append, List.nil_append] at hs
  have h0 : ((0 : Nat) : Int) = 0 := rfl
  refine wl_mv rfl rfl ?_; apply wl_val; apply opv_extract; exact rfl; exact rfl; exact rfl; apply wl_val; apply opv_extract; exact rfl; exact rfl; exact rfl; refine wl_as rfl rfl ?_; refine wl_as rfl rfl ?_; refine wl_ns ?_; refine wc_sr ?_; refine wl_mv rfl rfl ?_
  refine wl_call ok_caissonref11_Check (refCheck11_any (hr2.below hs.bel) rfl (fun l h => ⟨(hok l h).1, fun x hx => by have := ((hok l h).2 x hx).1; simp only [maxLen]; omega⟩) (by omega)) ⟨rfl, trivial⟩ rfl ?_
  rintro _ w8 ⟨rfl, hbx⟩
  replace hs := hs.below hbx
  rw [hw]
  obtain ⟨ss, hss, hs⟩ := (hs.front 1 rfl).lists
  dsimp only [delC] at hs
  have hsl : ss.length = lists.length := by rw [← hss, List.length_map]
  have hssl : ∀ s ∈ ss, s.es.length ≤ 1048576 := fun s hs => by
    have h1 : s.es.map (·.x) ∈ lists := by rw [← hss]; exact List.mem_map.2 ⟨s, hs, rfl⟩
    have := (hok _ h1).1
    rwa [List.length_map] at this
  have hssok : ∀ s ∈ ss, ∀ a ∈ s.es, a.x.key.length ≤ 1048576 ∧ a.x.val.length ≤ 1048576 := fun s hs a ha => by
    have h1 : s.es.map (·.x) ∈ lists := by rw [← hss]; exact List.mem_map.2 ⟨s, hs, rfl⟩
    exact (hok _ h1).2 a.x (List.mem_map.2 ⟨a, ha, rfl⟩)
  refine wl_as rfl rfl ?_; refine wl_ns ?_; refine wc_seq ?_; refine wc_sr ?_; refine wl_mv rfl rfl ?_; refine wl_mv rfl rfl ?_; refine wl_bin rfl rfl bin_neq rfl ?_; refine wl_mv rfl rfl ?_; apply wl_take; exact rfl; exact rfl; exact rfl; refine bF ?_; (with_reducible exact nne); refine wl_mv rfl rfl ?_; apply wl_take; exact rfl; exact rfl; exact rfl; refine bF ?_; (with_reducible exact nne); apply wl_val; apply opv_bin; exact rfl; exact rfl; exact bin_eqlPtrNil Try.underlying67; exact rfl; apply wl_take; exact rfl; exact rfl; exact rfl; refine bF ?_; (with_reducible exact nne); refine wl_mv rfl rfl ?_; apply wl_take; exact rfl; exact rfl; exact rfl; refine bF ?_; (with_reducible exact nne); refine wl_bin rfl rfl bin_neq rfl ?_; apply wl_take; exact rfl; exact rfl; exact rfl; refine bF ?_; (with_reducible exact nne); apply wl_val; apply opv_bin; exact rfl; exact rfl; exact bin_neqB tyBool; exact rfl; apply wl_val; apply opv_pickF; exact rfl; refine bF ?_; (with_reducible exact nne); exact rfl; exact rfl; refine wl_ns ?_; apply wc_condFb; exact rfl; exact rfl; refine wc_skip ?_; refine we_seq ?_; refine wc_seq ?_; refine wc_sr ?_; refine wl_mv rfl rfl ?_; refine wl_bin rfl rfl bin_neq rfl ?_; refine wl_ns ?_; apply wc_condFb; exact rfl; exact rfl; refine wc_skip ?_; refine we_seq ?_; refine wc_seq ?_; refine wc_sr ?_; refine wl_mv rfl rfl ?_; apply wl_val; apply opv_len; exact rfl; exact tkEE.sl; exact rfl; refine wl_mv rfl rfl ?_; refine wl_ns ?_; refine wc_block ?_
  refine wc_loop (fun L wr mm => ∃ (i : Nat), L = [(0, .slice P lists.length cp), (1, .slice B acts.length cb), (9, .pointer (some ⟨g, 0, none⟩)), (54, .slice D lists.length d), (55, .int .i64 (lists.length : Int)), (56, .int .i64 (i : Int))] ∧ i ≤ lists.length ∧ St NoB w2 wr [.rg 1 40 D d ((ss.map lsV).map rawEl), .ck (packC (ss.flatMap lsJ)), .ck (strC g (mergeE lists))] ∧ mm = lists.length - i)
    [(0, .slice P lists.length cp), (1, .slice B acts.length cb), (9, .pointer (some ⟨g, 0, none⟩)), (54, .slice D lists.length d), (55, .int .i64 (lists.length : Int)), (56, .int .i64 (0 : Nat))] lists.length ⟨0, rfl, by omega, hs, rfl⟩ ⟨rfl, rfl, rfl, rfl, rfl, rfl, trivial⟩ ?_
  clear hs
  rintro _ w9 mm ⟨i, rfl, hi, hs, rfl⟩
  refine wc_sr ?_; refine wl_bin rfl rfl bin_lss rfl ?_; refine wl_ns ?_; refine wc_seq ?_
  refine wc_cond rfl (fun h1 => ?_) (fun h1 => ?_)
  · obtain ⟨s, hsi⟩ : ∃ s, ss[i]? = some s := ⟨_, List.getElem?_eq_getElem (by omega)⟩
    have hsm := List.mem_of_getElem? hsi
    have hsn := hssl _ hsm
    obtain ⟨ses, sA, sc⟩ := s
    replace hsn : ses.length ≤ 1048576 := hsn
    obtain ⟨b, o, rfl, i1⟩ := raw_of (by decide) (hs.rg 0 rfl) (j := i) (cs := lsV ⟨ses, sA, sc⟩) (by rw [List.getElem?_map, hsi]; rfl)
    unfold lsV at i1
    refine wc_skip ?_; refine we_seq ?_; refine wc_seq ?_; refine wc_block ?_; refine wc_sr ?_; apply wl_val; apply opv_idxG tkEE; exact rfl; exact rfl; exact rfl; omega; exact rfl; apply wl_val; apply opv_ldW0; exact rfl; assumption; exact e1_row; exact rfl; exact rfl; refine wl_as rfl rfl ?_; refine wl_ns ?_; refine wc_sr ?_; refine wl_mv rfl rfl ?_; apply wl_val; apply opv_len; exact rfl; exact tkE.sl; exact rfl; refine wl_mv rfl rfl ?_; refine wl_ns ?_; refine wc_block ?_
    refine wc_loop (fun L wr mm => ∃ (j : Nat), L = [(0, .slice P lists.length cp), (1, .slice B acts.length cb), (9, .pointer (some ⟨g, 0, none⟩)), (54, .slice (some ⟨b, o, none⟩) lists.length d), (55, .int .i64 (lists.length : Int)), (56, .int .i64 (i : Int)), (60, .slice sA ses.length sc), (61, .int .i64 (ses.length : Int)), (62, .int .i64 (j : Int))] ∧ j ≤ ses.length ∧ St NoB w2 wr [.rg 1 40 (some ⟨b, o, none⟩) d ((ss.map lsV).map rawEl), .ck (packC (ss.flatMap lsJ)), .ck (strC g (mergeE lists))] ∧ mm = ses.length - j)
      [(0, .slice P lists.length cp), (1, .slice B acts.length cb), (9, .pointer (some ⟨g, 0, none⟩)), (54, .slice (some ⟨b, o, none⟩) lists.length d), (55, .int .i64 (lists.length : Int)), (56, .int .i64 (i : Int)), (60, .slice sA ses.length sc), (61, .int .i64 (ses.length : Int)), (62, .int .i64 (0 : Nat))] ses.length ⟨0, rfl, by omega, hs, rfl⟩ ⟨rfl, rfl, rfl, rfl, rfl, rfl, rfl, rfl, rfl, trivial⟩ ?_
    clear hs i1
    rintro _ w10 mm ⟨j, rfl, hj, hs, rfl⟩
    refine wc_sr ?_; refine wl_bin rfl rfl bin_lss rfl ?_; refine wl_ns ?_; refine wc_seq ?_
    refine wc_cond rfl (fun h2 => ?_) (fun h2 => ?_)
    · obtain ⟨a, haj⟩ : ∃ a, ses[j]? = some a := ⟨_, List.getElem?_eq_getElem (by omega)⟩
      have ham := List.mem_of_getElem? haj
      obtain ⟨hk1, hk2⟩ := mem_key hsm ham
      obtain ⟨ho1, ho2⟩ := hssok _ hsm a ham
      obtain ⟨T, hrow⟩ := hs.packed 1 rfl (mem_row hsm)
      obtain ⟨b1, o1, hb1, i2⟩ := raw_of (by decide) hrow.2 (j := j) (cs := eaV a) (by rw [List.getElem?_map, haj]; rfl)
      clear hrow
      subst hb1
      refine wc_skip ?_; refine we_seq ?_; refine wc_seq ?_; refine wc_block ?_; refine wc_sr ?_; apply wl_val; apply opv_idxG tkE; exact rfl; exact rfl; exact rfl; omega; exact rfl; apply wl_val; apply opv_ldG; exact rfl; assumption; exact sE; exact rfl
      refine ws_new hs zeroE rfl ?_; clear hs; intro g15 _ hs
      apply ws_stS hs 0; exact rfl; exact rfl; exact rfl; exact sE; exact rfl; exact rfl; clear hs; intro _ hs; dsimp only [setC] at hs; refine wl_ns ?_; refine wc_sr ?_; apply wl_val; apply opv_fa; exact fa_sE (by decide); exact rfl; exact rfl; apply wl_val; apply opv_ldX; exact rfl; exact hs.ar 0 rfl; exact e1_by; exact rfl; exact rfl
      replace hs := hs.front 2 rfl
      dsimp only [delC] at hs
      obtain ⟨S2, hS2, _, _, _, hB⟩ := St.lend (H1 := [.ck (packC (ss.flatMap lsJ))]) hs
      refine wl_call ok_caissonref01_Over (over_in hS2 hk1 (by omega)) ⟨rfl, trivial⟩ rfl ?_
      rintro _ w11 ⟨rfl, hsx⟩
      replace hs := hB _ _ hsx
      dsimp only [List.cons_append, List.nil_append] at hs
      clear hB hsx hS2
      refine wl_ns ?_; refine wc_region ?_; apply wl_val; apply opv_fa; exact fa_sE (by decide); exact rfl; exact rfl; apply wl_val; apply opv_ldX; exact rfl; exact hs.ar 1 rfl; exact e1_by; exact rfl; exact rfl
      obtain ⟨S2, hS2, _, _, _, hB⟩ := St.lend (H1 := [.ck (packC (ss.flatMap lsJ))]) hs
      refine wl_call ok_caissonref01_Over (over_in hS2 hk2 (by omega)) ⟨rfl, trivial⟩ rfl ?_
      rintro _ w12 ⟨rfl, hsx⟩
      replace hs := ((hB _ _ hsx).drop 1 rfl).front 1 rfl
      dsimp only [delC, List.cons_append, List.nil_append] at hs
      clear hB hsx hS2
      refine wl_nil ?_; refine we_block_norm ?_; refine we_seq ?_; refine wc_region ?_; apply wl_val; apply opv_bin; exact rfl; exact rfl; exact bin_add64 (by omega); exact rfl; refine wl_mv rfl rfl ?_; refine wl_nil ?_
      refine we_loop _ (ses.length - (j + 1)) ⟨j + 1, rfl, by omega, hs, rfl⟩ (by omega) ⟨rfl, rfl, rfl, rfl, rfl, rfl, rfl, rfl, by simp [lookT], trivial⟩
    · refine wc_exit ?_; refine we_seq_exit ?_; refine we_loop_exit ?_; refine we_block_exit ?_; refine we_block_norm ?_; refine we_seq ?_; refine wc_region ?_; apply wl_val; apply opv_bin; exact rfl; exact rfl; exact bin_add64 (by omega); exact rfl; refine wl_mv rfl rfl ?_; refine wl_nil ?_
      refine we_loop _ (lists.length - (i + 1)) ⟨i + 1, rfl, by omega, hs, rfl⟩ (by omega) ⟨rfl, rfl, rfl, rfl, rfl, by simp [lookT], trivial⟩
  refine wc_exit ?_; refine we_seq_exit ?_; refine we_loop_exit ?_; refine we_block_exit ?_; refine we_seq ?_; refine wc_sr ?_; refine wl_mv rfl rfl ?_
  refine wl_call ok_caissonref11_Merge (refMergeS_any (RdR.below hS2' hs.bel) rfl (fun l h => ⟨(hok l h).1, fun x hx => ((hok l h).2 x hx).1⟩) (by omega)) ⟨rfl, trivial⟩ rfl ?_
  rintro _ w10 ⟨Pm, cm, rfl, hcm, hlf, hbx⟩
  have hb9 := hs.bel
  have hb10 := hb9.trans (hbx.mono hb9.size)
  have hstr : Sat w9 [.ck (strC g (mergeE lists))] (fun b => w2.heap.size ≤ b ∧ b < w9.heap.size) := hs.2.dropC.dropC.mono fun b hb h => ⟨h.elim (fun k => k.elim) id, hb⟩
  replace hs : St (fun b => w2.heap.size ≤ b ∧ b < w9.heap.size) w10 w10 [.ck (strC g (mergeE lists))] := St.start (hstr.move hbx.size fun b hb h => ⟨h, hbx.block b hb⟩)
  have hra := RdR.below hra2' hb10
  have hsz2 : w2.heap.size ≤ w9.heap.size := hb9.size
  have hdl : ∀ b, b < w10.heap.size → Ab (fun b => b < w2.heap.size) w9 b → ¬ (w2.heap.size ≤ b ∧ b < w9.heap.size) := fun b _ h k => by rcases h with h | h <;> omega
  have hda : ∀ b, b < w10.heap.size → b < w2.heap.size → ¬ (w2.heap.size ≤ b ∧ b < w9.heap.size) := fun b _ h k => by omega
  have hend : ∀ {wr : World}, Mod (fun b => w2.heap.size ≤ b ∧ b < w9.heap.size) w10 wr → Below w2.heap.size w2 wr := fun hm => hb10.trans ((hm.below_of hb10.size fun b h => h.1))
  obtain ⟨SL, hSL⟩ : ∃ q, Ab (fun b => b < w2.heap.size) w9 = q := ⟨_, rfl⟩
  obtain ⟨M6, hM6⟩ : ∃ q : BS, (fun b => w2.heap.size ≤ b ∧ b < w9.heap.size) = q := ⟨_, rfl⟩
  replace hdl : ∀ b, b < w10.heap.size → SL b → ¬ M6 b := by rw [← hSL, ← hM6]; exact hdl
  replace hda : ∀ b, b < w10.heap.size → b < w2.heap.size → ¬ M6 b := by rw [← hM6]; exact hda
  rw [hM6] at hs
  rw [hSL] at hlf
  replace hend : ∀ {wr : World}, Mod M6 w10 wr → Below w2.heap.size w2 wr := fun {wr} h => hend (by rw [hM6]; exact h)
  obtain ⟨ml, hmd⟩ : ∃ q, mergeE lists = q := ⟨_, rfl⟩
  rw [hmd] at hs hlf hcm hmk hml
  rw [hmd]
  clear hstr h1 hss hssok hsl hok hok2 hS2' hra2' hld hmd hi
  refine wl_as rfl rfl ?_; refine wl_ns ?_; refine wc_seq ?_; refine wc_sr ?_; refine wl_mv rfl rfl ?_; apply wl_val; apply opv_len; exact rfl; exact tkAct.sl; exact rfl; refine wl_mv rfl rfl ?_; refine wl_ns ?_; refine wc_block ?_
  refine wc_loop (fun L wr mm => ∃ (k : Nat) (lf : List En) (Pl : Option Addr) (cl : Nat), L = [(9, .pointer (some ⟨g, 0, none⟩)), (16, .slice Pl lf.length cl), (76, .slice B acts.length cb), (77, .int .i64 (acts.length : Int)), (78, .int .i64 (k : Int))] ∧ k ≤ acts.length ∧ lf.length ≤ cl ∧ lf.length ≤ 1048576 ∧ (∀ x ∈ lf, x.key.length ≤ 1048576 ∧ x.val.length ≤ 1048576) ∧ RdR 4 w10 SL Pl (lf.map enEl) ∧ St M6 w10 wr [.ck (strC g lf)] ∧ mm = acts.length - k)
    [(9, .pointer (some ⟨g, 0, none⟩)), (16, .slice Pm ml.length cm), (76, .slice B acts.length cb), (77, .int .i64 (acts.length : Int)), (78, .int .i64 (0 : Nat))] acts.length ⟨0, ml, Pm, cm, rfl, by omega, hcm, by omega, hmk, hlf, hs, rfl⟩ ⟨rfl, rfl, rfl, rfl, rfl, trivial⟩ ?_
  clear hs hlf hcm hmk hml
  rintro _ w11 mm ⟨k, lf, Pl, cl, rfl, hk, hcl, hll, hlk, hlf, hs, rfl⟩
  refine wc_sr ?_; refine wl_bin rfl rfl bin_lss rfl ?_; refine wl_ns ?_; refine wc_seq ?_
  refine wc_cond rfl (fun h1 => ?_) (fun h1 => ?_)
  rotate_left
  · obtain rfl : k = acts.length := by omega
    refine wc_exit ?_; refine we_seq_exit ?_; refine we_loop_exit ?_; refine we_block_exit ?_; refine we_seq ?_; refine wc_sr ?_; refine wl_as rfl rfl ?_; refine wl_ns ?_; refine wc_ret ?_
    exact we_ret1 rfl rfl ⟨_, rfl, rfl, hbw2.trans ((hend hs.1).mono hbw2.size)⟩
  obtain ⟨a, hx⟩ : ∃ a, acts[k]? = some a := ⟨_, List.getElem?_eq_getElem (by omega)⟩
  have hka := hak a (List.mem_of_getElem? hx)
  obtain ⟨b, o, cs, hqq, hSb, _, hp, i0⟩ := RdR.at (k := 2) (by decide) hra (E := acEl a) (i := k) (by rw [List.getElem?_map, hx]; rfl)
  obtain ⟨Ka, ca, rfl, _⟩ := acEl.rd hp
  have hkm : ∀ {wr : World}, Mod M6 w10 wr → RdB wr Ka a.key := fun hm => by
    obtain ⟨K', c', he, h⟩ := acEl.rd (hm.el hda hp)
    simp only [List.cons.injEq, Value.slice.injEq, true_and, and_true] at he
    rw [he.1]; exact h
  have i1 := hs.1.wi (hda b i0.1 hSb) i0
  subst hqq
  have h0 : ((0 : Nat) : Int) = 0 := rfl
  refine wc_skip ?_; refine we_seq ?_; refine wc_seq ?_; refine wc_block ?_; refine wc_sr ?_; apply wl_val; apply opv_idxG tkAct; exact rfl; exact rfl; exact rfl; omega; exact rfl; apply wl_val; apply opv_ldG; exact rfl; assumption; exact sAct; exact rfl
  refine ws_new hs zeroAct rfl ?_; clear hs; intro g18 _ hs
  apply ws_stS hs 0; exact rfl; exact rfl; exact rfl; exact sAct; exact rfl; exact rfl; clear hs; intro _ hs; dsimp only [setC] at hs; refine wl_ns ?_; refine wc_seq ?_; refine wc_sr ?_; apply wl_val; apply opv_fa; exact fa_sAct (by decide); exact rfl; exact rfl; apply wl_val; apply opv_ldX; exact rfl; exact hs.ar 0 rfl; exact e1_bool; exact rfl; exact rfl; refine wl_ns ?_
  cases hsk : a.seek with
  | true =>
    rw [hsk] at hs
    apply wc_condTb; exact rfl; exact rfl; refine wc_sr ?_; refine wl_mv rfl rfl ?_; apply wl_val; apply opv_fa; exact fa_sAct (by decide); exact rfl; exact rfl; apply wl_val; apply opv_ldX; exact rfl; exact hs.ar 0 rfl; exact e1_by; exact rfl; exact rfl
    refine wl_call ok_caissonref01_Copy (copy_any (hkm hs.1) rfl (by omega)) ⟨rfl, trivial⟩ rfl ?_; rintro _ _ ⟨C, e, rfl, o_, hbx⟩; replace hs := hs.newO hbx o_ (Nat.le_refl _); try dsimp only [List.cons_append, List.nil_append, setC, delC] at hs
    replace hs := hs.front 2 rfl
    dsimp only [delC] at hs
    obtain ⟨S2, hS2, _, _, hH2, hB⟩ := St.lend (H1 := [.ck (strC g lf)]) (H2 := [.ow 5 C a.key.length e (bvs a.key), .blk g18 72 [.bool true, .slice Ka a.key.length ca]]) hs
    skip
    refine wl_call ok_merge_Stream_Seek (seek_any (key := a.key) hS2 rfl fun w' hm => ?_) ⟨rfl, rfl, trivial⟩ rfl ?_
    · obtain ⟨T, _, h1, _⟩ := hH2 w' hm
      exact h1.2.rd
    rintro _ w12 ⟨rfl, hsx⟩
    replace hs := (hB _ _ hsx).drop 1 rfl
    clear hB hsx hS2 hH2
    dsimp only [List.cons_append, List.nil_append, delC] at hs
    refine wl_ns ?_; refine wc_seq ?_; refine wc_block ?_
    refine wc_loop (fun L wr mm => ∃ (l2 : List En) (P2 : Option Addr) (c2 : Nat), L = [(9, .pointer (some ⟨g, 0, none⟩)), (16, .slice P2 l2.length c2), (18, .pointer (some ⟨g18, 0, none⟩)), (76, .slice (some ⟨b, o, none⟩) acts.length cb), (77, .int .i64 (acts.length : Int)), (78, .int .i64 (k : Int))] ∧ l2.length ≤ c2 ∧ l2.length ≤ 1048576 ∧ (∀ x ∈ l2, x.key.length ≤ 1048576 ∧ x.val.length ≤ 1048576) ∧ RdR 4 w10 SL P2 (l2.map enEl) ∧ l2.dropWhile (fun z => decide (cmpB z.key a.key < 0)) = lf.dropWhile (fun z => decide (cmpB z.key a.key < 0)) ∧ St M6 w10 wr [.ck (strC g (lf.dropWhile fun z => decide (cmpB z.key a.key < 0))), .blk g18 72 [.bool true, .slice Ka a.key.length ca]] ∧ mm = l2.length)
      [(9, .pointer (some ⟨g, 0, none⟩)), (16, .slice Pl lf.length cl), (18, .pointer (some ⟨g18, 0, none⟩)), (76, .slice (some ⟨b, o, none⟩) acts.length cb), (77, .int .i64 (acts.length : Int)), (78, .int .i64 (k : Int))] lf.length ⟨lf, Pl, cl, rfl, hcl, hll, hlk, hlf, rfl, hs, rfl⟩ ⟨rfl, rfl, rfl, rfl, rfl, rfl, trivial⟩ ?_
    clear hs
    rintro _ w13 mm ⟨l2, P2, c2, rfl, hc2, hn2, hk2, hl2r, hdw, hs, rfl⟩
    cases l2 with
    | nil =>
      have h3 : ¬ (0 : Int) < ((([] : List En).length : Nat) : Int) := by decide
      refine wc_seq ?_; refine wc_seq ?_
      refine wc_drawB mixed (by kernel_rfl) ?_
      apply wq_val; intro _ hw_; apply opv_move; exact rfl; exact rfl; apply wq_val; intro _ hw_; apply opv_len; exact rfl; exact tkE.sl; exact rfl; apply wq_val; intro _ hw_; apply opv_bin; exact rfl; exact rfl; exact bin_gtr; exact rfl; apply wq_val; intro _ hw_; apply opv_move; exact rfl; exact rfl; apply wq_skip; exact rfl; exact rfl; exact rfl; refine bFn ?_; (with_reducible assumption); exact rfl; apply wq_skip; exact rfl; exact rfl; exact rfl; refine bFn ?_; (with_reducible assumption); exact rfl; apply wq_skip; exact rfl; exact rfl; exact rfl; refine bFn ?_; (with_reducible assumption); exact rfl; apply wq_skip; exact rfl; exact rfl; exact rfl; refine bFn ?_; (with_reducible assumption); exact rfl; apply wq_skip; exact rfl; exact rfl; exact rfl; refine bFn ?_; (with_reducible assumption); exact rfl; apply wq_skip; exact rfl; exact rfl; exact rfl; refine bFn ?_; (with_reducible assumption); exact rfl; apply wq_skip; exact rfl; exact rfl; exact rfl; refine bFn ?_; (with_reducible assumption); exact rfl; apply wq_skip; exact rfl; exact rfl; exact rfl; refine bFn ?_; (with_reducible assumption); exact rfl; apply wq_val; intro _ hw_; apply opv_pickF; exact rfl; refine bF ?_; (with_reducible assumption); exact rfl; exact rfl; refine wq_nil fun w1 hw1 => ?_
      replace hs := (hs.below hw1).drop 1 rfl
      dsimp only [delC] at hs
      rw [← hdw] at hs
      refine we_seq ?_; apply wc_condFb; exact rfl; exact rfl; refine wc_exit ?_; refine we_seq_exit ?_; refine we_loop_exit ?_; refine we_block_exit ?_; refine we_seq ?_; refine wc_exit ?_; refine we_seq_exit ?_; refine we_block_exit ?_; refine we_seq ?_; refine wc_region ?_; apply wl_val; apply opv_bin; exact rfl; exact rfl; exact bin_add64 (by omega); exact rfl; refine wl_mv rfl rfl ?_; refine wl_nil ?_
      refine we_loop _ (acts.length - (k + 1)) ⟨k + 1, [], P2, c2, rfl, by omega, hc2, hn2, hk2, hl2r, hs, rfl⟩ (by omega) ⟨rfl, rfl, rfl, rfl, by simp [lookT], trivial⟩
    | cons y l2 =>
      have h3 : (0 : Int) < (((y :: l2).length : Nat) : Int) := by simp
      have h3n : 0 < (y :: l2).length := by simp
      obtain ⟨hy1, hy2⟩ := hk2 y List.mem_cons_self
      obtain ⟨b2, o2, cs2, hqq, hSb2, _, hp2, j0⟩ := RdR.at (k := 4) (by decide) hl2r (E := enEl y) (i := 0) rfl
      obtain ⟨Y, cy, Y2, cy2, rfl, _⟩ := enEl.rd hp2
      have ry : ∀ {wr : World}, Mod M6 w10 wr → RdB wr Y y.key := fun hm => by
        obtain ⟨A', c', B', d', he, h, _⟩ := enEl.rd (El.all (hm.el hdl hp2))
        simp only [enV, List.cons.injEq, Value.slice.injEq, true_and, and_true] at he
        rw [he.1.1]; exact h
      have j1 := hs.1.wi (hdl b2 j0.1 hSb2) j0
      unfold enV at j1
      subst hqq
      by_cases hlt : cmpB y.key a.key < 0
      · refine wc_seq ?_; refine wc_seq ?_
        refine wc_drawB mixed (by kernel_rfl) ?_
        apply wq_val; intro _ hw_; apply opv_move; exact rfl; exact rfl; apply wq_val; intro _ hw_; apply opv_len; exact rfl; exact tkE.sl; exact rfl; apply wq_val; intro _ hw_; apply opv_bin; exact rfl; exact rfl; exact bin_gtr; exact rfl; apply wq_val; intro _ hw_; apply opv_move; exact rfl; exact rfl; apply wq_take; exact rfl; exact rfl; exact rfl; refine bT ?_; (with_reducible assumption); apply wq_val; intro _ hw_; apply opv_move; exact rfl; exact rfl; apply wq_take; exact rfl; exact rfl; exact rfl; refine bT ?_; (with_reducible assumption); apply wq_val; intro _ hw_; apply opv_idxG tkE; exact rfl; exact rfl; exact rfl; omega; exact rfl; apply wq_take; exact rfl; exact rfl; exact rfl; refine bT ?_; (with_reducible assumption); apply wq_val; intro _ hw_; apply opv_fa; exact fa_sE (by decide); exact rfl; exact rfl; apply wq_take; exact rfl; exact rfl; exact rfl; refine bT ?_; (with_reducible assumption); apply wq_val; intro _ hw_; apply opv_ldW; exact rfl; exact Wi.below (by assumption) hw_; exact e1_by; exact rfl; exact rfl; apply wq_take; exact rfl; exact rfl; exact rfl; refine bT ?_; (with_reducible assumption); apply wq_val; intro _ hw_; apply opv_fa; exact fa_sAct (by decide); exact rfl; exact rfl; apply wq_take; exact rfl; exact rfl; exact rfl; refine bT ?_; (with_reducible assumption); apply wq_val; intro _ hw_; apply opv_ldX; exact rfl; exact Ar.bel (hs.ar 1 rfl) hw_; exact e1_by; exact rfl; exact rfl; apply wq_take; exact rfl; exact rfl; exact rfl; refine bT ?_; (with_reducible assumption)
        refine wq_call (v := .int .i64 (cmpB y.key a.key)) ok_caissonref01_Cmp (fun w' hw => (refCmp_any ((ry hs.1).below hw) ((hkm hs.1).below hw) rfl rfl (by simp only [maxLen]; omega) (by simp only [maxLen]; omega)).mono fun v w2 ⟨hv, h2⟩ => ⟨hv, hw.trans (h2.mono hw.size)⟩) ⟨rfl, rfl, trivial⟩ rfl ?_
        apply wq_take; exact rfl; exact rfl; exact rfl; refine bT ?_; (with_reducible assumption); apply wq_val; intro _ hw_; apply opv_bin; exact rfl; exact rfl; exact bin_lss; exact rfl; apply wq_val; intro _ hw_; apply opv_pickT; exact rfl; refine bT ?_; (with_reducible assumption); exact rfl; exact rfl; refine wq_nil fun w1 hw1 => ?_
        replace hs := hs.below hw1
        refine we_seq ?_; apply wc_decT; exact rfl; (with_reducible assumption); refine wc_skip ?_; refine we_seq ?_; refine wc_block ?_; refine wc_region ?_; refine wl_mv rfl rfl ?_
        refine wl_slK (l := 1) (h := (y :: l2).length) tkE rfl ⟨_, rfl⟩ rfl (by simp) hc2 rfl ?_
        refine wl_as rfl rfl ?_; refine wl_nil ?_; refine we_block_norm ?_
        have hcut := RdR.cut hl2r (by rw [List.length_map]) (l := 1) (h := (y :: l2).length) (by simp) (Nat.le_refl _) hc2
        refine we_loop _ l2.length ⟨l2, cutK (some ⟨b2, o2, none⟩) c2 1 4, c2 - 1, rfl, by simp at hc2; omega, by simp at hn2; omega, fun x h => hk2 x (List.mem_cons_of_mem _ h), ?_, ?_, hs, rfl⟩ (by simp) ⟨rfl, rfl, rfl, rfl, rfl, rfl, trivial⟩
        · have e : (((y :: l2).map enEl).take (y :: l2).length).drop 1 = l2.map enEl := by
            rw [List.take_of_length_le (by rw [List.length_map]; exact Nat.le_refl _)]; rfl
          rwa [e] at hcut
        · rw [← hdw, List.dropWhile_cons, if_pos (by simpa using hlt)]
      · have hdw2 : (y :: l2).dropWhile (fun z => decide (cmpB z.key a.key < 0)) = y :: l2 := by rw [List.dropWhile_cons, if_neg (by simpa using hlt)]
        refine wc_seq ?_; refine wc_seq ?_
        refine wc_drawB mixed (by kernel_rfl) ?_
        apply wq_val; intro _ hw_; apply opv_move; exact rfl; exact rfl; apply wq_val; intro _ hw_; apply opv_len; exact rfl; exact tkE.sl; exact rfl; apply wq_val; intro _ hw_; apply opv_bin; exact rfl; exact rfl; exact bin_gtr; exact rfl; apply wq_val; intro _ hw_; apply opv_move; exact rfl; exact rfl; apply wq_take; exact rfl; exact rfl; exact rfl; refine bT ?_; (with_reducible assumption); apply wq_val; intro _ hw_; apply opv_move; exact rfl; exact rfl; apply wq_take; exact rfl; exact rfl; exact rfl; refine bT ?_; (with_reducible assumption); apply wq_val; intro _ hw_; apply opv_idxG tkE; exact rfl; exact rfl; exact rfl; omega; exact rfl; apply wq_take; exact rfl; exact rfl; exact rfl; refine bT ?_; (with_reducible assumption); apply wq_val; intro _ hw_; apply opv_fa; exact fa_sE (by decide); exact rfl; exact rfl; apply wq_take; exact rfl; exact rfl; exact rfl; refine bT ?_; (with_reducible assumption); apply wq_val; intro _ hw_; apply opv_ldW; exact rfl; exact Wi.below (by assumption) hw_; exact e1_by; exact rfl; exact rfl; apply wq_take; exact rfl; exact rfl; exact rfl; refine bT ?_; (with_reducible assumption); apply wq_val; intro _ hw_; apply opv_fa; exact fa_sAct (by decide); exact rfl; exact rfl; apply wq_take; exact rfl; exact rfl; exact rfl; refine bT ?_; (with_reducible assumption); apply wq_val; intro _ hw_; apply opv_ldX; exact rfl; exact Ar.bel (hs.ar 1 rfl) hw_; exact e1_by; exact rfl; exact rfl; apply wq_take; exact rfl; exact rfl; exact rfl; refine bT ?_; (with_reducible assumption)
        refine wq_call (v := .int .i64 (cmpB y.key a.key)) ok_caissonref01_Cmp (fun w' hw => (refCmp_any ((ry hs.1).below hw) ((hkm hs.1).below hw) rfl rfl (by simp only [maxLen]; omega) (by simp only [maxLen]; omega)).mono fun v w2 ⟨hv, h2⟩ => ⟨hv, hw.trans (h2.mono hw.size)⟩) ⟨rfl, rfl, trivial⟩ rfl ?_
        apply wq_take; exact rfl; exact rfl; exact rfl; refine bT ?_; (with_reducible assumption); apply wq_val; intro _ hw_; apply opv_bin; exact rfl; exact rfl; exact bin_lss; exact rfl; apply wq_val; intro _ hw_; apply opv_pickT; exact rfl; refine bT ?_; (with_reducible assumption); exact rfl; exact rfl; refine wq_nil fun w1 hw1 => ?_
        replace hs := (hs.below hw1).drop 1 rfl
        dsimp only [delC] at hs
        rw [← hdw, hdw2] at hs
        refine we_seq ?_; apply wc_decF; exact rfl; (with_reducible assumption); refine wc_exit ?_; refine we_seq_exit ?_; refine we_loop_exit ?_; refine we_block_exit ?_; refine we_seq ?_; refine wc_exit ?_; refine we_seq_exit ?_; refine we_block_exit ?_; refine we_seq ?_; refine wc_region ?_; apply wl_val; apply opv_bin; exact rfl; exact rfl; exact bin_add64 (by omega); exact rfl; refine wl_mv rfl rfl ?_; refine wl_nil ?_
        refine we_loop _ (acts.length - (k + 1)) ⟨k + 1, y :: l2, some ⟨b2, o2, none⟩, c2, rfl, by omega, hc2, hn2, hk2, hl2r, hs, rfl⟩ (by omega) ⟨rfl, rfl, rfl, rfl, by simp [lookT], trivial⟩
  | false =>
    rw [hsk] at hs
    apply wc_condFb; exact rfl; exact rfl; refine wc_skip ?_; refine we_seq ?_; refine wc_sr ?_; refine wl_mv rfl rfl ?_
    replace hs := (hs.drop 0 rfl)
    dsimp only [delC] at hs
    obtain ⟨S2, hS2, _, _, _, hB⟩ := St.lend (H1 := [.ck (strC g lf)]) (H2 := []) hs
    refine wl_call ok_merge_Stream_Next (next_any hS2) ⟨rfl, trivial⟩ rfl ?_
    intro v w12 hv
    cases lf with
    | nil =>
      obtain ⟨rfl, hsx⟩ := hv
      replace hs := hB _ _ hsx
      dsimp only [List.cons_append, List.nil_append] at hs
      have h3 : ¬ (0 : Int) < ((([] : List En).length : Nat) : Int) := by decide
      refine wl_mv rfl rfl ?_; apply wl_val; apply opv_extract; exact rfl; exact rfl; exact rfl; apply wl_val; apply opv_extract; exact rfl; exact rfl; exact rfl
      refine ws_new hs zeroE rfl ?_; clear hs; intro g19 _ hs
      apply ws_stS hs 0; exact rfl; exact rfl; exact rfl; exact sE; exact rfl; exact rfl; clear hs; intro _ hs; dsimp only [setC] at hs; refine wl_as rfl rfl ?_; refine wl_ns ?_; refine wc_seq ?_; refine wc_seq ?_
      refine wc_drawB mixed (by kernel_rfl) ?_
      apply wq_val; intro _ hw_; apply opv_move; exact rfl; exact rfl; apply wq_val; intro _ hw_; apply opv_move; exact rfl; exact rfl; apply wq_val; intro _ hw_; apply opv_len; exact rfl; exact tkE.sl; exact rfl; apply wq_val; intro _ hw_; apply opv_bin; exact rfl; exact rfl; exact bin_gtr; exact rfl; apply wq_val; intro _ hw_; apply opv_bin; exact rfl; exact rfl; exact bin_neqB tyBool; exact rfl; apply wq_val; intro _ hw_; apply opv_move; exact rfl; exact rfl; apply wq_take; exact rfl; exact rfl; exact rfl; exact rfl; apply wq_val; intro _ hw_; apply opv_move; exact rfl; exact rfl; apply wq_take; exact rfl; exact rfl; exact rfl; exact rfl; apply wq_val; intro _ hw_; apply opv_move; exact rfl; exact rfl; apply wq_skip; exact rfl; exact rfl; exact rfl; exact bR2; exact rfl; apply wq_skip; exact rfl; exact rfl; exact rfl; exact bR2; exact rfl; apply wq_skip; exact rfl; exact rfl; exact rfl; exact bR2; exact rfl; apply wq_skip; exact rfl; exact rfl; exact rfl; exact bR2; exact rfl; apply wq_skip; exact rfl; exact rfl; exact rfl; exact bR2; exact rfl; apply wq_skip; exact rfl; exact rfl; exact rfl; exact bR2; exact rfl; apply wq_take; exact rfl; exact rfl; exact rfl; exact rfl; apply wq_val; intro _ hw_; apply opv_pickF; exact rfl; exact rfl; exact rfl; exact rfl; apply wq_val; intro _ hw_; apply opv_pickF; exact rfl; exact rfl; exact rfl; exact rfl; refine wq_nil fun w1 hw1 => ?_
      replace hs := (hs.below hw1).drop 0 rfl
      dsimp only [delC] at hs
      refine we_seq ?_; apply wc_condFb; exact rfl; exact rfl; refine wc_skip ?_; refine we_seq ?_; refine wc_sr ?_; refine wl_mv rfl rfl ?_; refine wl_ns ?_; apply wc_condFb; exact rfl; exact rfl; refine wc_skip ?_; refine we_block_norm ?_; refine we_seq ?_; refine wc_region ?_; apply wl_val; apply opv_bin; exact rfl; exact rfl; exact bin_add64 (by omega); exact rfl; refine wl_mv rfl rfl ?_; refine wl_nil ?_
      refine we_loop _ (acts.length - (k + 1)) ⟨k + 1, [], Pl, cl, rfl, by omega, hcl, hll, hlk, hlf, hs, rfl⟩ (by omega) ⟨rfl, rfl, rfl, rfl, by simp [lookT], trivial⟩
    | cons x lf =>
      obtain ⟨X, cx, X2, cx2, rfl, hsx⟩ := hv
      replace hs := hB _ _ hsx
      dsimp only [List.cons_append, List.nil_append, enOw] at hs
      have h3 : (0 : Int) < (((x :: lf).length : Nat) : Int) := by simp
      have hbb : ¬ (true ≠ decide ((0 : Int) < (((x :: lf).length : Nat) : Int))) := by simp
      have h3n : 0 < (x :: lf).length := by simp
      obtain ⟨hy1, hy2⟩ := hlk x List.mem_cons_self
      obtain ⟨b2, o2, cs2, hqq, hSb2, _, hp2, j0⟩ := RdR.at (k := 4) (by decide) hlf (E := enEl x) (i := 0) rfl
      obtain ⟨Y, cy, Y2, cy2, rfl, _⟩ := enEl.rd hp2
      have ry : ∀ {wr : World}, Mod M6 w10 wr → RdB wr Y x.key ∧ RdB wr Y2 x.val := fun hm => by
        obtain ⟨A', c', B', d', he, h, _, h2, _⟩ := enEl.rd (El.all (hm.el hdl hp2))
        simp only [enV, List.cons.injEq, Value.slice.injEq, true_and, and_true] at he
        rw [he.1.1, he.2.1]; exact ⟨h, h2⟩
      subst hqq
      refine wl_mv rfl rfl ?_; apply wl_val; apply opv_extract; exact rfl; exact rfl; exact rfl; apply wl_val; apply opv_extract; exact rfl; exact rfl; exact rfl
      refine ws_new hs zeroE rfl ?_; clear hs; intro g19 _ hs
      apply ws_stS hs 0; exact rfl; exact rfl; exact rfl; exact sE; exact rfl; exact rfl; clear hs; intro _ hs; dsimp only [setC] at hs; refine wl_as rfl rfl ?_; refine wl_ns ?_; refine wc_seq ?_; refine wc_seq ?_
      have j1 := hs.1.wi (hdl b2 j0.1 hSb2) j0
      have rx1 : RdB _ X x.key := (hs.ow 1 rfl).rd
      have rx2 : RdB _ X2 x.val := (hs.ow 2 rfl).rd
      refine wc_drawB mixed (by kernel_rfl) ?_
      apply wq_val; intro _ hw_; apply opv_move; exact rfl; exact rfl; apply wq_val; intro _ hw_; apply opv_move; exact rfl; exact rfl; apply wq_val; intro _ hw_; apply opv_len; exact rfl; exact tkE.sl; exact rfl; apply wq_val; intro _ hw_; apply opv_bin; exact rfl; exact rfl; exact bin_gtr; exact rfl; apply wq_val; intro _ hw_; apply opv_bin; exact rfl; exact rfl; exact bin_neqB tyBool; exact rfl; apply wq_val; intro _ hw_; apply opv_move; exact rfl; exact rfl; apply wq_take; exact rfl; exact rfl; exact rfl; refine bF ?_; (with_reducible assumption); apply wq_val; intro _ hw_; apply opv_move; exact rfl; exact rfl; apply wq_take; exact rfl; exact rfl; exact rfl; refine bF ?_; (with_reducible assumption); apply wq_val; intro _ hw_; apply opv_move; exact rfl; exact rfl; apply wq_take; exact rfl; exact rfl; exact rfl; exact rfl; apply wq_val; intro _ hw_; apply opv_loadX; exact rfl; exact Ar.bel (hs.ar 0 rfl) hw_; exact sE; exact rfl; apply wq_take; exact rfl; exact rfl; exact rfl; exact rfl; apply wq_val; intro _ hw_; apply opv_move; exact rfl; exact rfl; apply wq_take; exact rfl; exact rfl; exact rfl; exact rfl; apply wq_val; intro _ hw_; apply opv_idxG tkE; exact rfl; exact rfl; exact rfl; omega; exact rfl; apply wq_take; exact rfl; exact rfl; exact rfl; exact rfl; apply wq_val; intro _ hw_; apply opv_ldG; exact rfl; exact Wi.below (by assumption) hw_; exact sE; exact rfl; apply wq_take; exact rfl; exact rfl; exact rfl; exact rfl
      refine wq_call (v := .bool true) ok_caissonref07_Same (fun w' hw => (sameE_any (x := x) (y := x) (rx1.below hw) (rx2.below hw) ((ry hs.1).1.below hw) ((ry hs.1).2.below hw) (by simp only [maxLen]; omega) (by simp only [maxLen]; omega)).mono fun v w2 ⟨⟨q, hv, hi⟩, h2⟩ => ⟨by rw [hv, hi.2 rfl], hw.trans (h2.mono hw.size)⟩) ⟨rfl, rfl, trivial⟩ rfl ?_
      apply wq_take; exact rfl; exact rfl; exact rfl; exact rfl; apply wq_val; intro _ hw_; apply opv_not; exact rfl; exact rfl; apply wq_take; exact rfl; exact rfl; exact rfl; refine bF ?_; (with_reducible assumption); apply wq_val; intro _ hw_; apply opv_pickT; exact rfl; exact rfl; exact rfl; exact rfl; apply wq_val; intro _ hw_; apply opv_pickF; exact rfl; refine bF ?_; (with_reducible assumption); exact rfl; exact rfl; refine wq_nil fun w1 hw1 => ?_
      replace hs := hs.below hw1
      clear rx1 rx2
      unfold enV at hs
      refine we_seq ?_; apply wc_condFb; exact rfl; exact Bool.not_true; refine wc_skip ?_; refine we_seq ?_; refine wc_sr ?_; refine wl_mv rfl rfl ?_; refine wl_ns ?_; apply wc_condTb; exact rfl; exact rfl; refine wc_sr ?_; apply wl_val; apply opv_fa; exact fa_sE (by decide); exact rfl; exact rfl; apply wl_val; apply opv_ldX; exact rfl; exact hs.ar 0 rfl; exact e1_by; exact rfl; exact rfl
      replace hs := (hs.front 1 rfl).map (H' := .ck (jk X x.key.length cx) :: _) fun _ h => h.mapC fun _ h => jk_of h
      dsimp only [delC] at hs
      obtain ⟨S2, hS2, _, _, _, hB⟩ := St.lend (H1 := [.ck (jk X x.key.length cx)]) hs
      refine wl_call ok_caissonref01_Over (over_jk hS2 (by omega)) ⟨rfl, trivial⟩ rfl ?_
      rintro _ w13 ⟨rfl, hsx⟩
      replace hs := (hB _ _ hsx).drop 0 rfl
      dsimp only [delC, List.cons_append, List.nil_append] at hs
      clear hB hsx hS2
      refine wl_ns ?_; refine wc_sr ?_; apply wl_val; apply opv_fa; exact fa_sE (by decide); exact rfl; exact rfl; apply wl_val; apply opv_ldX; exact rfl; exact hs.ar 0 rfl; exact e1_by; exact rfl; exact rfl
      replace hs := (hs.front 1 rfl).map (H' := .ck (jk X2 x.val.length cx2) :: _) fun _ h => h.mapC fun _ h => jk_of h
      dsimp only [delC] at hs
      obtain ⟨S2, hS2, _, _, _, hB⟩ := St.lend (H1 := [.ck (jk X2 x.val.length cx2)]) hs
      refine wl_call ok_caissonref01_Over (over_jk hS2 (by omega)) ⟨rfl, trivial⟩ rfl ?_
      rintro _ w14 ⟨rfl, hsx⟩
      replace hs := ((hB _ _ hsx).drop 0 rfl).drop 0 rfl
      dsimp only [delC, List.cons_append, List.nil_append] at hs
      clear hB hsx hS2
      refine wl_ns ?_; refine wc_region ?_; refine wl_mv rfl rfl ?_
      refine wl_slK (l := 1) (h := (x :: lf).length) tkE rfl ⟨_, rfl⟩ rfl (by simp) hcl rfl ?_
      refine wl_as rfl rfl ?_; refine wl_nil ?_; refine we_block_norm ?_; refine we_seq ?_; refine wc_region ?_; apply wl_val; apply opv_bin; exact rfl; exact rfl; exact bin_add64 (by omega); exact rfl; refine wl_mv rfl rfl ?_; refine wl_nil ?_
      have hcut := RdR.cut hlf (by rw [List.length_map]) (l := 1) (h := (x :: lf).length) (by simp) (Nat.le_refl _) hcl
      refine we_loop _ (acts.length - (k + 1)) ⟨k + 1, lf, cutK (some ⟨b2, o2, none⟩) cl 1 4, cl - 1, rfl, by omega, by simp at hcl; omega, by simp at hll; omega, fun x h => hlk x (List.mem_cons_of_mem _ h), ?_, hs, rfl⟩ (by omega) ⟨rfl, rfl, rfl, rfl, by simp [lookT], trivial⟩
      have e : (((x :: lf).map enEl).take (x :: lf).length).drop 1 = lf.map enEl := by
        rw [List.take_of_length_le (by rw [List.length_map]; exact Nat.le_refl _)]; rfl
      rwa [e] at hcut
end Go.Proofs.Ytpnckagibkdcpaa
