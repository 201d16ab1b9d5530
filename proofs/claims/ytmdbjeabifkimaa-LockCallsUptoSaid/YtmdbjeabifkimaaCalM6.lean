/-
  The texts of this proof, joined: Nz, Dc, Dd, De, Kc, Kd, Ke, Df, Dg, Dh, Dj, Dk, Dl.
-/
import Derived.Test.YtmdbjeabifkimaaCalM5
import Derived.Test.YtmdbjeabifkimaaCalM4
import Derived.Test.YtmdbjeabifkimaaCalM3
import Derived.Test.YtmdbjeabifkimaaCalM2

/-
  Walk over the law LockApart.
-/
namespace Go.Proofs.Ytmdbjeabifkimaa
open Go.RowKit

theorem for_of {tb : Tb} (h : Wf tb) {o : Ownr} (ho : o ∈ tb.os) (hq : o.x ∈ tb.qu) : forT tb o.x = bnames tb o := by rw [forT, ownO_of h.nd ho]; exact if_pos hq
theorem for_ed {tb : Tb} (h : Wf tb) {x y : Tx} : y ∈ forT tb x ↔ Ed tb x y := by
  by_cases hq : x ∈ tb.qu
  · obtain ⟨o, ho, rfl⟩ := List.mem_map.1 (h.sub x hq)
    rw [for_of h ho hq, ed_bnames h ho hq]
  · constructor
    · intro hy
      unfold forT at hy
      cases ho : ownO tb x with
      | none => rw [ho] at hy; cases hy
      | some o => rw [ho] at hy; dsimp only at hy; rw [if_neg hq] at hy; cases hy
    · exact fun he => absurd he.1 hq
theorem for_len {tb : Tb} (h : Wf tb) (x : Tx) : (forT tb x).length ≤ tb.os.length := by
  unfold forT
  cases ho : ownO tb x with
  | none => exact Nat.zero_le _
  | some o => dsimp only; split; exact bnames_len tb o; exact Nat.zero_le _
theorem ed_name {tb : Tb} {x y : Tx} (h : Ed tb x y) : y ∈ names tb := by
  obtain ⟨_, o, ho, _, p, hp, rfl⟩ := h
  exact List.mem_map_of_mem (List.mem_filter.1 hp).1
/-- Who was seen on the way from x, by waiting. -/
structure BfI (tb : Tb) (x : Tx) (seen : List Tx) : Prop where
  nd : seen.Nodup
  sub : ∀ y ∈ seen, y ∈ names tb
  rch : ∀ y ∈ seen, y = x ∨ Relation.TransGen (Ed tb) x y
theorem BfI.to {tb : Tb} {x y z : Tx} {seen : List Tx} (h : BfI tb x seen) (hz : z ∈ seen) (he : Ed tb z y) : Relation.TransGen (Ed tb) x y := by
  rcases h.rch z hz with rfl | k
  · exact .single he
  · exact .tail k he
theorem BfI.add {tb : Tb} {x y z : Tx} {seen : List Tx} (h : BfI tb x seen) (hz : z ∈ seen) (he : Ed tb z y) (hy : y ∉ seen) : BfI tb x (seen ++ [y]) where
  nd := by
    rw [List.nodup_append]
    exact ⟨h.nd, by simp, fun a ha b hb => by rw [List.mem_singleton] at hb; subst hb; exact fun e => hy (e ▸ ha)⟩
  sub := fun a ha => by
    rcases List.mem_append.1 ha with ha | ha
    · exact h.sub a ha
    · rw [List.mem_singleton.1 ha]; exact ed_name he
  rch := fun a ha => by
    rcases List.mem_append.1 ha with ha | ha
    · exact h.rch a ha
    · rw [List.mem_singleton.1 ha]; exact .inr (h.to hz he)
theorem BfI.len {tb : Tb} {x : Tx} {seen : List Tx} (h : BfI tb x seen) : seen.length ≤ tb.os.length := by rw [← names_len]; exact len_of_sub h.nd h.sub
end Go.Proofs.Ytmdbjeabifkimaa

/-
  Rows of byte lists that are partly old; walk over put of locks.
-/
namespace Go.Proofs.Ytmdbjeabifkimaa
open Go.RowKit

/-- Bytes of old memory, or of one's own. -/
def byO (w0 : World) (xs : List UInt8) : El where
  P w S cs := ∃ (A : Option Addr) (c : Nat), cs = [.slice A xs.length c] ∧ xs.length ≤ c ∧ (RdB w0 A xs ∨ (byEl xs).P w S [.slice A xs.length c])
  move := by
    rintro w w' S S' cs ⟨A, c, h, hc, h1⟩ hz hm
    exact ⟨A, c, h, hc, h1.imp id fun h => El.move _ h hz hm⟩
theorem byO.rd {w0 w : World} {S : BS} {xs : List UInt8} {cs : List Value} (h : (byO w0 xs).P w S cs) (hb : Below w0.heap.size w0 w) : ∃ (A : Option Addr) (c : Nat), cs = [.slice A xs.length c] ∧ RdB w A xs ∧ xs.length ≤ c := by
  obtain ⟨A, c, h1, h2, h3⟩ := h
  refine ⟨A, c, h1, ?_, h2⟩
  rcases h3 with h3 | h3
  · exact h3.below hb
  · exact (byE.rd h3).1
theorem rdr_rdBB {w0 w : World} {S : BS} {A : Option Addr} {rows : List (List UInt8)} (h : RdR 1 w S A (rows.map (byO w0))) (hb : Below w0.heap.size w0 w) : RdBB w A rows := by
  obtain ⟨css, h1, h2, _⟩ := h
  rw [List.length_map, Nat.mul_one] at h2
  refine ⟨css.flatten, h2, fun i r hi => ?_⟩
  have hlt := (List.getElem?_eq_some_iff.1 hi).1
  have hl : css.length = rows.length := by rw [h1.1, List.length_map]
  obtain ⟨h3, E, h4, h5⟩ := h1.2 i css[i] (List.getElem?_eq_getElem (by omega))
  rw [List.getElem?_map, hi] at h4
  simp only [Option.map_some, Option.some.injEq] at h4
  subst h4
  obtain ⟨A', c', h6, h7, h8⟩ := byO.rd h5 hb
  refine ⟨A', c', ?_, h7, h8⟩
  have h9 := flat_get (k := 1) (css := css) (i := i) (j := 0) (u := .slice A' r.length c') (fun cs hcs => by
    obtain ⟨j, hj, rfl⟩ := List.getElem_of_mem hcs
    exact (h1.2 j _ (List.getElem?_eq_getElem hj)).1) (List.getElem?_eq_getElem (by omega)) (by rw [h6]; rfl)
  simpa using h9
/-- The last elements of a row, told with memory that stands beside it. -/
theorem rg_tail {k c : Nat} {e : TypeId} {A : Option Addr} {els els2 : List El} {css : List (List Value)} {X : Cd} {w : World} {H : List Cd} {S : BS} (hX : ∀ U, X.P w U → Grp k w U els2 css) (h : Sat w (.rg k e A c (els ++ css.map rawEl) :: X :: H) S) : Sat w (.rg k e A c (els ++ els2) :: H) S := by
  obtain ⟨T, hT, ⟨hA, css', hg, ho⟩, U, hU, hc, hr⟩ := h
  have hx := hX U hc
  have hxl : css.length = els2.length := hx.1
  refine ⟨fun b => T b ∨ U b, fun b hb => hb.elim (hT b) fun h => (hU b h).1, ⟨fun a ha => .inl (hA a ha), css', ⟨by rw [hg.1]; simp [hxl], fun i cs' hi => ?_⟩, by simpa [hxl] using ho⟩, hr.mono fun b _ hb => ⟨hb.1.1, fun k => k.elim hb.1.2 hb.2⟩⟩
  obtain ⟨h1, E', h2, h3⟩ := hg.2 i cs' hi
  refine ⟨h1, ?_⟩
  by_cases hlt : i < els.length
  · rw [List.getElem?_append_left hlt] at h2 ⊢
    exact ⟨E', h2, El.mono h3 fun b _ hb => ⟨.inl hb.1, hb.2⟩⟩
  · rw [List.getElem?_append_right (by omega)] at h2 ⊢
    rw [List.getElem?_map] at h2
    cases hcj : css[i - els.length]? with
    | none => rw [hcj] at h2; cases h2
    | some cs =>
      rw [hcj] at h2
      simp only [Option.map_some, Option.some.injEq] at h2
      subst h2
      obtain rfl : cs' = cs := h3
      obtain ⟨_, E2, h5, h6⟩ := hx.2 _ _ hcj
      exact ⟨E2, h5, El.mono h6 fun b _ hb => ⟨.inr hb, fun a ha hk => (hU b hb).2 (hk ▸ hA a ha)⟩⟩
theorem tkBB : RowK Try.prog 64 51 1 (.slice none 0 0) 24 := ⟨Try.underlying64, by kernel_rfl, rfl, by decide⟩
theorem tail3 {w0 w : World} {U : BS} {f x y : List UInt8} {F X Y : Option Addr} {fc xc yc : Nat} (hf : f.length = 1) (h1 : Ow w 0 5 F 1 fc (bvs f)) (hU : ∀ a, F = some a → U a.block) (h2 : RdB w0 X x) (h2c : x.length ≤ xc) (h3 : RdB w0 Y y) (h3c : y.length ≤ yc) :
    Grp 1 w U ([f, x, y].map (byO w0)) [[.slice F 1 fc], [.slice X x.length xc], [.slice Y y.length yc]] := by
  have hF : (byEl f).P w U [.slice F f.length fc] := by
    refine byEl.mk ?_ ?_ fun a ha _ => hU a ha
    · have := h1.rd
      show Rd w F f.length (bvs f)
      rw [hf]; exact this
    · rw [hf]; exact ow_cap h1
  have g1 : Grp 1 w U [byO w0 f] [[.slice F 1 fc]] := Grp.one ⟨F, fc, by rw [hf], (byE.rd hF).2, .inr hF⟩ rfl
  have g2 : Grp 1 w U [byO w0 x] [[.slice X x.length xc]] := Grp.one ⟨X, xc, rfl, h2c, .inl h2⟩ rfl
  have g3 : Grp 1 w U [byO w0 y] [[.slice Y y.length yc]] := Grp.one ⟨Y, yc, rfl, h3c, .inl h3⟩ rfl
  exact (g1.append g2).append g3
theorem putR_take {l : List Rg} {k : Nat} {x : Rg} (h : l[k]? = some x) : putR (l.take (k + 1)) = putR (l.take k) ++ [flB x.ex, x.fr, x.to] := by
  rw [take_getR h, putR, List.flatMap_append]; simp [putR]
end Go.Proofs.Ytmdbjeabifkimaa

/-
  Walk over put of locks.
-/
namespace Go.Proofs.Ytmdbjeabifkimaa
open Go.RowKit

theorem flB_len (b : Bool) : (flB b).length = 1 := by cases b <;> rfl
theorem put_any {A : Option Addr} {n c : Nat} {l : List Rg} {w : World} (hr : RdR 3 w All A (l.map rgEl)) (hn : l.length = n) (hl : l.length ≤ 1048576) (hok : ∀ r ∈ l, okR r) :
    CallsV Try.prog 52 #[.slice A n c] w (RetB w (putB l)) := by
  subst hn
  have hs := (St.init w).nilG 1 51
  refine calls_in (N := _) Try.func52 rfl Try.ntmps52 rfl ?_; show WC _ _ _ _ _ _
  refine wc_sr ?_; refine wl_as rfl rfl ?_; refine wl_ns ?_; refine wc_sr ?_; refine wl_as rfl rfl ?_; refine wl_ns ?_; refine wc_seq ?_; refine wc_sr ?_; refine wl_mv rfl rfl ?_; apply wl_val; apply opv_len; exact rfl; exact tkR.sl; exact rfl; refine wl_mv rfl rfl ?_; refine wl_ns ?_; refine wc_block ?_
  refine wc_loop (fun L wr mm => ∃ (k : Nat) (P : Option Addr) (cp : Nat), L = [(3, .slice P (putR (l.take k)).length cp), (7, .slice A l.length c), (8, .int .i64 (l.length : Int)), (9, .int .i64 (k : Int))] ∧ k ≤ l.length ∧ St NoB w wr [.rg 1 51 P cp ((putR (l.take k)).map (byO w))] ∧ mm = l.length - k)
    [(3, .slice none 0 0), (7, .slice A l.length c), (8, .int .i64 (l.length : Int)), (9, .int .i64 (0 : Nat))] l.length ⟨0, none, 0, rfl, by omega, hs, rfl⟩ ⟨rfl, rfl, rfl, rfl, trivial⟩ ?_
  clear hs
  rintro _ w1 mm ⟨k, P, cp, rfl, hk, hs, rfl⟩
  refine wc_sr ?_; refine wl_bin rfl rfl bin_lss rfl ?_; refine wl_ns ?_; refine wc_seq ?_
  refine wc_cond rfl (fun h1 => ?_) (fun h1 => ?_)
  · obtain ⟨x, hx⟩ : ∃ x, l[k]? = some x := ⟨_, List.getElem?_eq_getElem (by omega)⟩
    have hox := okR_small (hok x (List.mem_of_getElem? hx))
    have hpl := putR_len (l.take k)
    rw [List.length_take, Nat.min_eq_left (by omega)] at hpl
    obtain ⟨bb, o, cs, rfl, _, _, hp, i1⟩ := RdR.at (k := 3) (by decide) hr (E := rgEl x) (i := k) (by rw [List.getElem?_map, hx]; rfl)
    obtain ⟨X, cx, Y, cy, rfl, rx, hcx, ry, hcy⟩ := rgEl.rd hp
    replace i1 := i1.below hs.bel
    refine wc_skip ?_; refine we_seq ?_; refine wc_seq ?_; refine wc_block ?_; refine wc_sr ?_; apply wl_val; apply opv_idxG tkR; exact rfl; exact rfl; exact rfl; omega; exact rfl; apply wl_val; apply opv_ldG; exact rfl; assumption; exact sR; exact rfl
    refine ws_var (cs := rgV x X cx Y cy) hs zeroRg sR rfl (fun _ => rfl) (by first | rfl | simp [Value.oneCell']) rfl ?_; clear hs; intro g5 _ hs
    unfold rgV at hs
    refine wl_ns ?_; refine wc_sr ?_
    refine ws_bs (vs := bvs [0]) hs tyB ⟨rfl, rfl, rfl, trivial⟩ rfl (by decide) rfl ?_
    clear hs; intro F w2 hs
    refine wl_as rfl rfl (wl_nil (we_seq ?_))
    refine wc_cut (fun L' w' => L' = [(3, .slice P (putR (l.take k)).length cp), (5, .pointer (some ⟨g5, 0, none⟩)), (6, .slice F 1 1), (7, .slice (some ⟨bb, o, none⟩) l.length c), (8, .int .i64 (l.length : Int)), (9, .int .i64 (k : Int))] ∧ St NoB w w' [.ow 5 F 1 1 (bvs (flB x.ex)), .blk g5 61 (rgV x X cx Y cy), .rg 1 51 P cp ((putR (l.take k)).map (byO w))]) ?_ ?_
    · cases he : x.ex with
      | true =>
        rw [he] at hs
        refine wc_sr ?_; apply wl_val; apply opv_fa; exact fa_sR (by decide); exact rfl; exact rfl; apply wl_val; apply opv_ldX; exact rfl; exact hs.ar 1 rfl; exact e1_bool; exact rfl; exact rfl; refine wl_ns ?_; apply wc_condTb; exact rfl; exact rfl; refine wc_region ?_; refine wl_mv rfl rfl ?_
        refine ws_set hs 0 rfl rfl tyB rfl rfl (show 0 < 1 by omega) (fun _ => rfl) rfl rfl ?_
        clear hs; intro _ w3 hs; dsimp only [setC] at hs
        refine wl_nil ?_
        exact we_cut _ ⟨rfl, by unfold rgV; rw [he]; exact hs⟩ ⟨rfl, rfl, rfl, rfl, rfl, rfl, trivial⟩
      | false =>
        rw [he] at hs
        refine wc_sr ?_; apply wl_val; apply opv_fa; exact fa_sR (by decide); exact rfl; exact rfl; apply wl_val; apply opv_ldX; exact rfl; exact hs.ar 1 rfl; exact e1_bool; exact rfl; exact rfl; refine wl_ns ?_; apply wc_condFb; exact rfl; exact rfl; refine wc_skip ?_
        exact we_cut _ ⟨rfl, by unfold rgV; rw [he]; exact hs⟩ ⟨rfl, rfl, rfl, rfl, rfl, rfl, trivial⟩
    clear hs i1
    rintro _ w3 ⟨rfl, hs⟩
    unfold rgV at hs
    refine wc_region ?_; refine wl_mv rfl rfl ?_; refine wl_mv rfl rfl ?_; apply wl_val; apply opv_fa; exact fa_sR (by decide); exact rfl; exact rfl; apply wl_val; apply opv_ldX; exact rfl; exact hs.ar 1 rfl; exact e1_by; exact rfl; exact rfl; apply wl_val; apply opv_fa; exact fa_sR (by decide); exact rfl; exact rfl; apply wl_val; apply opv_ldX; exact rfl; exact hs.ar 1 rfl; exact e1_by; exact rfl; exact rfl
    refine wl_bsG (css := [[.slice F 1 1], [.slice X x.fr.length cx], [.slice Y x.to.length cy]]) tkBB ⟨rfl, ⟨_, rfl, rfl⟩, rfl, rfl, ⟨_, rfl, rfl⟩, rfl, rfl, ⟨_, rfl, rfl⟩, rfl, trivial⟩ (els := [[.slice F 1 1], [.slice X x.fr.length cx], [.slice Y x.to.length cy]].map rawEl) (S := NoB) rfl (by decide) (by decide) (grp_raw (by simp)) rfl fun R w7 hR hbx _ => ?_
    replace hs := hs.newG hbx hR (Nat.le_refl _) fun _ _ h => h.elim
    clear hR hbx
    skip
    refine ws_appR (css := [[.slice F 1 1], [.slice X x.fr.length cx], [.slice Y x.to.length cy]]) (m := 3) hs 3 rfl rfl tkBB (by simp) rfl (OwR.rd (hs.rg 0 rfl)) rfl (by simp [Value.oneCell']) (by omega) (by simp only [maxLen]; omega) rfl ?_
    clear hs; intro P2 cp2 w8 hs; dsimp only [setC] at hs
    replace hs := ((hs.drop 0 rfl).drop 1 rfl).front 1 rfl
    dsimp only [delC] at hs
    replace hs := hs.map fun S h => rg_tail (X := .ow 5 F 1 1 (bvs (flB x.ex))) (els2 := [flB x.ex, x.fr, x.to].map (byO w)) (fun U hc => tail3 (w0 := w) (flB_len _) (hc.2.mono (Nat.zero_le _)) (fun a ha => hc.1 a ha) rx hcx ry hcy) h
    rw [← List.map_append, ← putR_take hx] at hs
    have e3 : (putR (l.take k)).length + 3 = (putR (l.take (k + 1))).length := by rw [putR_take hx, List.length_append]; rfl
    rw [e3]
    refine wl_as rfl rfl ?_; refine wl_nil ?_; refine we_block_norm ?_; refine we_seq ?_; refine wc_region ?_; apply wl_val; apply opv_bin; exact rfl; exact rfl; exact bin_add64 (by omega); exact rfl; refine wl_mv rfl rfl ?_; refine wl_nil ?_
    refine we_loop _ (l.length - (k + 1)) ⟨k + 1, P2, cp2, rfl, by omega, hs, rfl⟩ (by omega) ⟨rfl, rfl, rfl, by simp [lookT], trivial⟩
  · obtain rfl : k = l.length := by omega
    rw [List.take_length] at hs
    rw [List.take_length]
    have h5 := putR_flat hok
    have h6 := putR_len l
    refine wc_exit ?_; refine we_seq_exit ?_; refine we_loop_exit ?_; refine we_block_exit ?_; refine we_seq ?_; refine wc_sr ?_; refine wl_mv rfl rfl ?_
    refine wl_call ok_codec_Frame (frame_any (rows := putR l) (rdr_rdBB (OwR.rd (hs.rg 0 rfl)) hs.bel) rfl (by omega)) ⟨rfl, trivial⟩ rfl ?_
    rintro _ w2 ⟨Z, cz, rfl, ho, hbx⟩
    refine wl_as rfl rfl ?_; refine wl_ns ?_; refine wc_ret ?_
    exact we_ret1 rfl rfl ⟨_, rfl, Z, cz, rfl, Ow.mono ho hs.size, hs.bel.trans (hbx.mono hs.size)⟩
end Go.Proofs.Ytmdbjeabifkimaa

/-
  Walk over Encode of lock tables.
-/
namespace Go.Proofs.Ytmdbjeabifkimaa
open Go.RowKit

theorem tail4 {w0 w : World} {U : BS} {a b c d : List UInt8} {A B C D : Option Addr} {ac bc cc dc : Nat} (h : (Cd.ck (packC [.ow 5 A a.length ac (bvs a), .ow 5 B b.length bc (bvs b), .ow 5 C c.length cc (bvs c), .ow 5 D d.length dc (bvs d)])).P w U) :
    Grp 1 w U ([a, b, c, d].map (byO w0)) [[.slice A a.length ac], [.slice B b.length bc], [.slice C c.length cc], [.slice D d.length dc]] := by
  have one : ∀ {xs : List UInt8} {X : Option Addr} {xc : Nat} {T : BS}, (∀ b, T b → U b) → (Cd.ow 5 X xs.length xc (bvs xs)).P w T → Grp 1 w U [byO w0 xs] [[.slice X xs.length xc]] := fun {xs X xc T} hT h => by
    have hF : (byEl xs).P w U [.slice X xs.length xc] := byEl.mk h.2.rd (OwB.cap (xs := xs) h.2) fun a ha _ => hT _ (h.1 a ha)
    exact Grp.one ⟨X, xc, rfl, (byE.rd hF).2, .inr hF⟩ rfl
  obtain ⟨T1, hT1, h1, T2, hT2, h2, T3, hT3, h3, T4, hT4, h4, _⟩ := h
  exact ((one hT1 h1).append (one (fun b hb => (hT2 b hb).1) h2)).append ((one (fun b hb => (hT3 b hb).1.1) h3).append (one (fun b hb => (hT4 b hb).1.1.1) h4))
theorem enc_take {qu : List Tx} {os : List Ownr} {k : Nat} {o : Ownr} (h : os[k]? = some o) : (os.take (k + 1)).flatMap (encO qu) = (os.take k).flatMap (encO qu) ++ encO qu o := by
  rw [take_getR h, List.flatMap_append]; simp
theorem enc_flat {qu : List Tx} (hq : qu.length ≤ 1048576) : ∀ {os : List Ownr}, (∀ o ∈ os, EncOk qu o) → (os.flatMap (encO qu)).flatten.length ≤ 2200000000 * os.length
  | [], _ => by simp
  | o :: os, h => by
    have h1 := enc_flat hq (os := os) fun q hq => h q (List.mem_cons_of_mem _ hq)
    have ho := h o List.mem_cons_self
    have h2 := putU_le ho.s
    have h3 := putU_le ho.q
    have h4 := putB_len ho.hh
    have h5 := putB_len ho.ha
    have h6 := ho.few
    have h7 := ho.len
    have h8 : plO qu o.x ≤ 1048576 := by
      unfold plO
      split
      · rename_i h; have := List.idxOf_lt_length_of_mem h; omega
      · omega
    have h9 := putU_le (n := plO qu o.x) (by omega)
    rw [List.flatMap_cons, List.flatten_append, List.length_append, List.length_cons]
    simp only [encO, List.flatten_cons, List.flatten_nil, List.append_nil, List.length_append]
    omega
theorem idx_plO {t : Nat} {gp : Tx → Nat} {tb : Tb} {w : World} (hT : RdT w t gp tb) (hw : Wf tb) {x : Tx} (hx : x ∈ names tb) : idxV (tb.qu.map gp) (gp x) = (plO tb.qu x : Nat) - 1 := by
  have hm := hT.mem_ptr hw.sub hx
  unfold idxV plO
  by_cases hq : x ∈ tb.qu
  · rw [if_pos (hm.2 hq), if_pos hq, idxOf_mapI fun y hy e => hT.inj y (hw.sub y hy) x hx e]
    omega
  · rw [if_neg fun k => hq (hm.1 k), if_neg hq]
    rfl
set_option maxHeartbeats 1000000 in
theorem encode_any {t : Nat} {gp : Tx → Nat} {tb : Tb} {w : World} (hT : RdT w t gp tb) (hw : Wf tb) (hok : ∀ o ∈ tb.os, EncOk tb.qu o) (hl : tb.os.length ≤ 1000) :
    CallsV Try.prog 24 #[pN t] w (RetB w (encB tb)) := by
  obtain ⟨A, c, B, d, h1, h2, h3, h4, h5⟩ := hT.tab
  have hs := (St.init w).nilG 1 51
  have hql : tb.qu.length ≤ 1000 := by
    have := len_of_sub hw.qn hw.sub
    rw [names_len] at this; omega
  unfold pN
  refine calls_in (N := _) Try.func24 rfl Try.ntmps24 rfl ?_; show WC _ _ _ _ _ _
  refine wc_sr ?_; refine wl_as rfl rfl ?_; refine wl_ns ?_; refine wc_sr ?_; refine wl_as rfl rfl ?_; refine wl_ns ?_; refine wc_seq ?_; refine wc_sr ?_; refine wl_mv rfl rfl ?_; apply wl_val; apply opv_nilOk; exact rfl; exact rfl; apply wl_val; apply opv_fa; exact fa_Tb0; exact rfl; exact rfl; apply wl_val; apply opv_ldX; exact rfl; assumption; exact e1_pos; exact rfl; exact rfl; apply wl_val; apply opv_len; exact rfl; exact tyPO.sl; exact rfl; refine wl_mv rfl rfl ?_; refine wl_ns ?_; refine wc_block ?_
  refine wc_loop (fun L wr mm => ∃ (k : Nat) (P : Option Addr) (cp : Nat), L = [(0, .pointer (some ⟨t, 0, none⟩)), (3, .slice P ((tb.os.take k).flatMap (encO tb.qu)).length cp), (11, .slice A tb.os.length c), (12, .int .i64 (tb.os.length : Int)), (13, .int .i64 (k : Int))] ∧ k ≤ tb.os.length ∧ St NoB w wr [.rg 1 51 P cp (((tb.os.take k).flatMap (encO tb.qu)).map (byO w))] ∧ mm = tb.os.length - k)
    [(0, .pointer (some ⟨t, 0, none⟩)), (3, .slice none 0 0), (11, .slice A tb.os.length c), (12, .int .i64 (tb.os.length : Int)), (13, .int .i64 (0 : Nat))] tb.os.length ⟨0, none, 0, rfl, by omega, hs, rfl⟩ ⟨rfl, rfl, rfl, rfl, rfl, trivial⟩ ?_
  clear hs
  rintro _ w1 mm ⟨k, P, cp, rfl, hk, hs, rfl⟩
  have hlk := enc_len4 (qu := tb.qu) (tb.os.take k)
  rw [List.length_take, Nat.min_eq_left (by omega)] at hlk
  refine wc_sr ?_; refine wl_bin rfl rfl bin_lss rfl ?_; refine wl_ns ?_; refine wc_seq ?_
  refine wc_cond rfl (fun g1 => ?_) (fun g1 => ?_)
  · obtain ⟨o, hx⟩ : ∃ x, tb.os[k]? = some x := ⟨_, List.getElem?_eq_getElem (by omega)⟩
    have ho := List.mem_of_getElem? hx
    have heo := hok o ho
    have hon : o.x ∈ names tb := List.mem_map_of_mem ho
    obtain ⟨H, hc, K, kc, a1, rH, rK, lH, lK⟩ := hT.own o ho
    have hr2 := h2.below hs.bel
    have hu : (ptrs gp (names tb))[k]? = some (pN (gp o.x)) := by rw [List.getElem?_map, names_get hx]; rfl
    unfold pN at hu
    refine wc_skip ?_; refine we_seq ?_; refine wc_seq ?_; refine wc_block ?_; refine wc_sr ?_; apply wl_elK (T := tyPO) (hr := hr2) (hb := hu); exact rfl; exact rfl; exact rfl; exact rfl; exact rfl; intro _; refine wl_as rfl rfl ?_; refine wl_ns ?_; refine wc_seq ?_
    replace hs := hs.below (Below.refl _ _).drew
    refine wc_held (fun w => Ar w (gp o.x) 82 (owV o H hc K kc)) mixed ?_
    have hS := a1.bel hs.bel
    apply wh_takeH 0; exact rfl; intro _ hw_; apply opv_move; exact rfl; exact rfl; kernel_rfl; exact hS; apply wh_takeH 1; exact rfl; intro _ hw_; apply opv_nilOk; exact rfl; exact rfl; kernel_rfl; exact hS; apply wh_takeH 2; exact rfl; intro _ hw_; apply opv_fa; exact fa_O0; exact rfl; exact rfl; kernel_rfl; exact hS; apply wh_takeH 3; exact rfl; intro _ hw_; apply opv_fa; exact fa_sTx (by decide); exact rfl; exact rfl; kernel_rfl; exact hS; apply wh_takeH 4; exact rfl; intro _ hw_; apply opv_ldX; exact rfl; assumption; exact e1_u64; exact rfl; exact rfl; kernel_rfl; exact hS; apply wh_takeH 6; exact rfl; intro _ hw_; apply opv_move; exact rfl; exact rfl; kernel_rfl; exact hS; apply wh_takeH 7; exact rfl; intro _ hw_; apply opv_nilOk; exact rfl; exact rfl; kernel_rfl; exact hS; apply wh_takeH 8; exact rfl; intro _ hw_; apply opv_fa; exact fa_O0; exact rfl; exact rfl; kernel_rfl; exact hS; apply wh_takeH 9; exact rfl; intro _ hw_; apply opv_fa; exact fa_sTx (by decide); exact rfl; exact rfl; kernel_rfl; exact hS; apply wh_takeH 10; exact rfl; intro _ hw_; apply opv_ldX; exact rfl; assumption; exact e1_u64; exact rfl; exact rfl; kernel_rfl; exact hS
    clear hS
    refine wh_one 5 (o := ⟨_, _, _, _, _, _⟩) (by kernel_rfl) rfl ?_
    refine wl_call ok_codec_PutU (putU_any _ heo.s _) ⟨rfl, trivial⟩ rfl ?_; rintro _ _ ⟨C, e, rfl, o_, hbx⟩; replace hs := hs.newO hbx o_ (Nat.le_refl _); try dsimp only [List.cons_append, List.nil_append, setC, delC] at hs
    refine wl_nil ?_
    refine we_held (a1.bel hs.bel) ?_
    refine wh_one 11 (o := ⟨_, _, _, _, _, _⟩) (by kernel_rfl) rfl ?_
    refine wl_call ok_codec_PutU (putU_any _ heo.q _) ⟨rfl, trivial⟩ rfl ?_; rintro _ _ ⟨D, e2, rfl, o_, hbx⟩; replace hs := hs.newO hbx o_ (Nat.le_refl _); try dsimp only [List.cons_append, List.nil_append, setC, delC] at hs
    refine wl_nil ?_
    refine we_held (a1.bel hs.bel) ?_
    have u1 := putU_le heo.s
    have u2 := putU_le heo.q
    refine wh_one 12 (o := ⟨_, _, _, _, _, _⟩) (by kernel_rfl) rfl ?_
    refine ws_app (ys := bvs (putU o.x.2)) hs 1 rfl rfl tyB rfl (hs.ow 0 rfl).rd (bvs_one _) (by omega) (by simp only [maxLen]; omega) rfl ?_
    clear hs; intro N nc w2 hs; dsimp only [setC] at hs
    rw [← List.length_append]
    rw [← List.length_append, ← bvs_append] at hs
    refine wl_nil ?_
    refine we_held (a1.bel hs.bel) ?_
    refine wh_one 13 (o := ⟨_, _, _, _, _, _⟩) (by kernel_rfl) rfl ?_
    refine wl_as rfl rfl ?_; refine wl_nil ?_
    refine we_held (a1.bel hs.bel) ?_
    refine wh_done (by kernel_rfl) ?_
    replace hs := hs.drop 0 rfl
    dsimp only [delC] at hs
    have h1' := h1.bel hs.bel
    have hix := idx_plO hT hw hon
    obtain ⟨p, hp⟩ : ∃ p, plO tb.qu o.x = p := ⟨_, rfl⟩
    have hpl : p ≤ 1000 := by
      rw [← hp]; unfold plO
      split
      · rename_i h; have := List.idxOf_lt_length_of_mem h; omega
      · omega
    rw [hp] at hix
    refine we_seq ?_; refine wc_sr ?_; refine wl_mv rfl rfl ?_; apply wl_val; apply opv_nilOk; exact rfl; exact rfl; apply wl_val; apply opv_fa; exact fa_Tb1; exact rfl; exact rfl; apply wl_val; apply opv_ldX; exact rfl; assumption; exact e1_pos; exact rfl; exact rfl; refine wl_mv rfl rfl ?_
    refine wl_call ok_slices_Index_lock_owner_lock_owner (index_any (ps := tb.qu.map gp) (g := gp o.x) (by have := h3.below hs.bel; rwa [ptrs_map] at this) (fun q hq => ?_) ((hT.below hs.bel).blk hon) (by rw [List.length_map]; omega)) ⟨rfl, rfl, trivial⟩ rfl ?_
    · obtain ⟨y, hy, rfl⟩ := List.mem_map.1 hq
      exact (hT.below hs.bel).blk (hw.sub y hy)
    rintro _ _ ⟨rfl, rfl⟩
    rw [hix]
    apply wl_val; apply opv_bin; exact rfl; exact rfl; exact bin_add64 (by omega); exact rfl; apply wl_val; apply opv_convR; exact rfl; exact Try.underlying3; exact Try.underlying28; exact IntWalk.u64_in _ (by omega); exact rfl
    rw [show (p : Int) - 1 + 1 = (p : Int) by omega]
    refine wl_call ok_codec_PutU (putU_any p (by omega) _) ⟨rfl, trivial⟩ rfl ?_; rintro _ _ ⟨PL, plc, rfl, o_, hbx⟩; replace hs := hs.newO hbx o_ (Nat.le_refl _); try dsimp only [List.cons_append, List.nil_append, setC, delC] at hs
    refine wl_as rfl rfl ?_; refine wl_ns ?_
    replace hs := hs.below (Below.refl _ _).drew
    refine wc_held (fun w => Ar w (gp o.x) 82 (owV o H hc K kc)) mixed ?_
    have hS := a1.bel hs.bel
    apply wh_takeH 0; exact rfl; intro _ hw_; apply opv_move; exact rfl; exact rfl; kernel_rfl; exact hS; apply wh_takeH 1; exact rfl; intro _ hw_; apply opv_move; exact rfl; exact rfl; kernel_rfl; exact hS; apply wh_takeH 2; exact rfl; intro _ hw_; apply opv_move; exact rfl; exact rfl; kernel_rfl; exact hS; apply wh_takeH 3; exact rfl; intro _ hw_; apply opv_nilOk; exact rfl; exact rfl; kernel_rfl; exact hS; apply wh_takeH 4; exact rfl; intro _ hw_; apply opv_fa; exact fa_O1; exact rfl; exact rfl; kernel_rfl; exact hS; apply wh_takeH 5; exact rfl; intro _ hw_; apply opv_ldX; exact rfl; assumption; exact e1_rgs; exact rfl; exact rfl; kernel_rfl; exact hS; apply wh_takeH 7; exact rfl; intro _ hw_; apply opv_move; exact rfl; exact rfl; kernel_rfl; exact hS; apply wh_takeH 8; exact rfl; intro _ hw_; apply opv_nilOk; exact rfl; exact rfl; kernel_rfl; exact hS; apply wh_takeH 9; exact rfl; intro _ hw_; apply opv_fa; exact fa_O2; exact rfl; exact rfl; kernel_rfl; exact hS; apply wh_takeH 10; exact rfl; intro _ hw_; apply opv_ldX; exact rfl; assumption; exact e1_rgs; exact rfl; exact rfl; kernel_rfl; exact hS; apply wh_takeH 12; exact rfl; intro _ hw_; apply opv_move; exact rfl; exact rfl; kernel_rfl; exact hS
    clear hS
    have ha64 := heo.few
    have hh64 := heo.len
    refine wh_one 6 (o := ⟨_, _, _, _, _, _⟩) (by kernel_rfl) rfl ?_
    refine wl_call ok_lock_put (put_any (l := o.held) (rH.below hs.bel) rfl hh64 heo.hh) ⟨rfl, trivial⟩ rfl ?_; rintro _ _ ⟨HB, hbc, rfl, o_, hbx⟩; replace hs := hs.newO hbx o_ (Nat.le_refl _); try dsimp only [List.cons_append, List.nil_append, setC, delC] at hs
    refine wl_nil ?_
    refine we_held (a1.bel hs.bel) ?_
    refine wh_one 11 (o := ⟨_, _, _, _, _, _⟩) (by kernel_rfl) rfl ?_
    refine wl_call ok_lock_put (put_any (l := o.asks) (rK.below hs.bel) rfl (by omega) heo.ha) ⟨rfl, trivial⟩ rfl ?_; rintro _ _ ⟨AB, abc, rfl, o_, hbx⟩; replace hs := hs.newO hbx o_ (Nat.le_refl _); try dsimp only [List.cons_append, List.nil_append, setC, delC] at hs
    refine wl_nil ?_
    refine we_held (a1.bel hs.bel) ?_
    refine wh_one 13 (o := ⟨_, _, _, _, _, _⟩) (by kernel_rfl) rfl ?_
    refine wl_bsG (css := [[.slice N (putU o.x.1 ++ putU o.x.2).length nc], [.slice HB (putB o.held).length hbc], [.slice AB (putB o.asks).length abc], [.slice PL (putU p).length plc]]) tkBB ⟨rfl, ⟨_, rfl, rfl⟩, rfl, rfl, ⟨_, rfl, rfl⟩, rfl, rfl, ⟨_, rfl, rfl⟩, rfl, rfl, ⟨_, rfl, rfl⟩, rfl, trivial⟩ (els := [[.slice N (putU o.x.1 ++ putU o.x.2).length nc], [.slice HB (putB o.held).length hbc], [.slice AB (putB o.asks).length abc], [.slice PL (putU p).length plc]].map rawEl) (S := NoB) rfl (by decide) (by decide) (grp_raw (by simp)) rfl fun R w7 hR hbx _ => ?_
    replace hs := hs.newG hbx hR (Nat.le_refl _) fun _ _ h => h.elim
    clear hR hbx
    refine wl_nil ?_
    refine we_held (a1.bel hs.bel) ?_
    refine wh_one 14 (o := ⟨_, _, _, _, _, _⟩) (by kernel_rfl) rfl ?_
    refine ws_appR (css := [[.slice N (putU o.x.1 ++ putU o.x.2).length nc], [.slice HB (putB o.held).length hbc], [.slice AB (putB o.asks).length abc], [.slice PL (putU p).length plc]]) (m := 4) hs 5 rfl rfl tkBB (by simp) rfl (OwR.rd (hs.rg 0 rfl)) rfl (by simp [Value.oneCell']) (by omega) (by simp only [maxLen]; omega) rfl ?_
    clear hs; intro P2 cp2 w8 hs; dsimp only [setC] at hs
    replace hs := (((((hs.drop 0 rfl).front 2 rfl).front 1 rfl).front 2 rfl).front 3 rfl)
    dsimp only [delC] at hs
    replace hs := (hs.pack (H1 := [_, _, _, _]) (.ck (packC [.ow 5 N (putU o.x.1 ++ putU o.x.2).length nc (bvs (putU o.x.1 ++ putU o.x.2)), .ow 5 HB (putB o.held).length hbc (bvs (putB o.held)), .ow 5 AB (putB o.asks).length abc (bvs (putB o.asks)), .ow 5 PL (putU p).length plc (bvs (putU p))])) fun w S h => h).front 1 rfl
    dsimp only [delC] at hs
    replace hs := hs.map fun S h => rg_tail (els2 := (encO tb.qu o).map (byO w)) (fun U hc => by rw [encO, hp]; exact tail4 hc) h
    rw [← List.map_append, ← enc_take hx] at hs
    have e3 : ((tb.os.take k).flatMap (encO tb.qu)).length + 4 = ((tb.os.take (k + 1)).flatMap (encO tb.qu)).length := by rw [enc_take hx, List.length_append]; rfl
    rw [e3]
    refine wl_nil ?_
    refine we_held (a1.bel hs.bel) ?_
    refine wh_one 15 (o := ⟨_, _, _, _, _, _⟩) (by kernel_rfl) rfl ?_
    refine wl_as rfl rfl ?_; refine wl_nil ?_
    refine we_held (a1.bel hs.bel) ?_
    refine wh_done (by kernel_rfl) ?_
    refine we_block_norm ?_; refine we_seq ?_; refine wc_region ?_; apply wl_val; apply opv_bin; exact rfl; exact rfl; exact bin_add64 (by omega); exact rfl; refine wl_mv rfl rfl ?_; refine wl_nil ?_
    refine we_loop _ (tb.os.length - (k + 1)) ⟨k + 1, P2, cp2, rfl, by omega, hs, rfl⟩ (by omega) ⟨rfl, rfl, rfl, rfl, by simp [lookT], trivial⟩
  · obtain rfl : k = tb.os.length := by omega
    rw [List.take_length] at hs
    rw [List.take_length]
    have q5 := enc_flat (by omega) hok
    have q6 := enc_len4 (qu := tb.qu) tb.os
    refine wc_exit ?_; refine we_seq_exit ?_; refine we_loop_exit ?_; refine we_block_exit ?_; refine we_seq ?_; refine wc_sr ?_; refine wl_mv rfl rfl ?_
    refine wl_call ok_codec_Frame (frame_any (rows := tb.os.flatMap (encO tb.qu)) (rdr_rdBB (OwR.rd (hs.rg 0 rfl)) hs.bel) rfl (by omega)) ⟨rfl, trivial⟩ rfl ?_
    rintro _ w2 ⟨Z, cz, rfl, ho, hbx⟩
    refine wl_as rfl rfl ?_; refine wl_ns ?_; refine wc_ret ?_
    exact we_ret1 rfl rfl ⟨_, rfl, Z, cz, rfl, Ow.mono ho hs.size, hs.bel.trans (hbx.mono hs.size)⟩
end Go.Proofs.Ytmdbjeabifkimaa

/-
  The walk over the reference's Apart: lists that each lie at the head of a block of their own are told to be apart.
-/
namespace Go.Proofs.Ytmdbjeabifkimaa
open Go.RowKit

section
variable {w w' w0 w1 : World} {A A' : Option Addr} {vs : List Value} {base n c i j : Nat}
theorem Own1.hd (h : Own1 w base vs) (hv : vs[i]? = some (.slice A n c)) : Hd w base A n c ∧ n ≤ 1099511627776 := by
  obtain ⟨A', n', c', e, h1, h2⟩ := h.at hv
  injection e with hA hn hc
  subst hA hn hc
  exact ⟨h1, h2⟩
theorem Own1.lt (h : Own1 w base vs) {v : Value} {g : Nat} (hv : v ∈ vs) (hg : v.ownBlock = some g) : g < w.heap.size ∧ base ≤ g := by
  obtain ⟨A, n, c, rfl, hd, _⟩ := h.1 v hv
  rw [ownBlock_slice] at hg
  rcases hd with ⟨rfl, _⟩ | ⟨g', cs, rfl, hb, ha, _⟩
  · simp at hg
  · simp at hg; subst hg; exact ⟨ha.lt, hb⟩
theorem Rd.cellAt {b o N : Nat} {v : Value} (h : Rd w (some ⟨b, o, none⟩) N vs) (hv : vs[i]? = some v) : w.cell? ⟨b, o + i, none⟩ = some v := by
  have hl := (List.getElem?_eq_some_iff.1 hv).1
  obtain ⟨b', o', e, _, hc⟩ := h.2 (by have := h.1; omega)
  injection e with e
  injection e with e1 e2
  subst e1 e2
  exact hc i v hv
theorem MkB.cs {b : Nat} {cs : List Value} (h : MkB w b i n) (ha : Ar w b 5 cs) : n ≤ cs.length ∧ ∀ j, j < n → cs[j]? = some (mk i j) := by
  obtain ⟨ds, hd, h1, h2⟩ := h
  have e : ds = cs := by
    unfold Ar at ha hd
    rw [ha] at hd
    simp only [Option.some.injEq, Obj.cells.injEq] at hd
    have := congrArg Array.toList hd.1
    simpa using this.symm
  subst e
  exact ⟨h1, h2⟩
theorem MkB.take {b : Nat} {cs : List Value} (h : MkB w b i n) (ha : Ar w b 5 cs) : cs.take n = bvs (mkl i n) := by
  obtain ⟨h1, h2⟩ := h.cs ha
  refine List.ext_getElem? fun j => ?_
  rw [List.getElem?_take, bvs, List.getElem?_map]
  by_cases hj : j < n
  · rw [if_pos hj, mkl_get hj, h2 j hj]; rfl
  · rw [if_neg hj, List.getElem?_eq_none (by rw [mkl_length]; omega)]; rfl
theorem MkB.set {b : Nat} {cs : List Value} (h : MkB w b i j) (ha : Ar w b 5 cs) (hj : j < cs.length) (ha' : Ar w' b 5 (cs.set j (mk i j))) : MkB w' b i (j + 1) := by
  obtain ⟨_, h2⟩ := h.cs ha
  refine ⟨_, ha', by simp; omega, fun j' hj' => ?_⟩
  rw [List.getElem?_set]
  by_cases he : j = j'
  · subst he; simp [hj]
  · rw [if_neg he]; exact h2 j' (by omega)
/-- Marks from place n on. -/
def mkt (i n m : Nat) : List UInt8 := (List.range m).map fun k => mkb i (n + k)
theorem mkt_length {m : Nat} : (mkt i n m).length = m := by simp [mkt]
theorem mkt_get {m k : Nat} (h : k < m) : (mkt i n m)[k]? = some (mkb i (n + k)) := by simp [mkt, h]
theorem MkB.app {b m : Nat} {cs : List Value} (h : MkB w b i n) (ha : Ar w b 5 cs) (hm : n + m ≤ cs.length) (ha' : Ar w' b 5 (cs.take n ++ (bvs (mkt i n m) ++ cs.drop (n + m)))) : MkB w' b i (n + m) := by
  obtain ⟨h1, h2⟩ := h.cs ha
  refine ⟨_, ha', by simp [bvs_length, mkt_length]; omega, fun j hj => ?_⟩
  have hl : (cs.take n).length = n := by simp; omega
  by_cases h : j < n
  · rw [List.getElem?_append_left (by omega), List.getElem?_take, if_pos h]; exact h2 j h
  · rw [List.getElem?_append_right (by omega), hl, List.getElem?_append_left (by rw [bvs_length, mkt_length]; omega), bvs, List.getElem?_map, mkt_get (by omega), show n + (j - n) = j by omega]; rfl
theorem Mx.succ (h : Mx w vs i) (hv : vs[i]? = some (.slice A n c)) (hm : ∀ a, A = some a → MkB w a.block i n) : Mx w vs (i + 1) := fun k A' n' c' hk hv' => by
  by_cases he : k = i
  · subst he
    rw [hv] at hv'
    simp only [Option.some.injEq] at hv'
    injection hv' with hA hn hc
    subst hn
    exact hm A' hA
  · exact h k A' n' c' (by omega) hv'
theorem Sk.far {X : Option Nat} (h : Sk w w1 X i) (hs : w.heap.size ≤ w1.heap.size) (g : Gr w1 w' A') (hA : ∀ a, A' = some a → w.heap.size ≤ a.block) : Sk w w' X i := fun b cs ha => by
  obtain ⟨cs', a1, l1, r⟩ := h b cs ha
  refine ⟨cs', ?_, l1, r⟩
  unfold Ar
  rw [g.block b a1.lt fun hk => ?_]
  · exact a1
  · cases A' with
    | none => simp at hk
    | some a => simp at hk; have := hA a rfl; have := ha.lt; omega
theorem Gr.far (h : Gr w w1 A) (g : Gr w1 w' A') (hA : ∀ a, A' = some a → w.heap.size ≤ a.block) : Gr w w' A :=
  ⟨g.os.trans h.os, g.tape.trans h.tape, g.output.trans h.output, Nat.le_trans h.size g.size, fun k hk hne => by
    rw [← h.block k hk hne]
    refine g.block k (Nat.lt_of_lt_of_le hk h.size) fun hk' => ?_
    cases A' with
    | none => simp at hk'
    | some a => simp at hk'; have := hA a rfl; omega⟩
theorem Gr.bel (h : Gr w w1 A) (g : Below w1.heap.size w1 w') : Gr w w' A := h.far (Gr.of_below none g (Nat.le_refl _)) (by simp)
/-- What stands of all that is followed. -/
def Sd (w0 w : World) (base : Nat) (vs : List Value) (N : Nat) (P : Option Addr) (cp : Nat) (gs : List Value) : Prop :=
  Own1 w base vs ∧ Mx w vs N ∧ Kp w0 w vs ∧ Ow w w0.heap.size 51 P gs.length cp gs ∧ ∀ k v, gs[k]? = some v → Gd w vs (k % N) v
variable {N cp : Nat} {P : Option Addr} {gs : List Value}
theorem Sd.bel (h : Sd w0 w base vs N P cp gs) (hb : Below w.heap.size w w') : Sd w0 w' base vs N P cp gs := by
  obtain ⟨h1, h2, h3, h4, h5⟩ := h
  refine ⟨h1.st (X := none) (k := 0) (Sk.bel hb), h2.bel hb, h3.bel hb, Ow.below h4 hb (Nat.le_refl _), fun k v hv => ?_⟩
  obtain ⟨b, n, c, e, hn, hn2, hm, ht⟩ := h5 k v hv
  exact ⟨b, n, c, e, hn, hn2, hm.st (X := none) (k := 0) (Sk.bel hb) (by simp), ht⟩
/-- A step that writes marks of list i into its own block alone. -/
theorem Sd.gr (h : Sd w0 w base vs N P cp gs) (hv : vs[i]? = some (.slice A n c)) (s : Sk w w' (A.map (·.block)) i) (g : Gr w w' A) (hv0 : ∀ a, A = some a → a.block < w0.heap.size) : Sd w0 w' base vs N P cp gs := by
  obtain ⟨h1, h2, h3, h4, h5⟩ := h
  refine ⟨h1.st s, h2.st h1 hv s, h3.gr g fun a ha _ => ⟨_, List.mem_of_getElem? hv, by rw [ha]; rfl⟩, Ow.gr (base' := 0) (e' := 0) h4 g fun a b ha hb => ?_, fun k v hk => (h5 k v hk).st hv s⟩
  have := (Ow.lt h4 a ha).1
  have := hv0 b hb
  omega
theorem Sd.push {cp' : Nat} {P' : Option Addr} {v : Value} (h : Sd w0 w base vs N P cp gs) (ho : Ow w' w0.heap.size 51 P' (gs.length + 1) cp' (gs ++ [v])) (g : Gr w w' P) (hg : Gd w vs (gs.length % N) v) : Sd w0 w' base vs N P' cp' (gs ++ [v]) := by
  obtain ⟨h1, h2, h3, h4, h5⟩ := h
  have s : ∀ k, Sk w w' none k := fun k => by
    rcases h4.2 with ⟨hv, _⟩ | ⟨g', cap, cur, hv, _, hg', _⟩
    · injection hv with hA
      subst hA
      exact Sk.other (g := 0) (t := 51) (cs := []) g (by simp) (.inl rfl) (by decide)
    · injection hv with hA
      subst hA
      exact Sk.other (g := g') (t := 51) (cs := cur.toList) g (by intro a ha; cases ha; rfl) (.inr (by simpa [Ar] using hg')) (by decide)
  have hk : ∀ {m : Nat} {u : Value}, Gd w vs m u → Gd w' vs m u := fun {m u} hgd => by
    obtain ⟨b, n, c, e, hn, hn2, hm, ht⟩ := hgd
    exact ⟨b, n, c, e, hn, hn2, hm.st (s 0) (by simp), ht⟩
  refine ⟨h1.st (s 0), fun k A n c hk hv => (h2 k A n c hk hv).st (s 0) (by simp), h3.gr g fun a ha hlt => ?_, by rw [List.length_append]; exact ho, fun k u hu => ?_⟩
  · have := (Ow.lt h4 a ha).1; omega
  · rw [List.getElem?_append] at hu
    split at hu
    · exact hk (h5 k u hu)
    · have hk0 : k = gs.length := by
        have := (List.getElem?_eq_some_iff.1 hu).1
        simp at this; omega
      subst hk0
      simp at hu
      subst hu
      exact hk hg
end
end Go.Proofs.Ytmdbjeabifkimaa

/-
  The walk over the reference's Apart.
-/
namespace Go.Proofs.Ytmdbjeabifkimaa
open Go.RowKit

end Go.Proofs.Ytmdbjeabifkimaa

/-
  Words for the laws that say that answers are memory of their own: what is answered is gathered in a list, each in a block of its own, and stays so.
-/
namespace Go.Proofs.Ytmdbjeabifkimaa
open Go.RowKit

/-- The slices of a list read as these rows. -/
def RdV (w : World) (vs : List Value) (rows : List (List UInt8)) : Prop :=
  vs.length = rows.length ∧ ∀ (i : Nat) (r : List UInt8), rows[i]? = some r → ∃ (A' : Option Addr) (c' : Nat), vs[i]? = some (Value.slice A' r.length c') ∧ RdB w A' r ∧ r.length ≤ c'
section
variable {w w' w0 : World} {A B : Option Addr} {vs vs' l1 l2 : List Value} {rows rows' : List (List UInt8)} {base b n c m : Nat}
theorem RdV.rd (h : RdV w vs rows) (hr : Rd w A n vs) (hn : rows.length = n) : RdBB w A rows := by subst hn; exact ⟨vs, hr, h.2⟩
theorem RdV.nil : RdV w [] [] := ⟨rfl, by simp⟩
theorem RdV.cons {r : List UInt8} (h : RdV w vs rows) (hr : RdB w A r) (hn : r.length = n) (hc : r.length ≤ c) : RdV w (.slice A n c :: vs) (r :: rows) := by
  subst hn
  refine ⟨by simp [h.1], fun i q hi => ?_⟩
  cases i with
  | zero => simp only [List.getElem?_cons_zero, Option.some.injEq] at hi; subst hi; exact ⟨A, c, rfl, hr, hc⟩
  | succ i => simpa using h.2 i q (by simpa using hi)
theorem RdV.append (h : RdV w vs rows) (h' : RdV w vs' rows') : RdV w (vs ++ vs') (rows ++ rows') := by
  refine ⟨by simp [h.1, h'.1], fun i q hi => ?_⟩
  rw [List.getElem?_append] at hi
  split at hi
  · rename_i hl
    rw [List.getElem?_append_left (by rw [h.1]; exact hl)]; exact h.2 i q hi
  · rename_i hl
    rw [List.getElem?_append_right (by rw [h.1]; omega), h.1]; exact h'.2 _ q hi
theorem RdV.bel (h : RdV w vs rows) (hb : Below w.heap.size w w') : RdV w' vs rows := ⟨h.1, fun i r hi => by
  obtain ⟨A', c', h1, h2, h3⟩ := h.2 i r hi
  exact ⟨A', c', h1, h2.below hb, h3⟩⟩
theorem RdV.gr (h : RdV w vs rows) (g : Gr w w' B) (hne : ∀ b, B = some b → ∀ v ∈ vs, v.ownBlock ≠ some b.block) : RdV w' vs rows := ⟨h.1, fun i r hi => by
  obtain ⟨A', c', h1, h2, h3⟩ := h.2 i r hi
  refine ⟨A', c', h1, Rd.gr h2 g fun a b ha hb => ?_, h3⟩
  have := hne b hb _ (List.mem_of_getElem? h1)
  rw [ownBlock_slice, ha] at this
  simpa using this⟩

theorem Own1.nil : Own1 w base [] := ⟨by simp, List.Pairwise.nil⟩
theorem Own1.bel (h : Own1 w base vs) (hb : Below w.heap.size w w') : Own1 w' base vs := h.st (X := none) (k := 0) (Sk.bel hb)
theorem Own1.mono {base' : Nat} (h : Own1 w base vs) (hb : base' ≤ base) : Own1 w base' vs := ⟨fun v hv => by
  obtain ⟨A, n, c, e, hd, hn⟩ := h.1 v hv
  refine ⟨A, n, c, e, ?_, hn⟩
  rcases hd with hd | ⟨g, cs, e1, e2, e3⟩
  · exact .inl hd
  · exact .inr ⟨g, cs, e1, Nat.le_trans hb e2, e3⟩, h.2⟩
theorem Own1.one (h : Hd w base A n c) (hn : n ≤ 1099511627776) : Own1 w base [.slice A n c] := ⟨by intro v hv; simp at hv; subst hv; exact ⟨A, n, c, rfl, h, hn⟩, by simp⟩
theorem own_symm {v v' : Value} (h : ∀ g, v.ownBlock = some g → v'.ownBlock ≠ some g) : ∀ g, v'.ownBlock = some g → v.ownBlock ≠ some g := fun g h1 h2 => h g h2 h1
/-- New lists are put between the others. -/
theorem Own1.ins (h : Own1 w base (l1 ++ l2)) (hb : Below w.heap.size w w') (h' : Own1 w' w.heap.size vs) (hbase : base ≤ w.heap.size) : Own1 w' base (l1 ++ (vs ++ l2)) := by
  have hk := h.bel hb
  have hp : (vs ++ l2 ++ l1).Pairwise fun v v' => ∀ g, v.ownBlock = some g → v'.ownBlock ≠ some g := by
    rw [List.append_assoc, List.pairwise_append]
    refine ⟨h'.2, ?_, fun v hv v' hv' g hg hg' => ?_⟩
    · have := h.2
      rw [List.pairwise_append] at this ⊢
      exact ⟨this.2.1, this.1, fun a ha b hb' => own_symm (this.2.2 b hb' a ha)⟩
    · have h1 := (h'.lt hv hg).2
      have h2 := (h.lt (show v' ∈ l1 ++ l2 by simp at hv' ⊢; exact hv'.symm) hg').1
      omega
  refine ⟨fun v hv => ?_, ?_⟩
  · simp only [List.mem_append] at hv
    rcases hv with hv | hv | hv
    · exact hk.1 v (by simp [hv])
    · exact (h'.mono hbase).1 v hv
    · exact hk.1 v (by simp [hv])
  · rw [List.pairwise_append] at hp ⊢
    exact ⟨hp.2.1, hp.1, fun a ha b hb' => own_symm (hp.2.2 b hb' a ha)⟩
/-- One new list is put at place k of the others. -/
theorem Own1.add {l : List Value} (k : Nat) (h : Own1 w base l) (hb : Below w.heap.size w w') (h' : Hd w' w.heap.size A n c) (hn : n ≤ 1099511627776) (hbase : base ≤ w.heap.size) : Own1 w' base (l.take k ++ .slice A n c :: l.drop k) :=
  Own1.ins (l1 := l.take k) (l2 := l.drop k) (by rw [List.take_append_drop]; exact h) hb (Own1.one h' hn) hbase
theorem OwBB.own (h : OwBB w base A c rows) (hl : rows.flatten.length ≤ 1099511627776) : ∃ vs, Ow w base 51 A rows.length c vs ∧ RdV w vs rows ∧ Own1 w base vs := by
  obtain ⟨vs, ho, hr, hp⟩ := h
  refine ⟨vs, ho, ⟨ho.len, fun i r hi => ?_⟩, fun v hv => ?_, hp⟩
  · obtain ⟨A', c', h1, h2, _⟩ := hr i r hi
    exact ⟨A', c', h1, OwB.rd h2, h2.cap⟩
  · obtain ⟨i, hi, rfl⟩ := List.getElem_of_mem hv
    have hil : i < rows.length := by have := ho.len; omega
    obtain ⟨A', c', h1, h2, _⟩ := hr i _ (List.getElem?_eq_getElem hil)
    rw [List.getElem?_eq_getElem hi] at h1
    simp only [Option.some.injEq] at h1
    have hm : rows[i].length ≤ rows.flatten.length := flat_mem (List.getElem?_eq_getElem hil)
    exact ⟨A', _, c', h1, h2.nw.hd, by omega⟩
theorem own_ar {xs : List Value} (h : Ow w b 51 A n c xs) {a : Addr} (ha : A = some a) : ∃ cs, Ar w a.block 51 cs := by
  rcases h.2 with ⟨hv, _⟩ | ⟨g', cap, cur, hv, _, hg', _⟩
  · injection hv with hA; rw [ha] at hA; cases hA
  · injection hv with hA; rw [ha] at hA; cases hA
    exact ⟨cur.toList, by simpa [Ar] using hg'⟩
theorem Own1.row {xs : List Value} (h : Own1 w base vs) (ho : Ow w b 51 A n c xs) (g : Gr w w' A) : Own1 w' base vs := by
  refine h.st (X := none) (k := 0) ?_
  cases A with
  | none => exact Sk.other (g := 0) (t := 51) (cs := []) g (by simp) (.inl rfl) (by decide)
  | some a =>
    obtain ⟨ds, hd⟩ := own_ar ho rfl
    exact Sk.other (g := a.block) (t := 51) (cs := ds) g (by intro a' ha; cases ha; rfl) (.inr hd) (by decide)
/-- Bytes of one block change, and none other. -/
theorem Own1.sz {g : Nat} {cs cs' : List Value} (h : Own1 w base vs) (hg : Gr w w' (some ⟨g, 0, none⟩)) (ha : Ar w g 5 cs) (ha' : Ar w' g 5 cs') (hl : cs'.length = cs.length) : Own1 w' base vs := ⟨fun v hv => by
  obtain ⟨A, n, c, e, hd, hn⟩ := h.1 v hv
  refine ⟨A, n, c, e, ?_, hn⟩
  rcases hd with hd | ⟨g', ds, e1, e2, e3, e4, e5⟩
  · exact .inl hd
  · by_cases hgg : g' = g
    · subst hgg
      have : ds = cs := by
        unfold Ar at ha e3
        rw [ha] at e3
        simp only [Option.some.injEq, Obj.cells.injEq] at e3
        have := congrArg Array.toList e3.1
        simpa using this.symm
      subst this
      exact .inr ⟨g', cs', e1, e2, ha', e4, by omega⟩
    · refine .inr ⟨g', ds, e1, e2, ?_, e4, e5⟩
      unfold Ar
      rw [hg.block g' e3.lt (by simp; exact hgg)]
      exact e3, h.2⟩
/-- Where another block has changed. -/
theorem Ar.gr {g g' : Nat} {t : TypeId} {cs : List Value} (h : Ar w g t cs) (hg : Gr w w' (some ⟨g', 0, none⟩)) (hne : g ≠ g') : Ar w' g t cs := by
  unfold Ar
  rw [hg.block g h.lt (by simp; exact hne)]
  exact h
theorem OwBB.gr {g : Nat} (h : OwBB w base A c rows) (hg : Gr w w' (some ⟨g, 0, none⟩)) (hlt : g < base) : OwBB w' base A c rows := by
  obtain ⟨vs, ho, hr, hp⟩ := h
  refine ⟨vs, Ow.gr (base' := 0) (e' := 0) ho hg fun a b ha hb => ?_, fun i r hi => ?_, hp⟩
  · have := (Ow.lt ho a ha).1; cases hb; simp; omega
  · obtain ⟨A', c', h1, h2, h3⟩ := hr i r hi
    refine ⟨A', c', h1, Ow.gr (base' := 0) (e' := 0) h2 hg fun a b ha hb => ?_, h3⟩
    have := (Ow.lt h2 a ha).1; cases hb; simp; omega
/-- What has been gathered, ahead of the last test. -/
def Fin (w : World) (base : Nat) (vs ts : List Value) (rows : List (List UInt8)) (bA : Nat) (A : Option Addr) (n c : Nat) (bW : Nat) (W : Option Addr) (cW : Nat) : Prop :=
  Own1 w base (vs ++ ts) ∧ RdV w vs rows ∧ Ow w bA 51 A n c vs ∧ OwBB w bW W cW rows
theorem Fin.bel {ts : List Value} {bA bW cW : Nat} {W : Option Addr} (h : Fin w base vs ts rows bA A n c bW W cW) (hb : Below w.heap.size w w') : Fin w' base vs ts rows bA A n c bW W cW :=
  ⟨h.1.bel hb, h.2.1.bel hb, Ow.below h.2.2.1 hb (Nat.le_refl _), h.2.2.2.below hb⟩
theorem Fin.over {ts : List Value} {bA bW cW g : Nat} {W : Option Addr} {cs cs' : List Value} {v : Value} (h : Fin w base vs ts rows bA A n c bW W cW) (hg : Gr w w' (some ⟨g, 0, none⟩)) (ha : Ar w g 5 cs) (ha' : Ar w' g 5 cs') (hl : cs'.length = cs.length)
    (hv : v ∈ ts) (hvb : v.ownBlock = some g) (h1 : g < bA) (h2 : g < bW) : Fin w' base vs ts rows bA A n c bW W cW := by
  obtain ⟨o, r, a, W⟩ := h
  have hp := o.2
  rw [List.pairwise_append] at hp
  refine ⟨o.sz hg ha ha' hl, r.gr hg fun b hb u hu hc => hp.2.2 u hu v hv g ?_ hvb, Ow.gr (base' := 0) (e' := 0) a hg fun a' b ha' hb => ?_, W.gr hg h2⟩
  · cases hb; exact hc
  · have := (Ow.lt a a' ha').1; cases hb; simp; omega
end
end Go.Proofs.Ytmdbjeabifkimaa

/-
  Walk over get of locks: ranges out of a frame's parts.
-/
namespace Go.Proofs.Ytmdbjeabifkimaa
open Go.RowKit

/-- Byte lists that rows of slices name, in memory of one's own. -/
def prC (vs : List Value) (ps : List (List UInt8)) : Ck := ⟨fun w S => ∀ (i : Nat) (r : List UInt8), ps[i]? = some r → ∃ (A : Option Addr) (c : Nat), vs[i]? = some (.slice A r.length c) ∧ (byEl r).P w S [.slice A r.length c], fun h hz hm i r hi => by
  obtain ⟨A, c, h1, h2⟩ := h i r hi
  exact ⟨A, c, h1, El.move _ h2 hz hm⟩⟩
theorem St.newPr {M : BS} {w0 w w' : World} {H : List Cd} {A : Option Addr} {c : Nat} {ps : List (List UInt8)} (hs : St M w0 w H) (hb : Below w.heap.size w w') (h : OwBB w' w.heap.size A c ps) : ∃ vs, Rd w' A ps.length vs ∧ RdV w' vs ps ∧ ps.length ≤ c ∧ St M w0 w' (.ck (prC vs ps) :: H) := by
  have hcap := h.cap
  obtain ⟨vs, ho, hr, _⟩ := h
  refine ⟨vs, ho.rd, ⟨ho.len, fun i r hi => ?_⟩, hcap, ?_⟩
  · obtain ⟨A', c', h1, h2, _⟩ := hr i r hi
    exact ⟨A', c', h1, OwB.rd h2, h2.cap⟩
  · refine hs.new (T := fun b => w.heap.size ≤ b) (c := .ck (prC vs ps)) hb (fun i r hi => ?_) fun _ _ h => h
    obtain ⟨A', c', h1, h2, _⟩ := hr i r hi
    exact ⟨A', c', h1, byEl.mk (OwB.rd h2) h2.cap fun a ha _ => (Ow.lt h2 a ha).1⟩
/-- Cells of ranges that name parts. -/
def RelR (vs : List Value) (ps : List (List UInt8)) (css : List (List Value)) (l : List Rg) : Prop :=
  css.length = l.length ∧ ∀ (i : Nat) (x : Rg), l[i]? = some x → ∃ (p q : Nat) (v1 v2 : Value), css[i]? = some [v1, v2, .bool x.ex] ∧ vs[p]? = some v1 ∧ ps[p]? = some x.fr ∧ vs[q]? = some v2 ∧ ps[q]? = some x.to
theorem RelR.grp {vs : List Value} {ps : List (List UInt8)} {css : List (List Value)} {l : List Rg} {w : World} {U : BS} (h : RelR vs ps css l) (hp : (Cd.ck (prC vs ps)).P w U) : Grp 3 w U (l.map rgEl) css := by
  refine ⟨by rw [List.length_map]; exact h.1, fun i cs hi => ?_⟩
  have hlt : i < l.length := by rw [← h.1]; exact (List.getElem?_eq_some_iff.1 hi).1
  obtain ⟨p, q, v1, v2, h1, h2, h3, h4, h5⟩ := h.2 i l[i] (List.getElem?_eq_getElem hlt)
  rw [hi] at h1
  injection h1 with h1
  subst h1
  obtain ⟨A, c, k1, k2⟩ := hp p _ h3
  obtain ⟨B, d, k3, k4⟩ := hp q _ h5
  rw [h2] at k1
  rw [h4] at k3
  injection k1 with k1
  injection k3 with k3
  subst k1 k3
  exact ⟨rfl, rgEl l[i], by rw [List.getElem?_map, List.getElem?_eq_getElem hlt]; rfl, rgEl.mk k2 k4⟩
theorem RelR.add {vs : List Value} {ps : List (List UInt8)} {css : List (List Value)} {l : List Rg} {x : Rg} {p q : Nat} {v1 v2 : Value} (h : RelR vs ps css l) (h1 : vs[p]? = some v1) (h2 : ps[p]? = some x.fr) (h3 : vs[q]? = some v2) (h4 : ps[q]? = some x.to) : RelR vs ps (css ++ [[v1, v2, .bool x.ex]]) (l ++ [x]) := by
  refine ⟨by simp [h.1], fun i y hi => ?_⟩
  by_cases hlt : i < l.length
  · rw [List.getElem?_append_left hlt] at hi
    obtain ⟨p, q, v1, v2, h1, h2⟩ := h.2 i y hi
    exact ⟨p, q, v1, v2, by rw [List.getElem?_append_left (by rw [h.1]; exact hlt)]; exact h1, h2⟩
  · rw [List.getElem?_append_right (by omega)] at hi
    have hi0 : i - l.length = 0 := by
      have := (List.getElem?_eq_some_iff.1 hi).1
      simp at this; omega
    rw [hi0] at hi
    simp at hi
    subst hi
    exact ⟨p, q, v1, v2, by rw [List.getElem?_append_right (by rw [h.1]; omega), h.1, hi0]; rfl, h1, h2, h3, h4⟩
theorem thr_step {ps : List (List UInt8)} {j : Nat} {a b c : List UInt8} {l : List Rg} (h : thr ps = (thr (ps.drop (3 * j))).map (l ++ ·)) (h0 : ps[3 * j]? = some a) (h1 : ps[3 * j + 1]? = some b) (h2 : ps[3 * j + 2]? = some c) :
    (badG a = true → thr ps = none) ∧ (badG a = false → thr ps = (thr (ps.drop (3 * (j + 1)))).map ((l ++ [⟨b, c, decide (a.headD 0 = 1)⟩]) ++ ·)) := by
  have l2 := (List.getElem?_eq_some_iff.1 h2).1
  have e : ps.drop (3 * j) = a :: b :: c :: ps.drop (3 * (j + 1)) := by
    rw [List.drop_eq_getElem_cons (by omega), List.drop_eq_getElem_cons (by omega), List.drop_eq_getElem_cons (by omega)]
    rw [List.getElem?_eq_getElem (by omega)] at h0 h1 h2
    injection h0 with h0
    injection h1 with h1
    injection h2 with h2
    rw [h0, h1, show ps[3 * j + 1 + 1] = ps[3 * j + 2] from rfl, h2]
    rfl
  rw [e, thr] at h
  constructor
  · intro hb; rw [h, if_pos hb]; rfl
  · intro hb
    rw [h, if_neg (by rw [hb]; simp)]
    cases thr (ps.drop (3 * (j + 1))) <;> simp
/-- Ranges and an error are handed back. -/
def RetGt (w : World) (r : List Rg × Nat) (v : Value) (w' : World) : Prop := ∃ (A : Option Addr) (c : Nat), v = .tuple #[.slice A r.1.length c, .int .i64 (r.2 : Int)] ∧ St NoB w w' [.rg 3 61 A c (r.1.map rgEl)]
end Go.Proofs.Ytmdbjeabifkimaa

/-
  Walk over get of locks.
-/
namespace Go.Proofs.Ytmdbjeabifkimaa
open Go.RowKit

theorem parts_size (b : List UInt8) : (parts b).1.length + (parts b).1.flatten.length ≤ b.length := partsF_size b.length b 0 [] (by omega) (by simp)
theorem int_u8 {f : List UInt8} (h : f.length = 1) : (bvs f)[0]? = some (.int .u8 ((f.headD 0).toNat : Int)) := by
  match f, h with
  | [a], _ => rfl
set_option maxHeartbeats 2000000 in
theorem get_any {A : Option Addr} {n c : Nat} {b : List UInt8} {w : World} (hr : RdB w A b) (hn : b.length = n) (hc : b.length ≤ c) (hl : b.length ≤ 1099511627776) :
    CallsV Try.prog 75 #[.slice A n c] w (RetGt w (getG b)) := by
  subst hn
  have hs := St.init w
  refine calls_in (N := _) Try.func75 rfl Try.ntmps75 rfl ?_; show WC _ _ _ _ _ _
  refine wc_sr ?_; refine wl_as rfl rfl ?_; refine wl_as rfl rfl ?_; refine wl_ns ?_; refine wc_sr ?_; refine wl_mv rfl rfl ?_
  refine wl_call ok_codec_Parts (parts_any hr rfl hc hl) ⟨rfl, trivial⟩ rfl ?_
  rintro _ w2 ⟨P, cp, rfl, ho, hbx⟩
  obtain ⟨vs, hP, hV, hcp, hs0⟩ := hs.newPr hbx ho
  have hpsz := parts_size b
  clear hs ho hbx
  by_cases he : (parts b).2 = 0
  case neg =>
    have he' : ¬ (((parts b).2 : Nat) : Int) = 0 := by omega
    have hg : getG b = ([], (parts b).2) := by rw [getG, if_pos he]
    refine wl_mv rfl rfl ?_; apply wl_val; apply opv_extract; exact rfl; exact rfl; exact rfl; apply wl_val; apply opv_extract; exact rfl; exact rfl; exact rfl; refine wl_as rfl rfl ?_; refine wl_as rfl rfl ?_; refine wl_ns ?_; refine wc_seq ?_; refine wc_sr ?_; refine wl_mv rfl rfl ?_; refine wl_bin rfl rfl bin_neq rfl ?_; refine wl_ns ?_; apply wc_decT; exact rfl; (with_reducible assumption); refine wc_sr ?_; refine wl_mv rfl rfl ?_; refine wl_as rfl rfl ?_; refine wl_as rfl rfl ?_; refine wl_ns ?_; refine wc_ret ?_; refine we_seq_ret ?_
    exact we_ret2 rfl rfl rfl ⟨_, rfl, none, 0, by rw [hg]; rfl, by rw [hg]; exact (hs0.drop 0 rfl).nilG _ _⟩
  rw [he]
  obtain ⟨ps, hps⟩ : ∃ q, (parts b).1 = q := ⟨_, rfl⟩
  rw [hps] at hP hV hcp hs0 hpsz
  rw [hps]
  refine wl_mv rfl rfl ?_; apply wl_val; apply opv_extract; exact rfl; exact rfl; exact rfl; apply wl_val; apply opv_extract; exact rfl; exact rfl; exact rfl; refine wl_as rfl rfl ?_; refine wl_as rfl rfl ?_; refine wl_ns ?_; refine wc_seq ?_; refine wc_sr ?_; refine wl_mv rfl rfl ?_; refine wl_bin rfl rfl bin_neq rfl ?_; refine wl_ns ?_; apply wc_condFb; exact rfl; exact rfl; refine wc_skip ?_; refine we_seq ?_; refine wc_seq ?_; refine wc_sr ?_; refine wl_mv rfl rfl ?_; apply wl_val; apply opv_len; exact rfl; exact tyBB.sl; exact rfl; apply wl_val; apply opv_bin; exact rfl; exact rfl; exact bin_rem (by decide); exact rfl; refine wl_bin rfl rfl bin_neq rfl ?_; refine wl_ns ?_
  have hgG : getG b = if ps.length % 3 ≠ 0 then ([], 3) else match thr ps with
    | none => ([], 3)
    | some l => if l.any (fun r => decide (checkR [r] ≠ 0)) then ([], 3) else (l, 0) := by
    rw [getG, if_neg (by simp [he]), hps]
    rfl
  by_cases hm3 : ((ps.length % 3 : Nat) : Int) = 0
  case neg =>
    have hg : getG b = ([], 3) := by rw [hgG, if_pos (by omega)]
    apply wc_decT; exact rfl; (with_reducible assumption); refine wc_sr ?_; refine wl_as rfl rfl ?_; refine wl_as rfl rfl ?_; refine wl_ns ?_; refine wc_ret ?_; refine we_seq_ret ?_
    exact we_ret2 rfl rfl rfl ⟨_, rfl, none, 0, by rw [hg]; rfl, by rw [hg]; exact (hs0.drop 0 rfl).nilG _ _⟩
  have hm3' : ps.length % 3 = 0 := by omega
  have hm3n : ¬ (((ps.length % 3 : Nat) : Int) ≠ 0) := fun h => h hm3
  rw [if_neg (by omega)] at hgG
  have hs := (St.init w2).nilG 3 61
  have hvl : vs.length = ps.length := hV.1
  have hpsl : ps.length ≤ 1099511627776 := by omega
  apply wc_decF; exact rfl; (with_reducible assumption); refine wc_skip ?_; refine we_seq ?_; refine wc_sr ?_; refine wl_as rfl rfl ?_; refine wl_ns ?_; refine wc_seq ?_; refine wc_sr ?_; refine wl_mv rfl rfl ?_; refine wl_as rfl rfl ?_; refine wl_ns ?_; refine wc_block ?_
  refine wc_loop (fun L wr mm => ∃ (j m : Nat) (l : List Rg) (css : List (List Value)) (Q : Option Addr) (cq : Nat) (Z : Option Addr) (zc : Nat), L = [(6, .slice Q j cq), (7, .slice Z m zc)] ∧ m + 3 * j = ps.length ∧ m ≤ zc ∧ Rd w2 Z m (vs.drop (3 * j)) ∧ l.length = j ∧ thr ps = (thr (ps.drop (3 * j))).map (l ++ ·) ∧ RelR vs ps css l ∧ St NoB w2 wr [.rg 3 61 Q cq (css.map rawEl)] ∧ mm = m)
    [(6, .slice none 0 0), (7, .slice P ps.length cp)] ps.length ⟨0, ps.length, [], [], none, 0, P, cp, rfl, by omega, hcp, hP, rfl, by cases h : thr ps <;> simp [h], ⟨rfl, by simp⟩, hs, rfl⟩ ⟨rfl, rfl, trivial⟩ ?_
  clear hs
  rintro _ w3 mm ⟨j, m, l, css, Q, cq, Z, zc, rfl, hmj, hzc, hZ, rfl, hthr, hrel, hs, rfl⟩
  refine wc_seq ?_; refine wc_sr ?_; refine wl_mv rfl rfl ?_; apply wl_val; apply opv_len; exact rfl; exact tyBB.sl; exact rfl; refine wl_bin rfl rfl bin_gtr rfl ?_; refine wl_ns ?_
  refine wc_cond rfl (fun h1 => ?_) (fun h1 => ?_)
  · obtain ⟨f, hf⟩ : ∃ x, ps[3 * l.length]? = some x := ⟨_, List.getElem?_eq_getElem (by omega)⟩
    obtain ⟨x, hx⟩ : ∃ x, ps[3 * l.length + 1]? = some x := ⟨_, List.getElem?_eq_getElem (by omega)⟩
    obtain ⟨y, hy⟩ : ∃ x, ps[3 * l.length + 2]? = some x := ⟨_, List.getElem?_eq_getElem (by omega)⟩
    obtain ⟨F, fc, hv0, rF, _⟩ := hV.2 _ f hf
    obtain ⟨X, xc, hv1, rX, _⟩ := hV.2 _ x hx
    obtain ⟨Y, yc, hv2, rY, _⟩ := hV.2 _ y hy
    obtain ⟨ht1, ht2⟩ := thr_step hthr hf hx hy
    have hu0 : (vs.drop (3 * l.length))[0]? = some (.slice F f.length fc) := by rw [List.getElem?_drop]; exact hv0
    have hu1 : (vs.drop (3 * l.length))[1]? = some (.slice X x.length xc) := by rw [List.getElem?_drop]; exact hv1
    have hu2 : (vs.drop (3 * l.length))[2]? = some (.slice Y y.length yc) := by rw [List.getElem?_drop]; exact hv2
    have hZw := hZ.below hs.bel
    have hFw : RdB w3 F f := rF.below hs.bel
    by_cases hf1 : (f.length : Int) = 1
    case neg =>
      have hg : getG b = ([], 3) := by rw [hgG, ht1 (decide_eq_true (.inl (by omega)))]
      refine wc_skip ?_; refine we_seq ?_; refine wc_seq ?_; refine wc_block ?_; refine wc_seq ?_; refine wc_sr ?_; refine wl_mv rfl rfl ?_; apply wl_elK (T := tyBB) (hr := hZw) (hb := hu0); exact rfl; exact rfl; exact rfl; exact rfl; exact rfl; intro _; apply wl_val; apply opv_len; exact rfl; exact tyB.sl; exact rfl; refine wl_bin rfl rfl bin_neq rfl ?_; refine wl_mv rfl rfl ?_; apply wl_skip; exact rfl; exact rfl; exact rfl; refine bTn ?_; (with_reducible assumption); exact rfl; apply wl_skip; exact rfl; exact rfl; exact rfl; refine bTn ?_; (with_reducible assumption); exact rfl; apply wl_skip; exact rfl; exact rfl; exact rfl; refine bTn ?_; (with_reducible assumption); exact rfl; apply wl_skip; exact rfl; exact rfl; exact rfl; refine bTn ?_; (with_reducible assumption); exact rfl; apply wl_skip; exact rfl; exact rfl; exact rfl; refine bTn ?_; (with_reducible assumption); exact rfl; apply wl_skip; exact rfl; exact rfl; exact rfl; refine bTn ?_; (with_reducible assumption); exact rfl; apply wl_val; apply opv_pickT; exact rfl; refine bT ?_; (with_reducible assumption); exact rfl; exact rfl; refine wl_ns ?_; apply wc_condTb; exact rfl; exact rfl; refine wc_sr ?_; refine wl_as rfl rfl ?_; refine wl_as rfl rfl ?_; refine wl_ns ?_; refine wc_ret ?_; refine we_seq_ret ?_; refine we_block_ret ?_; refine we_seq_ret ?_; refine we_loop_ret ?_; refine we_block_ret ?_; refine we_seq_ret ?_
      exact we_ret2 rfl rfl rfl ⟨_, rfl, none, 0, by rw [hg]; rfl, by rw [hg]; exact ((hs0.drop 0 rfl).below hs.bel).nilG _ _⟩
    have hf1' : f.length = 1 := by omega
    have hubv := int_u8 hf1'
    have hub : f[0]? = some (f.headD 0) := by match f, hf1' with | [_], _ => rfl
    have hub2 : (f.headD 0).toNat < 256 := (f.headD 0).toNat_lt
    by_cases hf2 : (1 : Int) < ((f.headD 0).toNat : Int)
    case pos =>
      have hg : getG b = ([], 3) := by rw [hgG, ht1 (decide_eq_true (.inr (UInt8.lt_iff_toNat_lt.2 (by show 1 < _; omega))))]
      refine wc_skip ?_; refine we_seq ?_; refine wc_seq ?_; refine wc_block ?_; refine wc_seq ?_; refine wc_sr ?_; refine wl_mv rfl rfl ?_; apply wl_elK (T := tyBB) (hr := hZw) (hb := hu0); exact rfl; exact rfl; exact rfl; exact rfl; exact rfl; intro _; apply wl_val; apply opv_len; exact rfl; exact tyB.sl; exact rfl; refine wl_bin rfl rfl bin_neq rfl ?_; refine wl_mv rfl rfl ?_; apply wl_take; exact rfl; exact rfl; exact rfl; refine bF ?_; omega; refine wl_mv rfl rfl ?_; apply wl_elTK (T := tyBB) (hr := hZw) (hb := hu0); exact rfl; exact rfl; exact rfl; refine bF ?_; omega; exact rfl; exact rfl; exact rfl; exact rfl; refine bF ?_; omega; exact rfl; exact rfl; exact rfl; exact rfl; exact rfl; intro _; apply wl_byTK (T := tyB) (hr := hFw) (hb := hub); exact rfl; exact rfl; exact rfl; refine bF ?_; omega; exact rfl; exact rfl; exact rfl; exact rfl; refine bF ?_; omega; exact rfl; exact rfl; exact rfl; exact rfl; exact rfl; intro _; apply wl_take; exact rfl; exact rfl; exact rfl; refine bF ?_; omega; refine wl_bin rfl rfl bin_gtr rfl ?_; apply wl_val; apply opv_pickF; exact rfl; refine bF ?_; omega; exact rfl; exact rfl; refine wl_ns ?_; apply wc_decT; exact rfl; (with_reducible assumption); refine wc_sr ?_; refine wl_as rfl rfl ?_; refine wl_as rfl rfl ?_; refine wl_ns ?_; refine wc_ret ?_; refine we_seq_ret ?_; refine we_block_ret ?_; refine we_seq_ret ?_; refine we_loop_ret ?_; refine we_block_ret ?_; refine we_seq_ret ?_
      exact we_ret2 rfl rfl rfl ⟨_, rfl, none, 0, by rw [hg]; rfl, by rw [hg]; exact ((hs0.drop 0 rfl).below hs.bel).nilG _ _⟩
    have hbg : badG f = false := decide_eq_false fun k => by
      rcases k with k | k
      · omega
      · have := UInt8.lt_iff_toNat_lt.1 k
        replace this : 1 < (f.headD 0).toNat := this
        omega
    replace ht2 := ht2 hbg
    have hex : (decide (((f.headD 0).toNat : Int) = 1)) = decide (f.headD 0 = 1) := by
      congr 1
      rw [eq_iff_iff]
      constructor
      · intro k; exact UInt8.toNat_inj.1 (by show _ = 1; omega)
      · intro k; rw [k]; rfl
    refine wc_skip ?_; refine we_seq ?_; refine wc_seq ?_; refine wc_block ?_; refine wc_seq ?_; refine wc_sr ?_; refine wl_mv rfl rfl ?_; apply wl_elK (T := tyBB) (hr := hZw) (hb := hu0); exact rfl; exact rfl; exact rfl; exact rfl; exact rfl; intro _; apply wl_val; apply opv_len; exact rfl; exact tyB.sl; exact rfl; refine wl_bin rfl rfl bin_neq rfl ?_; refine wl_mv rfl rfl ?_; apply wl_take; exact rfl; exact rfl; exact rfl; refine bF ?_; omega; refine wl_mv rfl rfl ?_; apply wl_elTK (T := tyBB) (hr := hZw) (hb := hu0); exact rfl; exact rfl; exact rfl; refine bF ?_; omega; exact rfl; exact rfl; exact rfl; exact rfl; refine bF ?_; omega; exact rfl; exact rfl; exact rfl; exact rfl; exact rfl; intro _; apply wl_byTK (T := tyB) (hr := hFw) (hb := hub); exact rfl; exact rfl; exact rfl; refine bF ?_; omega; exact rfl; exact rfl; exact rfl; exact rfl; refine bF ?_; omega; exact rfl; exact rfl; exact rfl; exact rfl; exact rfl; intro _; apply wl_take; exact rfl; exact rfl; exact rfl; refine bF ?_; omega; refine wl_bin rfl rfl bin_gtr rfl ?_; apply wl_val; apply opv_pickF; exact rfl; refine bF ?_; omega; exact rfl; exact rfl; refine wl_ns ?_; apply wc_decF; exact rfl; (with_reducible assumption); refine wc_skip ?_; refine we_seq ?_
    replace hs := hs.below (Below.refl _ _).drew
    refine wc_held (Below w2.heap.size w2) mixed ?_
    have hS := hs.bel
    have hFv : Rd w2 F f.length (bvs f) := rF
    apply wh_takeH 0; exact rfl; intro _ hw_; apply opv_move; exact rfl; exact rfl; kernel_rfl; exact hS; apply wh_takeH 1; exact rfl; intro _ hw_; apply opv_move; exact rfl; exact rfl; kernel_rfl; exact hS; apply wh_takeH 2; exact rfl; intro _ hw_; apply opv_idxR (T := tyBB) (hr := hZw) (hu := hu1); exact rfl; exact rfl; exact rfl; exact rfl; kernel_rfl; exact hS; apply wh_takeH 3; exact rfl; intro _ hw_; refine opv_loadR tyBB rfl (hZ.below hw_) hu1; exact rfl; kernel_rfl; exact hS; apply wh_takeH 4; exact rfl; intro _ hw_; apply opv_move; exact rfl; exact rfl; kernel_rfl; exact hS; apply wh_takeH 5; exact rfl; intro _ hw_; apply opv_idxR (T := tyBB) (hr := hZw) (hu := hu2); exact rfl; exact rfl; exact rfl; exact rfl; kernel_rfl; exact hS; apply wh_takeH 6; exact rfl; intro _ hw_; refine opv_loadR tyBB rfl (hZ.below hw_) hu2; exact rfl; kernel_rfl; exact hS; apply wh_takeH 7; exact rfl; intro _ hw_; apply opv_move; exact rfl; exact rfl; kernel_rfl; exact hS; apply wh_takeH 8; exact rfl; intro _ hw_; apply opv_idxR (T := tyBB) (hr := hZw) (hu := hu0); exact rfl; exact rfl; exact rfl; exact rfl; kernel_rfl; exact hS; apply wh_takeH 9; exact rfl; intro _ hw_; refine opv_loadR tyBB rfl (hZ.below hw_) hu0; exact rfl; kernel_rfl; exact hS; apply wh_takeH 10; exact rfl; intro _ hw_; apply opv_idxR (T := tyB) (hr := hFv) (hu := hubv); exact rfl; exact rfl; exact rfl; exact rfl; kernel_rfl; exact hS; apply wh_takeH 11; exact rfl; intro _ hw_; refine opv_loadR tyB rfl (hFv.below hw_) hubv; exact rfl; kernel_rfl; exact hS; apply wh_takeH 12; exact rfl; intro _ hw_; apply opv_bin; exact rfl; exact rfl; exact bin_eql; exact rfl; kernel_rfl; exact hS
    clear hS
    rw [hex]
    have hlc := OwR.len_le (hs.rg 0 rfl)
    rw [List.length_map, hrel.1] at hlc
    have hrl := hrel.1
    obtain ⟨z, hz⟩ : ∃ z : Rg, z = ⟨x, y, decide (f.headD 0 = 1)⟩ := ⟨_, rfl⟩
    refine wh_one 13 (o := ⟨_, _, _, _, _, _⟩) (by kernel_rfl) rfl ?_
    refine wl_val (opv_build (vs := [(0, .slice X x.length xc), (1, .slice Y y.length yc), (2, .bool (decide (f.headD 0 = 1)))]) (cs := rgV ⟨x, y, decide (f.headD 0 = 1)⟩ X xc Y yc) ⟨rfl, rfl, rfl, rfl, rfl, rfl, trivial⟩ (by kernel_rfl)) rfl ?_
    refine wl_nil ?_
    refine we_held hs.bel ?_
    refine wh_one 14 (o := ⟨_, _, _, _, _, _⟩) (by kernel_rfl) rfl ?_
    refine wl_bsG (css := [rgV ⟨x, y, decide (f.headD 0 = 1)⟩ X xc Y yc]) tkR ⟨rfl, ⟨_, rfl, rfl⟩, rfl, trivial⟩ (els := [rgV ⟨x, y, decide (f.headD 0 = 1)⟩ X xc Y yc].map rawEl) (S := NoB) rfl (by decide) (by decide) (grp_raw (by simp [rgV])) rfl fun R w5 hR hbx _ => ?_
    replace hs := hs.newG hbx hR (Nat.le_refl _) fun _ _ h => h.elim
    clear hR hbx
    refine wl_nil ?_
    refine we_held hs.bel ?_
    refine wh_one 15 (o := ⟨_, _, _, _, _, _⟩) (by kernel_rfl) rfl ?_
    refine ws_appR (css := [rgV ⟨x, y, decide (f.headD 0 = 1)⟩ X xc Y yc]) (m := 1) hs 1 rfl rfl tkR (by simp [hrl]) rfl (OwR.rd (hs.rg 0 rfl)) rfl (rgV_all _ _ _ _ _) (by omega) (by simp only [maxLen]; omega) rfl ?_
    clear hs; intro Q2 cq2 w8 hs; dsimp only [setC] at hs
    refine wl_nil ?_
    refine we_held hs.bel ?_
    refine wh_one 16 (o := ⟨_, _, _, _, _, _⟩) (by kernel_rfl) rfl ?_
    refine wl_as rfl rfl ?_; refine wl_nil ?_
    refine we_held hs.bel ?_
    refine wh_done (by kernel_rfl) ?_
    refine we_block_norm ?_; refine we_seq ?_; refine wc_region ?_; refine wl_mv rfl rfl ?_
    refine wl_sl (l := 3) (h := mm) tyBB rfl ⟨_, rfl⟩ rfl (by omega) (by omega) rfl ?_
    refine wl_as rfl rfl ?_; refine wl_nil ?_
    have hZ2 := hZ.cut (l := 3) (h := mm) (by omega) (Nat.le_refl _) hzc
    rw [List.take_of_length_le (by rw [List.length_drop, hvl]; omega), List.drop_drop, show 3 * l.length + 3 = 3 * (l ++ [z]).length by simp; omega] at hZ2
    have hlz : (l ++ [z]).length = l.length + 1 := by simp
    rw [← hlz]
    replace hs := hs.drop 0 rfl
    dsimp only [delC] at hs
    rw [← List.map_append] at hs
    exact we_loop _ (mm - 3) ⟨(l ++ [z]).length, mm - 3, l ++ [z], _, Q2, cq2, cutA Z zc 3, zc - 3, rfl, by omega, by omega, hZ2, rfl, by rw [hlz, hz]; exact ht2, by subst hz; exact hrel.add (x := ⟨x, y, decide (f.headD 0 = 1)⟩) hv1 hx hv2 hy, hs, rfl⟩ (by omega) ⟨rfl, by simp [lookT], trivial⟩
  · have hth : thr ps = some l := by
      rw [hthr, List.drop_of_length_le (by omega)]
      simp [thr]
    rw [hth] at hgG
    dsimp only at hgG
    have hlc := OwR.len_le (hs.rg 0 rfl)
    rw [List.length_map, hrel.1] at hlc
    replace hs := (hs0.call hs).map (H' := [.rg 3 61 Q cq (l.map rgEl)]) fun S h => rg_tail (els := []) (els2 := l.map rgEl) (fun U hc => hrel.grp hc) h
    have hlb : l.length ≤ 1099511627776 := by omega
    clear hs0 hrel hZ hthr
    refine wc_exit ?_; refine we_seq_exit ?_; refine we_loop_exit ?_; refine we_block_exit ?_; refine we_seq ?_; refine wc_seq ?_; refine wc_sr ?_; refine wl_mv rfl rfl ?_; apply wl_val; apply opv_len; exact rfl; exact tkR.sl; exact rfl; refine wl_mv rfl rfl ?_; refine wl_ns ?_; refine wc_block ?_
    refine wc_loop (fun L wr mm => ∃ i : Nat, L = [(6, .slice Q l.length cq), (57, .int .i64 (l.length : Int)), (58, .int .i64 (i : Int))] ∧ i ≤ l.length ∧ ((l.take i).any fun r => decide (checkR [r] ≠ 0)) = false ∧ St NoB w wr [.rg 3 61 Q cq (l.map rgEl)] ∧ mm = l.length - i)
      [(6, .slice Q l.length cq), (57, .int .i64 (l.length : Int)), (58, .int .i64 (0 : Nat))] l.length ⟨0, rfl, by omega, rfl, hs, rfl⟩ ⟨rfl, rfl, rfl, trivial⟩ ?_
    clear hs
    rintro _ w4 mm2 ⟨i, rfl, hi, hany, hs, rfl⟩
    refine wc_sr ?_; refine wl_bin rfl rfl bin_lss rfl ?_; refine wl_ns ?_; refine wc_seq ?_
    refine wc_cond rfl (fun g1 => ?_) (fun g1 => ?_)
    · obtain ⟨x, hx⟩ : ∃ x, l[i]? = some x := ⟨_, List.getElem?_eq_getElem (by omega)⟩
      have hft := any_take (p := fun r => decide (checkR [r] ≠ 0)) hx
      rw [hany, Bool.false_or] at hft
      have hcut := RdR.cut (l := i) (h := i + 1) (OwR.rd (hs.rg 0 rfl)) (by simp) (by omega) (by omega) hlc
      have hone : (((l.map rgEl).take (i + 1)).drop i) = [x].map rgEl := by
        rw [← List.map_take, take_getR hx, List.map_append, List.drop_left']
        simp; omega
      rw [hone] at hcut
      refine wc_skip ?_; refine we_seq ?_; refine wc_seq ?_; refine wc_block ?_; refine wc_sr ?_; refine wl_mv rfl rfl ?_; refine wl_as rfl rfl ?_; refine wl_ns ?_; refine wc_sr ?_; refine wl_mv rfl rfl ?_; refine wl_mv rfl rfl ?_; refine wl_mv rfl rfl ?_; apply wl_val; apply opv_bin; exact rfl; exact rfl; exact bin_add64 (by omega); exact rfl
      refine wl_slK (l := i) (h := i + 1) tkR rfl ⟨_, rfl⟩ ⟨_, rfl⟩ (by omega) (by omega) rfl ?_
      skip
      refine wl_call ok_lock_check (check_any (l := [x]) hcut (by simp) (by simp)) ⟨rfl, trivial⟩ rfl ?_
      rintro _ w5 ⟨rfl, hbx⟩
      replace hs := hs.below hbx
      clear hbx hcut
      by_cases hck : ((checkR [x] : Nat) : Int) = 0
      · have hb0 : decide (checkR [x] ≠ 0) = false := decide_eq_false (by omega)
        have hcn : ¬ (((checkR [x] : Nat) : Int) ≠ 0) := fun h => h hck
        refine wl_bin rfl rfl bin_neq rfl ?_; refine wl_ns ?_; apply wc_decF; exact rfl; (with_reducible assumption); refine wc_skip ?_; refine we_block_norm ?_; refine we_seq ?_; refine wc_region ?_; apply wl_val; apply opv_bin; exact rfl; exact rfl; exact bin_add64 (by omega); exact rfl; refine wl_mv rfl rfl ?_; refine wl_nil ?_
        exact we_loop _ (l.length - (i + 1)) ⟨i + 1, rfl, by omega, by rw [hft, hb0], hs, rfl⟩ (by omega) ⟨rfl, rfl, by simp [lookT], trivial⟩
      · have hb0 : (l.any fun r => decide (checkR [r] ≠ 0)) = true := any_at hx (decide_eq_true (by omega))
        have hg : getG b = ([], 3) := by rw [hgG, hb0]; rfl
        refine wl_bin rfl rfl bin_neq rfl ?_; refine wl_ns ?_; apply wc_decT; exact rfl; (with_reducible assumption); refine wc_sr ?_; refine wl_as rfl rfl ?_; refine wl_as rfl rfl ?_; refine wl_ns ?_; refine wc_ret ?_; refine we_block_ret ?_; refine we_seq_ret ?_; refine we_loop_ret ?_; refine we_block_ret ?_; refine we_seq_ret ?_
        exact we_ret2 rfl rfl rfl ⟨_, rfl, none, 0, by rw [hg]; rfl, by rw [hg]; exact (hs.drop 0 rfl).nilG _ _⟩
    · obtain rfl : i = l.length := by omega
      rw [List.take_length] at hany
      have hg : getG b = (l, 0) := by rw [hgG, hany]; rfl
      refine wc_exit ?_; refine we_seq_exit ?_; refine we_loop_exit ?_; refine we_block_exit ?_; refine we_seq ?_; refine wc_sr ?_; refine wl_mv rfl rfl ?_; refine wl_as rfl rfl ?_; refine wl_as rfl rfl ?_; refine wl_ns ?_; refine wc_ret ?_
      exact we_ret2 rfl rfl rfl ⟨_, rfl, Q, cq, by rw [hg]; rfl, by rw [hg]; exact hs⟩
end Go.Proofs.Ytmdbjeabifkimaa

/-
  Walk over one of locks: an owner out of four parts.
-/
namespace Go.Proofs.Ytmdbjeabifkimaa
open Go.RowKit

/-- An owner, its place and one, an error are handed back. -/
def RetOne (w : World) (r : Ownr × Nat × Nat) (v : Value) (w' : World) : Prop :=
  (r.2.2 ≠ 0 ∧ v = .tuple #[.pointer none, .int .i64 0, .int .i64 (r.2.2 : Int)] ∧ Below w.heap.size w w') ∨
  (r.2.2 = 0 ∧ ∃ g, v = .tuple #[pN g, .int .i64 (r.2.1 : Int), .int .i64 0] ∧ St NoB w w' [.ck (ownC g r.1)])
set_option maxHeartbeats 2000000 in
theorem one_any {A F0 F1 F2 F3 : Option Addr} {n c c0 c1 c2 c3 : Nat} {vs : List Value} {p0 p1 p2 p3 : List UInt8} {w : World} (hZ : Rd w A n vs)
    (h0 : vs[0]? = some (.slice F0 p0.length c0)) (h1 : vs[1]? = some (.slice F1 p1.length c1)) (h2 : vs[2]? = some (.slice F2 p2.length c2)) (h3 : vs[3]? = some (.slice F3 p3.length c3))
    (r0 : RdB w F0 p0) (r1 : RdB w F1 p1) (r2 : RdB w F2 p2) (r3 : RdB w F3 p3) (k1 : p1.length ≤ c1) (k2 : p2.length ≤ c2)
    (l0 : p0.length ≤ 1099511627776) (l1 : p1.length ≤ 1099511627776) (l2 : p2.length ≤ 1099511627776) (l3 : p3.length ≤ 1099511627776) :
    CallsV Try.prog 49 #[.slice A n c] w (RetOne w (oneO p0 p1 p2 p3)) := by
  have hs := St.init w
  have hn : n = vs.length := by have := hZ.1; omega
  have h3l := (List.getElem?_eq_some_iff.1 h3).1
  obtain ⟨s, q1, e1, hu0⟩ : ∃ s q e, getU p0 0 = (s, q, e) := ⟨_, _, _, rfl⟩
  have hu0' : getU p0 ((0 : Nat) : Int) = (s, q1, e1) := hu0
  refine calls_in (N := _) Try.func49 rfl Try.ntmps49 rfl ?_; show WC _ _ _ _ _ _
  refine wc_sr ?_; refine wl_as rfl rfl ?_; refine wl_as rfl rfl ?_; refine wl_as rfl rfl ?_; refine wl_ns ?_; refine wc_sr ?_; refine wl_mv rfl rfl ?_; apply wl_elK (T := tyBB) (hr := hZ) (hb := h0); exact rfl; exact rfl; exact rfl; exact rfl; exact rfl; intro _
  refine wl_call ok_codec_GetU (getU_at hu0 r0 rfl (by simp only [maxLen]; omega) (by omega)) ⟨rfl, rfl, trivial⟩ rfl ?_
  rintro _ w2 ⟨rfl, hbx⟩
  replace hs := hs.below hbx
  clear hbx
  by_cases he1 : e1 = 0
  case neg =>
    have he1' : ¬ ((e1 : Nat) : Int) = 0 := by omega
    have hO : oneO p0 p1 p2 p3 = (noO, 0, e1) := by unfold oneO; rw [if_pos (by rw [hu0]; exact he1), hu0]
    refine wl_mv rfl rfl ?_; apply wl_val; apply opv_extract; exact rfl; exact rfl; exact rfl; apply wl_val; apply opv_extract; exact rfl; exact rfl; exact rfl; apply wl_val; apply opv_extract; exact rfl; exact rfl; exact rfl; refine wl_as rfl rfl ?_; refine wl_as rfl rfl ?_; refine wl_as rfl rfl ?_; refine wl_ns ?_; refine wc_seq ?_; refine wc_sr ?_; refine wl_mv rfl rfl ?_; refine wl_bin rfl rfl bin_neq rfl ?_; refine wl_ns ?_; apply wc_decT; exact rfl; (with_reducible assumption); refine wc_sr ?_; refine wl_mv rfl rfl ?_; refine wl_as rfl rfl ?_; refine wl_as rfl rfl ?_; refine wl_as rfl rfl ?_; refine wl_ns ?_; refine wc_ret ?_; refine we_seq_ret ?_
    exact we_ret3 rfl rfl rfl rfl ⟨_, rfl, .inl ⟨by rw [hO]; exact he1, by rw [hO], hs.bel⟩⟩
  subst he1
  obtain ⟨q1, rfl, _, hq1⟩ := getU_next (q := 0) hu0'
  obtain ⟨z, q2, e2, hu1⟩ : ∃ s q e, getU p0 (q1 : Int) = (s, q, e) := ⟨_, _, _, rfl⟩
  have hZw := hZ.below hs.bel
  refine wl_mv rfl rfl ?_; apply wl_val; apply opv_extract; exact rfl; exact rfl; exact rfl; apply wl_val; apply opv_extract; exact rfl; exact rfl; exact rfl; apply wl_val; apply opv_extract; exact rfl; exact rfl; exact rfl; refine wl_as rfl rfl ?_; refine wl_as rfl rfl ?_; refine wl_as rfl rfl ?_; refine wl_ns ?_; refine wc_seq ?_; refine wc_sr ?_; refine wl_mv rfl rfl ?_; refine wl_bin rfl rfl bin_neq rfl ?_; refine wl_ns ?_; apply wc_condFb; exact rfl; exact rfl; refine wc_skip ?_; refine we_seq ?_; refine wc_sr ?_; refine wl_mv rfl rfl ?_; apply wl_elK (T := tyBB) (hr := hZw) (hb := h0); exact rfl; exact rfl; exact rfl; exact rfl; exact rfl; intro _; refine wl_mv rfl rfl ?_
  refine wl_call ok_codec_GetU (getU_at hu1 (r0.below hs.bel) rfl (by simp only [maxLen]; omega) (by omega)) ⟨rfl, rfl, trivial⟩ rfl ?_
  rintro _ w3 ⟨rfl, hbx⟩
  replace hs := hs.below hbx
  clear hbx hZw
  by_cases he2 : e2 = 0
  case neg =>
    have he2' : ¬ ((e2 : Nat) : Int) = 0 := by omega
    have hO : oneO p0 p1 p2 p3 = (noO, 0, e2) := by
      unfold oneO
      simp only [hu0, hu1, ne_eq, not_true, if_false]
      rw [if_pos he2]
    refine wl_mv rfl rfl ?_; apply wl_val; apply opv_extract; exact rfl; exact rfl; exact rfl; apply wl_val; apply opv_extract; exact rfl; exact rfl; exact rfl; apply wl_val; apply opv_extract; exact rfl; exact rfl; exact rfl; refine wl_as rfl rfl ?_; refine wl_as rfl rfl ?_; refine wl_as rfl rfl ?_; refine wl_ns ?_; refine wc_seq ?_; refine wc_sr ?_; refine wl_mv rfl rfl ?_; refine wl_bin rfl rfl bin_neq rfl ?_; refine wl_ns ?_; apply wc_decT; exact rfl; (with_reducible assumption); refine wc_sr ?_; refine wl_mv rfl rfl ?_; refine wl_as rfl rfl ?_; refine wl_as rfl rfl ?_; refine wl_as rfl rfl ?_; refine wl_ns ?_; refine wc_ret ?_; refine we_seq_ret ?_
    exact we_ret3 rfl rfl rfl rfl ⟨_, rfl, .inl ⟨by rw [hO]; exact he2, by rw [hO], hs.bel⟩⟩
  subst he2
  obtain ⟨q2, rfl, _, hq2⟩ := getU_next hu1
  obtain ⟨pl, q3, e3, hu3⟩ : ∃ s q e, getU p3 0 = (s, q, e) := ⟨_, _, _, rfl⟩
  have hZw := hZ.below hs.bel
  refine wl_mv rfl rfl ?_; apply wl_val; apply opv_extract; exact rfl; exact rfl; exact rfl; apply wl_val; apply opv_extract; exact rfl; exact rfl; exact rfl; apply wl_val; apply opv_extract; exact rfl; exact rfl; exact rfl; refine wl_as rfl rfl ?_; refine wl_as rfl rfl ?_; refine wl_as rfl rfl ?_; refine wl_ns ?_; refine wc_seq ?_; refine wc_sr ?_; refine wl_mv rfl rfl ?_; refine wl_bin rfl rfl bin_neq rfl ?_; refine wl_ns ?_; apply wc_condFb; exact rfl; exact rfl; refine wc_skip ?_; refine we_seq ?_; refine wc_sr ?_; refine wl_mv rfl rfl ?_; apply wl_elK (T := tyBB) (hr := hZw) (hb := h3); exact rfl; exact rfl; exact rfl; exact rfl; exact rfl; intro _
  refine wl_call ok_codec_GetU (getU_at hu3 (r3.below hs.bel) rfl (by simp only [maxLen]; omega) (by omega)) ⟨rfl, rfl, trivial⟩ rfl ?_
  rintro _ w4 ⟨rfl, hbx⟩
  replace hs := hs.below hbx
  clear hbx hZw
  by_cases he3 : e3 = 0
  case neg =>
    have he3' : ¬ ((e3 : Nat) : Int) = 0 := by omega
    have hO : oneO p0 p1 p2 p3 = (noO, 0, e3) := by
      unfold oneO
      simp only [hu0, hu1, hu3, ne_eq, not_true, if_false]
      rw [if_pos he3]
    refine wl_mv rfl rfl ?_; apply wl_val; apply opv_extract; exact rfl; exact rfl; exact rfl; apply wl_val; apply opv_extract; exact rfl; exact rfl; exact rfl; apply wl_val; apply opv_extract; exact rfl; exact rfl; exact rfl; refine wl_as rfl rfl ?_; refine wl_as rfl rfl ?_; refine wl_as rfl rfl ?_; refine wl_ns ?_; refine wc_seq ?_; refine wc_sr ?_; refine wl_mv rfl rfl ?_; refine wl_bin rfl rfl bin_neq rfl ?_; refine wl_ns ?_; apply wc_decT; exact rfl; (with_reducible assumption); refine wc_sr ?_; refine wl_mv rfl rfl ?_; refine wl_as rfl rfl ?_; refine wl_as rfl rfl ?_; refine wl_as rfl rfl ?_; refine wl_ns ?_; refine wc_ret ?_; refine we_seq_ret ?_
    exact we_ret3 rfl rfl rfl rfl ⟨_, rfl, .inl ⟨by rw [hO]; exact he3, by rw [hO], hs.bel⟩⟩
  subst he3
  have hu3' : getU p3 ((0 : Nat) : Int) = (pl, q3, 0) := hu3
  obtain ⟨q3, rfl, _, hq3⟩ := getU_next (q := 0) hu3'
  have hplf := getU_fits p3 0
  rw [hu3] at hplf
  replace hplf : pl < 18446744073709551616 := hplf
  refine wl_mv rfl rfl ?_; apply wl_val; apply opv_extract; exact rfl; exact rfl; exact rfl; apply wl_val; apply opv_extract; exact rfl; exact rfl; exact rfl; apply wl_val; apply opv_extract; exact rfl; exact rfl; exact rfl; refine wl_as rfl rfl ?_; refine wl_as rfl rfl ?_; refine wl_as rfl rfl ?_; refine wl_ns ?_; refine wc_seq ?_; refine wc_sr ?_; refine wl_mv rfl rfl ?_; refine wl_bin rfl rfl bin_neq rfl ?_; refine wl_ns ?_; apply wc_condFb; exact rfl; exact rfl; refine wc_skip ?_; refine we_seq ?_; refine wc_sr ?_; refine wl_mv rfl rfl ?_; refine wl_mv rfl rfl ?_
  refine wl_val (opv_build (vs := [(0, .int .u64 (s : Int)), (1, .int .u64 (z : Int))]) (cs := txV (s, z)) ⟨rfl, rfl, rfl, rfl, trivial⟩ (by kernel_rfl)) rfl ?_
  skip
  refine wl_val (opv_build (vs := [(0, .agg (txV (s, z)).toArray)]) (cs := owV ⟨(s, z), [], []⟩ none 0 none 0) ⟨rfl, rfl, trivial⟩ (by kernel_rfl)) rfl ?_
  refine ws_box (cs := owV ⟨(s, z), [], []⟩ none 0 none 0) hs rfl rfl ?_
  clear hs; intro g w5 hs
  unfold owV at hs
  dsimp only [List.length_nil] at hs
  have hZw := hZ.below hs.bel
  refine wl_as rfl rfl ?_; refine wl_ns ?_; refine wc_seq ?_; refine wc_sr ?_; refine wl_mv rfl rfl ?_; refine wl_mv rfl rfl ?_; apply wl_elK (T := tyBB) (hr := hZw) (hb := h1); exact rfl; exact rfl; exact rfl; exact rfl; exact rfl; intro _
  refine wl_call ok_lock_get (get_any (r1.below hs.bel) rfl k1 l1) ⟨rfl, trivial⟩ rfl ?_
  rintro _ w6 ⟨H, hc, rfl, hsx⟩
  replace hs := (hs.call hsx).front 1 rfl
  clear hsx hZw
  dsimp only [List.cons_append, List.nil_append, delC] at hs
  obtain ⟨hh, eh, hgh⟩ : ∃ a e, getG p1 = (a, e) := ⟨_, _, rfl⟩
  rw [hgh] at hs
  rw [hgh]
  dsimp only at hs
  dsimp only
  by_cases he4 : eh = 0
  case neg =>
    have he4' : ¬ ((eh : Nat) : Int) = 0 := by omega
    have hO : oneO p0 p1 p2 p3 = (noO, 0, eh) := by
      unfold oneO
      simp only [hu0, hu1, hu3, hgh, ne_eq, not_true, if_false]
      rw [if_pos he4]
    refine wl_mv rfl rfl ?_; apply wl_val; apply opv_extract; exact rfl; exact rfl; exact rfl; apply wl_val; apply opv_extract; exact rfl; exact rfl; exact rfl; apply wl_val; apply opv_nilOk; exact rfl; exact rfl; apply wl_val; apply opv_fa; exact fa_O1; exact rfl; exact rfl; apply ws_st hs 0; exact rfl; exact rfl; exact e1_rgs; exact rfl; exact rfl; exact rfl; clear hs; intro _ hs; dsimp only [setC, List.set] at hs; refine wl_as rfl rfl ?_; refine wl_ns ?_; refine wc_sr ?_; refine wl_mv rfl rfl ?_; refine wl_bin rfl rfl bin_neq rfl ?_; refine wl_ns ?_; apply wc_decT; exact rfl; (with_reducible assumption); refine wc_sr ?_; refine wl_mv rfl rfl ?_; refine wl_as rfl rfl ?_; refine wl_as rfl rfl ?_; refine wl_as rfl rfl ?_; refine wl_ns ?_; refine wc_ret ?_; refine we_seq_ret ?_
    exact we_ret3 rfl rfl rfl rfl ⟨_, rfl, .inl ⟨by rw [hO]; exact he4, by rw [hO], hs.bel⟩⟩
  subst he4
  refine wl_mv rfl rfl ?_; apply wl_val; apply opv_extract; exact rfl; exact rfl; exact rfl; apply wl_val; apply opv_extract; exact rfl; exact rfl; exact rfl; apply wl_val; apply opv_nilOk; exact rfl; exact rfl; apply wl_val; apply opv_fa; exact fa_O1; exact rfl; exact rfl; apply ws_st hs 0; exact rfl; exact rfl; exact e1_rgs; exact rfl; exact rfl; exact rfl; clear hs; intro _ hs; dsimp only [setC, List.set] at hs; refine wl_as rfl rfl ?_; refine wl_ns ?_; refine wc_sr ?_; refine wl_mv rfl rfl ?_; refine wl_bin rfl rfl bin_neq rfl ?_; refine wl_ns ?_; apply wc_condFb; exact rfl; exact rfl; refine wc_skip ?_; refine we_seq ?_; refine wc_seq ?_; refine wc_sr ?_; refine wl_mv rfl rfl ?_; refine wl_mv rfl rfl ?_
  have hZw := hZ.below hs.bel
  apply wl_elK (T := tyBB) (hr := hZw) (hb := h2); exact rfl; exact rfl; exact rfl; exact rfl; exact rfl; intro _
  refine wl_call ok_lock_get (get_any (r2.below hs.bel) rfl k2 l2) ⟨rfl, trivial⟩ rfl ?_
  rintro _ w7 ⟨K, kc, rfl, hsx⟩
  replace hs := ((hs.call hsx).front 2 rfl).front 1 rfl
  clear hsx hZw
  replace hs := hs.front 2 rfl
  dsimp only [List.cons_append, List.nil_append, delC] at hs
  obtain ⟨aa, ea, hga⟩ : ∃ a e, getG p2 = (a, e) := ⟨_, _, rfl⟩
  rw [hga] at hs
  rw [hga]
  dsimp only at hs
  dsimp only
  by_cases he5 : ea = 0
  case neg =>
    have he5' : ¬ ((ea : Nat) : Int) = 0 := by omega
    have hO : oneO p0 p1 p2 p3 = (noO, 0, ea) := by
      unfold oneO
      simp only [hu0, hu1, hu3, hgh, hga, ne_eq, not_true, if_false]
      rw [if_pos he5]
    refine wl_mv rfl rfl ?_; apply wl_val; apply opv_extract; exact rfl; exact rfl; exact rfl; apply wl_val; apply opv_extract; exact rfl; exact rfl; exact rfl; apply wl_val; apply opv_nilOk; exact rfl; exact rfl; apply wl_val; apply opv_fa; exact fa_O2; exact rfl; exact rfl; apply ws_st hs 0; exact rfl; exact rfl; exact e1_rgs; exact rfl; exact rfl; exact rfl; clear hs; intro _ hs; dsimp only [setC, List.set] at hs; refine wl_as rfl rfl ?_; refine wl_ns ?_; refine wc_sr ?_; refine wl_mv rfl rfl ?_; refine wl_bin rfl rfl bin_neq rfl ?_; refine wl_ns ?_; apply wc_decT; exact rfl; (with_reducible assumption); refine wc_sr ?_; refine wl_mv rfl rfl ?_; refine wl_as rfl rfl ?_; refine wl_as rfl rfl ?_; refine wl_as rfl rfl ?_; refine wl_ns ?_; refine wc_ret ?_; refine we_seq_ret ?_
    exact we_ret3 rfl rfl rfl rfl ⟨_, rfl, .inl ⟨by rw [hO]; exact he5, by rw [hO], hs.bel⟩⟩
  subst he5
  have hO : oneO p0 p1 p2 p3 = if (q2 : Int) < p0.length ∨ (q3 : Int) < p3.length ∨ 1048576 < pl ∨ pl = 0 ∧ 0 < aa.length ∨ 64 < aa.length then (noO, 0, 3) else (⟨(s, z), hh, aa⟩, pl, 0) := by
    unfold oneO
    simp only [hu0, hu1, hu3, hgh, hga, ne_eq, not_true, if_false]
  refine wl_mv rfl rfl ?_; apply wl_val; apply opv_extract; exact rfl; exact rfl; exact rfl; apply wl_val; apply opv_extract; exact rfl; exact rfl; exact rfl; apply wl_val; apply opv_nilOk; exact rfl; exact rfl; apply wl_val; apply opv_fa; exact fa_O2; exact rfl; exact rfl; apply ws_st hs 0; exact rfl; exact rfl; exact e1_rgs; exact rfl; exact rfl; exact rfl; clear hs; intro _ hs; dsimp only [setC, List.set] at hs; refine wl_as rfl rfl ?_; refine wl_ns ?_; refine wc_sr ?_; refine wl_mv rfl rfl ?_; refine wl_bin rfl rfl bin_neq rfl ?_; refine wl_ns ?_; apply wc_condFb; exact rfl; exact rfl; refine wc_skip ?_; refine we_seq ?_; refine wc_seq ?_; refine wc_sr ?_; refine wl_mv rfl rfl ?_; refine wl_mv rfl rfl ?_
  have hZw := hZ.below hs.bel
  by_cases c1 : (q2 : Int) < (p0.length : Int)
  case pos =>
    have hO : oneO p0 p1 p2 p3 = (noO, 0, 3) := by rw [hO, if_pos (.inl c1)]
    apply wl_elK (T := tyBB) (hr := hZw) (hb := h0); exact rfl; exact rfl; exact rfl; exact rfl; exact rfl; intro _; apply wl_val; apply opv_len; exact rfl; exact tyB.sl; exact rfl; refine wl_bin rfl rfl bin_lss rfl ?_; refine wl_mv rfl rfl ?_; apply wl_skip; exact rfl; exact rfl; exact rfl; refine bTn ?_; (with_reducible assumption); exact rfl; apply wl_skip; exact rfl; exact rfl; exact rfl; refine bTn ?_; (with_reducible assumption); exact rfl; apply wl_skip; exact rfl; exact rfl; exact rfl; refine bTn ?_; (with_reducible assumption); exact rfl; apply wl_skip; exact rfl; exact rfl; exact rfl; refine bTn ?_; (with_reducible assumption); exact rfl; apply wl_skip; exact rfl; exact rfl; exact rfl; refine bTn ?_; (with_reducible assumption); exact rfl; apply wl_skip; exact rfl; exact rfl; exact rfl; refine bTn ?_; (with_reducible assumption); exact rfl; apply wl_val; apply opv_pickT; exact rfl; refine bT ?_; (with_reducible assumption); exact rfl; exact rfl; refine wl_mv rfl rfl ?_; apply wl_skip; exact rfl; exact rfl; exact rfl; exact bR1; exact rfl; apply wl_skip; exact rfl; exact rfl; exact rfl; exact bR1; exact rfl; apply wl_val; apply opv_pickT; exact rfl; exact rfl; exact rfl; exact rfl; refine wl_mv rfl rfl ?_; apply wl_skip; exact rfl; exact rfl; exact rfl; exact bR1; exact rfl; apply wl_skip; exact rfl; exact rfl; exact rfl; exact bR1; exact rfl; apply wl_skip; exact rfl; exact rfl; exact rfl; exact bR1; exact rfl; apply wl_skipU; exact rfl; exact rfl; exact rfl; exact rfl; apply wl_skipU; exact rfl; exact rfl; exact rfl; exact rfl; apply wl_skipU; exact rfl; exact rfl; exact rfl; exact rfl; apply wl_skipU; exact rfl; exact rfl; exact rfl; exact rfl; apply wl_skipU; exact rfl; exact rfl; exact rfl; exact rfl; apply wl_skipU; exact rfl; exact rfl; exact rfl; exact rfl; apply wl_skip; exact rfl; exact rfl; exact rfl; exact bR1; exact rfl; apply wl_val; apply opv_pickT; exact rfl; exact rfl; exact rfl; exact rfl; refine wl_mv rfl rfl ?_; apply wl_skip; exact rfl; exact rfl; exact rfl; exact bR1; exact rfl; apply wl_skip; exact rfl; exact rfl; exact rfl; exact bR1; exact rfl; apply wl_skip; exact rfl; exact rfl; exact rfl; exact bR1; exact rfl; apply wl_skip; exact rfl; exact rfl; exact rfl; exact bR1; exact rfl; apply wl_skip; exact rfl; exact rfl; exact rfl; exact bR1; exact rfl; apply wl_skip; exact rfl; exact rfl; exact rfl; exact bR1; exact rfl; apply wl_val; apply opv_pickT; exact rfl; exact rfl; exact rfl; exact rfl; refine wl_ns ?_; apply wc_condTb; exact rfl; exact rfl; refine wc_sr ?_; refine wl_as rfl rfl ?_; refine wl_as rfl rfl ?_; refine wl_as rfl rfl ?_; refine wl_ns ?_; refine wc_ret ?_; refine we_seq_ret ?_
    exact we_ret3 rfl rfl rfl rfl ⟨_, rfl, .inl ⟨by rw [hO]; simp, by rw [hO]; rfl, hs.bel⟩⟩
  by_cases c2 : (q3 : Int) < (p3.length : Int)
  case pos =>
    have hO : oneO p0 p1 p2 p3 = (noO, 0, 3) := by rw [hO, if_pos (.inr (.inl c2))]
    apply wl_elK (T := tyBB) (hr := hZw) (hb := h0); exact rfl; exact rfl; exact rfl; exact rfl; exact rfl; intro _; apply wl_val; apply opv_len; exact rfl; exact tyB.sl; exact rfl; refine wl_bin rfl rfl bin_lss rfl ?_; refine wl_mv rfl rfl ?_; apply wl_take; exact rfl; exact rfl; exact rfl; refine bF ?_; (with_reducible assumption); refine wl_mv rfl rfl ?_; apply wl_take; exact rfl; exact rfl; exact rfl; refine bF ?_; (with_reducible assumption); refine wl_mv rfl rfl ?_; apply wl_elTK (T := tyBB) (hr := hZw) (hb := h3); exact rfl; exact rfl; exact rfl; refine bF ?_; (with_reducible assumption); exact rfl; exact rfl; exact rfl; exact rfl; refine bF ?_; (with_reducible assumption); exact rfl; exact rfl; exact rfl; exact rfl; exact rfl; intro _; apply wl_take; exact rfl; exact rfl; exact rfl; refine bF ?_; (with_reducible assumption); apply wl_val; apply opv_len; exact rfl; exact tyB.sl; exact rfl; apply wl_take; exact rfl; exact rfl; exact rfl; refine bF ?_; (with_reducible assumption); refine wl_bin rfl rfl bin_lss rfl ?_; apply wl_val; apply opv_pickF; exact rfl; refine bF ?_; (with_reducible assumption); exact rfl; exact rfl; refine wl_mv rfl rfl ?_; apply wl_skip; exact rfl; exact rfl; exact rfl; refine bTn ?_; (with_reducible assumption); exact rfl; apply wl_skip; exact rfl; exact rfl; exact rfl; refine bTn ?_; (with_reducible assumption); exact rfl; apply wl_val; apply opv_pickT; exact rfl; refine bT ?_; (with_reducible assumption); exact rfl; exact rfl; refine wl_mv rfl rfl ?_; apply wl_skip; exact rfl; exact rfl; exact rfl; exact bR1; exact rfl; apply wl_skip; exact rfl; exact rfl; exact rfl; exact bR1; exact rfl; apply wl_skip; exact rfl; exact rfl; exact rfl; exact bR1; exact rfl; apply wl_skipU; exact rfl; exact rfl; exact rfl; exact rfl; apply wl_skipU; exact rfl; exact rfl; exact rfl; exact rfl; apply wl_skipU; exact rfl; exact rfl; exact rfl; exact rfl; apply wl_skipU; exact rfl; exact rfl; exact rfl; exact rfl; apply wl_skipU; exact rfl; exact rfl; exact rfl; exact rfl; apply wl_skipU; exact rfl; exact rfl; exact rfl; exact rfl; apply wl_skip; exact rfl; exact rfl; exact rfl; exact bR1; exact rfl; apply wl_val; apply opv_pickT; exact rfl; exact rfl; exact rfl; exact rfl; refine wl_mv rfl rfl ?_; apply wl_skip; exact rfl; exact rfl; exact rfl; exact bR1; exact rfl; apply wl_skip; exact rfl; exact rfl; exact rfl; exact bR1; exact rfl; apply wl_skip; exact rfl; exact rfl; exact rfl; exact bR1; exact rfl; apply wl_skip; exact rfl; exact rfl; exact rfl; exact bR1; exact rfl; apply wl_skip; exact rfl; exact rfl; exact rfl; exact bR1; exact rfl; apply wl_skip; exact rfl; exact rfl; exact rfl; exact bR1; exact rfl; apply wl_val; apply opv_pickT; exact rfl; exact rfl; exact rfl; exact rfl; refine wl_ns ?_; apply wc_condTb; exact rfl; exact rfl; refine wc_sr ?_; refine wl_as rfl rfl ?_; refine wl_as rfl rfl ?_; refine wl_as rfl rfl ?_; refine wl_ns ?_; refine wc_ret ?_; refine we_seq_ret ?_
    exact we_ret3 rfl rfl rfl rfl ⟨_, rfl, .inl ⟨by rw [hO]; simp, by rw [hO]; rfl, hs.bel⟩⟩
  by_cases c3 : (1048576 : Int) < (pl : Int)
  case pos =>
    have hO : oneO p0 p1 p2 p3 = (noO, 0, 3) := by rw [hO, if_pos (.inr (.inr (.inl (by omega))))]
    apply wl_elK (T := tyBB) (hr := hZw) (hb := h0); exact rfl; exact rfl; exact rfl; exact rfl; exact rfl; intro _; apply wl_val; apply opv_len; exact rfl; exact tyB.sl; exact rfl; refine wl_bin rfl rfl bin_lss rfl ?_; refine wl_mv rfl rfl ?_; apply wl_take; exact rfl; exact rfl; exact rfl; refine bF ?_; (with_reducible assumption); refine wl_mv rfl rfl ?_; apply wl_take; exact rfl; exact rfl; exact rfl; refine bF ?_; (with_reducible assumption); refine wl_mv rfl rfl ?_; apply wl_elTK (T := tyBB) (hr := hZw) (hb := h3); exact rfl; exact rfl; exact rfl; refine bF ?_; (with_reducible assumption); exact rfl; exact rfl; exact rfl; exact rfl; refine bF ?_; (with_reducible assumption); exact rfl; exact rfl; exact rfl; exact rfl; exact rfl; intro _; apply wl_take; exact rfl; exact rfl; exact rfl; refine bF ?_; (with_reducible assumption); apply wl_val; apply opv_len; exact rfl; exact tyB.sl; exact rfl; apply wl_take; exact rfl; exact rfl; exact rfl; refine bF ?_; (with_reducible assumption); refine wl_bin rfl rfl bin_lss rfl ?_; apply wl_val; apply opv_pickF; exact rfl; refine bF ?_; (with_reducible assumption); exact rfl; exact rfl; refine wl_mv rfl rfl ?_; apply wl_take; exact rfl; exact rfl; exact rfl; refine bF ?_; (with_reducible assumption); refine wl_mv rfl rfl ?_; apply wl_take; exact rfl; exact rfl; exact rfl; refine bF ?_; (with_reducible assumption); refine wl_bin rfl rfl bin_gtr rfl ?_; apply wl_val; apply opv_pickF; exact rfl; refine bF ?_; (with_reducible assumption); exact rfl; exact rfl; refine wl_mv rfl rfl ?_; apply wl_skip; exact rfl; exact rfl; exact rfl; refine bTn ?_; (with_reducible assumption); exact rfl; apply wl_skip; exact rfl; exact rfl; exact rfl; refine bTn ?_; (with_reducible assumption); exact rfl; apply wl_skip; exact rfl; exact rfl; exact rfl; refine bTn ?_; (with_reducible assumption); exact rfl; apply wl_skipU; exact rfl; exact rfl; exact rfl; exact rfl; apply wl_skipU; exact rfl; exact rfl; exact rfl; exact rfl; apply wl_skipU; exact rfl; exact rfl; exact rfl; exact rfl; apply wl_skipU; exact rfl; exact rfl; exact rfl; exact rfl; apply wl_skipU; exact rfl; exact rfl; exact rfl; exact rfl; apply wl_skipU; exact rfl; exact rfl; exact rfl; exact rfl; apply wl_skip; exact rfl; exact rfl; exact rfl; refine bTn ?_; (with_reducible assumption); exact rfl; apply wl_val; apply opv_pickT; exact rfl; refine bT ?_; (with_reducible assumption); exact rfl; exact rfl; refine wl_mv rfl rfl ?_; apply wl_skip; exact rfl; exact rfl; exact rfl; exact bR1; exact rfl; apply wl_skip; exact rfl; exact rfl; exact rfl; exact bR1; exact rfl; apply wl_skip; exact rfl; exact rfl; exact rfl; exact bR1; exact rfl; apply wl_skip; exact rfl; exact rfl; exact rfl; exact bR1; exact rfl; apply wl_skip; exact rfl; exact rfl; exact rfl; exact bR1; exact rfl; apply wl_skip; exact rfl; exact rfl; exact rfl; exact bR1; exact rfl; apply wl_val; apply opv_pickT; exact rfl; exact rfl; exact rfl; exact rfl; refine wl_ns ?_; apply wc_condTb; exact rfl; exact rfl; refine wc_sr ?_; refine wl_as rfl rfl ?_; refine wl_as rfl rfl ?_; refine wl_as rfl rfl ?_; refine wl_ns ?_; refine wc_ret ?_; refine we_seq_ret ?_
    exact we_ret3 rfl rfl rfl rfl ⟨_, rfl, .inl ⟨by rw [hO]; simp, by rw [hO]; rfl, hs.bel⟩⟩
  by_cases c4 : (pl : Int) = 0
  · by_cases c5 : (0 : Int) < (aa.length : Int)
    case pos =>
      have hO : oneO p0 p1 p2 p3 = (noO, 0, 3) := by rw [hO, if_pos (.inr (.inr (.inr (.inl ⟨by omega, by omega⟩))))]
      apply wl_elK (T := tyBB) (hr := hZw) (hb := h0); exact rfl; exact rfl; exact rfl; exact rfl; exact rfl; intro _; apply wl_val; apply opv_len; exact rfl; exact tyB.sl; exact rfl; refine wl_bin rfl rfl bin_lss rfl ?_; refine wl_mv rfl rfl ?_; apply wl_take; exact rfl; exact rfl; exact rfl; refine bF ?_; (with_reducible assumption); refine wl_mv rfl rfl ?_; apply wl_take; exact rfl; exact rfl; exact rfl; refine bF ?_; (with_reducible assumption); refine wl_mv rfl rfl ?_; apply wl_elTK (T := tyBB) (hr := hZw) (hb := h3); exact rfl; exact rfl; exact rfl; refine bF ?_; (with_reducible assumption); exact rfl; exact rfl; exact rfl; exact rfl; refine bF ?_; (with_reducible assumption); exact rfl; exact rfl; exact rfl; exact rfl; exact rfl; intro _; apply wl_take; exact rfl; exact rfl; exact rfl; refine bF ?_; (with_reducible assumption); apply wl_val; apply opv_len; exact rfl; exact tyB.sl; exact rfl; apply wl_take; exact rfl; exact rfl; exact rfl; refine bF ?_; (with_reducible assumption); refine wl_bin rfl rfl bin_lss rfl ?_; apply wl_val; apply opv_pickF; exact rfl; refine bF ?_; (with_reducible assumption); exact rfl; exact rfl; refine wl_mv rfl rfl ?_; apply wl_take; exact rfl; exact rfl; exact rfl; refine bF ?_; (with_reducible assumption); refine wl_mv rfl rfl ?_; apply wl_take; exact rfl; exact rfl; exact rfl; refine bF ?_; (with_reducible assumption); refine wl_bin rfl rfl bin_gtr rfl ?_; apply wl_val; apply opv_pickF; exact rfl; refine bF ?_; (with_reducible assumption); exact rfl; exact rfl; refine wl_mv rfl rfl ?_; apply wl_take; exact rfl; exact rfl; exact rfl; refine bF ?_; (with_reducible assumption); refine wl_mv rfl rfl ?_; apply wl_take; exact rfl; exact rfl; exact rfl; refine bF ?_; (with_reducible assumption); refine wl_bin rfl rfl bin_eql rfl ?_; apply wl_take; exact rfl; exact rfl; exact rfl; refine bF ?_; (with_reducible assumption); refine wl_mv rfl rfl ?_; apply wl_take; exact rfl; exact rfl; exact rfl; refine bT ?_; (with_reducible assumption); refine wl_mv rfl rfl ?_; apply wl_take; exact rfl; exact rfl; exact rfl; refine bT ?_; (with_reducible assumption); apply wl_val; apply opv_nilOk; exact rfl; exact rfl; apply wl_take; exact rfl; exact rfl; exact rfl; refine bT ?_; (with_reducible assumption); apply wl_val; apply opv_fa; exact fa_O2; exact rfl; exact rfl; apply wl_take; exact rfl; exact rfl; exact rfl; refine bT ?_; (with_reducible assumption); apply wl_val; apply opv_ldX; exact rfl; exact hs.ar 0 rfl; exact e1_rgs; exact rfl; exact rfl; apply wl_take; exact rfl; exact rfl; exact rfl; refine bT ?_; (with_reducible assumption); apply wl_val; apply opv_len; exact rfl; exact tkR.sl; exact rfl; apply wl_take; exact rfl; exact rfl; exact rfl; refine bT ?_; (with_reducible assumption); refine wl_bin rfl rfl bin_gtr rfl ?_; apply wl_take; exact rfl; exact rfl; exact rfl; refine bF ?_; (with_reducible assumption); apply wl_val; apply opv_pickT; exact rfl; refine bT ?_; (with_reducible assumption); exact rfl; exact rfl; apply wl_val; apply opv_pickF; exact rfl; refine bF ?_; (with_reducible assumption); exact rfl; exact rfl; refine wl_mv rfl rfl ?_; apply wl_skip; exact rfl; exact rfl; exact rfl; refine bTn ?_; (with_reducible assumption); exact rfl; apply wl_skip; exact rfl; exact rfl; exact rfl; refine bTn ?_; (with_reducible assumption); exact rfl; apply wl_skip; exact rfl; exact rfl; exact rfl; refine bTn ?_; (with_reducible assumption); exact rfl; apply wl_skip; exact rfl; exact rfl; exact rfl; refine bTn ?_; (with_reducible assumption); exact rfl; apply wl_skip; exact rfl; exact rfl; exact rfl; refine bTn ?_; (with_reducible assumption); exact rfl; apply wl_skip; exact rfl; exact rfl; exact rfl; refine bTn ?_; (with_reducible assumption); exact rfl; apply wl_val; apply opv_pickT; exact rfl; refine bT ?_; (with_reducible assumption); exact rfl; exact rfl; refine wl_ns ?_; apply wc_condTb; exact rfl; exact rfl; refine wc_sr ?_; refine wl_as rfl rfl ?_; refine wl_as rfl rfl ?_; refine wl_as rfl rfl ?_; refine wl_ns ?_; refine wc_ret ?_; refine we_seq_ret ?_
      exact we_ret3 rfl rfl rfl rfl ⟨_, rfl, .inl ⟨by rw [hO]; simp, by rw [hO]; rfl, hs.bel⟩⟩
    have c6 : ¬ (64 : Int) < (aa.length : Int) := by omega
    have hO : oneO p0 p1 p2 p3 = (⟨(s, z), hh, aa⟩, pl, 0) := by rw [hO, if_neg (by omega)]
    apply wl_elK (T := tyBB) (hr := hZw) (hb := h0); exact rfl; exact rfl; exact rfl; exact rfl; exact rfl; intro _; apply wl_val; apply opv_len; exact rfl; exact tyB.sl; exact rfl; refine wl_bin rfl rfl bin_lss rfl ?_; refine wl_mv rfl rfl ?_; apply wl_take; exact rfl; exact rfl; exact rfl; refine bF ?_; (with_reducible assumption); refine wl_mv rfl rfl ?_; apply wl_take; exact rfl; exact rfl; exact rfl; refine bF ?_; (with_reducible assumption); refine wl_mv rfl rfl ?_; apply wl_elTK (T := tyBB) (hr := hZw) (hb := h3); exact rfl; exact rfl; exact rfl; refine bF ?_; (with_reducible assumption); exact rfl; exact rfl; exact rfl; exact rfl; refine bF ?_; (with_reducible assumption); exact rfl; exact rfl; exact rfl; exact rfl; exact rfl; intro _; apply wl_take; exact rfl; exact rfl; exact rfl; refine bF ?_; (with_reducible assumption); apply wl_val; apply opv_len; exact rfl; exact tyB.sl; exact rfl; apply wl_take; exact rfl; exact rfl; exact rfl; refine bF ?_; (with_reducible assumption); refine wl_bin rfl rfl bin_lss rfl ?_; apply wl_val; apply opv_pickF; exact rfl; refine bF ?_; (with_reducible assumption); exact rfl; exact rfl; refine wl_mv rfl rfl ?_; apply wl_take; exact rfl; exact rfl; exact rfl; refine bF ?_; (with_reducible assumption); refine wl_mv rfl rfl ?_; apply wl_take; exact rfl; exact rfl; exact rfl; refine bF ?_; (with_reducible assumption); refine wl_bin rfl rfl bin_gtr rfl ?_; apply wl_val; apply opv_pickF; exact rfl; refine bF ?_; (with_reducible assumption); exact rfl; exact rfl; refine wl_mv rfl rfl ?_; apply wl_take; exact rfl; exact rfl; exact rfl; refine bF ?_; (with_reducible assumption); refine wl_mv rfl rfl ?_; apply wl_take; exact rfl; exact rfl; exact rfl; refine bF ?_; (with_reducible assumption); refine wl_bin rfl rfl bin_eql rfl ?_; apply wl_take; exact rfl; exact rfl; exact rfl; refine bF ?_; (with_reducible assumption); refine wl_mv rfl rfl ?_; apply wl_take; exact rfl; exact rfl; exact rfl; refine bT ?_; (with_reducible assumption); refine wl_mv rfl rfl ?_; apply wl_take; exact rfl; exact rfl; exact rfl; refine bT ?_; (with_reducible assumption); apply wl_val; apply opv_nilOk; exact rfl; exact rfl; apply wl_take; exact rfl; exact rfl; exact rfl; refine bT ?_; (with_reducible assumption); apply wl_val; apply opv_fa; exact fa_O2; exact rfl; exact rfl; apply wl_take; exact rfl; exact rfl; exact rfl; refine bT ?_; (with_reducible assumption); apply wl_val; apply opv_ldX; exact rfl; exact hs.ar 0 rfl; exact e1_rgs; exact rfl; exact rfl; apply wl_take; exact rfl; exact rfl; exact rfl; refine bT ?_; (with_reducible assumption); apply wl_val; apply opv_len; exact rfl; exact tkR.sl; exact rfl; apply wl_take; exact rfl; exact rfl; exact rfl; refine bT ?_; (with_reducible assumption); refine wl_bin rfl rfl bin_gtr rfl ?_; apply wl_take; exact rfl; exact rfl; exact rfl; refine bF ?_; (with_reducible assumption); apply wl_val; apply opv_pickT; exact rfl; refine bT ?_; (with_reducible assumption); exact rfl; exact rfl; apply wl_val; apply opv_pickF; exact rfl; refine bF ?_; (with_reducible assumption); exact rfl; exact rfl; refine wl_mv rfl rfl ?_; apply wl_take; exact rfl; exact rfl; exact rfl; refine bF ?_; (with_reducible assumption); refine wl_mv rfl rfl ?_; apply wl_take; exact rfl; exact rfl; exact rfl; refine bF ?_; (with_reducible assumption); apply wl_val; apply opv_nilOk; exact rfl; exact rfl; apply wl_take; exact rfl; exact rfl; exact rfl; refine bF ?_; (with_reducible assumption); apply wl_val; apply opv_fa; exact fa_O2; exact rfl; exact rfl; apply wl_take; exact rfl; exact rfl; exact rfl; refine bF ?_; (with_reducible assumption); apply wl_val; apply opv_ldX; exact rfl; exact hs.ar 0 rfl; exact e1_rgs; exact rfl; exact rfl; apply wl_take; exact rfl; exact rfl; exact rfl; refine bF ?_; (with_reducible assumption); apply wl_val; apply opv_len; exact rfl; exact tkR.sl; exact rfl; apply wl_take; exact rfl; exact rfl; exact rfl; refine bF ?_; (with_reducible assumption); refine wl_bin rfl rfl bin_gtr rfl ?_; apply wl_val; apply opv_pickF; exact rfl; refine bF ?_; (with_reducible assumption); exact rfl; exact rfl; refine wl_ns ?_; apply wc_decF; exact rfl; (with_reducible assumption); refine wc_skip ?_; refine we_seq ?_; refine wc_sr ?_; refine wl_mv rfl rfl ?_; refine wl_mv rfl rfl ?_; apply wl_val; apply opv_convR; exact rfl; exact Try.underlying28; exact Try.underlying3; exact IntWalk.i64_in _ (by omega); exact rfl; refine wl_as rfl rfl ?_; refine wl_as rfl rfl ?_; refine wl_as rfl rfl ?_; refine wl_ns ?_; refine wc_ret ?_
    exact we_ret3 rfl rfl rfl rfl ⟨_, rfl, .inr ⟨by rw [hO], g, by rw [hO]; rfl, by rw [hO]; exact ((hs.front 2 rfl).front 1 rfl).pack (H1 := [_, _, _]) _ fun w S h => ⟨H, hc, K, kc, h⟩⟩⟩
  · by_cases c6 : (64 : Int) < (aa.length : Int)
    case pos =>
      have hO : oneO p0 p1 p2 p3 = (noO, 0, 3) := by rw [hO, if_pos (.inr (.inr (.inr (.inr (by omega)))))]
      apply wl_elK (T := tyBB) (hr := hZw) (hb := h0); exact rfl; exact rfl; exact rfl; exact rfl; exact rfl; intro _; apply wl_val; apply opv_len; exact rfl; exact tyB.sl; exact rfl; refine wl_bin rfl rfl bin_lss rfl ?_; refine wl_mv rfl rfl ?_; apply wl_take; exact rfl; exact rfl; exact rfl; refine bF ?_; (with_reducible assumption); refine wl_mv rfl rfl ?_; apply wl_take; exact rfl; exact rfl; exact rfl; refine bF ?_; (with_reducible assumption); refine wl_mv rfl rfl ?_; apply wl_elTK (T := tyBB) (hr := hZw) (hb := h3); exact rfl; exact rfl; exact rfl; refine bF ?_; (with_reducible assumption); exact rfl; exact rfl; exact rfl; exact rfl; refine bF ?_; (with_reducible assumption); exact rfl; exact rfl; exact rfl; exact rfl; exact rfl; intro _; apply wl_take; exact rfl; exact rfl; exact rfl; refine bF ?_; (with_reducible assumption); apply wl_val; apply opv_len; exact rfl; exact tyB.sl; exact rfl; apply wl_take; exact rfl; exact rfl; exact rfl; refine bF ?_; (with_reducible assumption); refine wl_bin rfl rfl bin_lss rfl ?_; apply wl_val; apply opv_pickF; exact rfl; refine bF ?_; (with_reducible assumption); exact rfl; exact rfl; refine wl_mv rfl rfl ?_; apply wl_take; exact rfl; exact rfl; exact rfl; refine bF ?_; (with_reducible assumption); refine wl_mv rfl rfl ?_; apply wl_take; exact rfl; exact rfl; exact rfl; refine bF ?_; (with_reducible assumption); refine wl_bin rfl rfl bin_gtr rfl ?_; apply wl_val; apply opv_pickF; exact rfl; refine bF ?_; (with_reducible assumption); exact rfl; exact rfl; refine wl_mv rfl rfl ?_; apply wl_take; exact rfl; exact rfl; exact rfl; refine bF ?_; (with_reducible assumption); refine wl_mv rfl rfl ?_; apply wl_take; exact rfl; exact rfl; exact rfl; refine bF ?_; (with_reducible assumption); refine wl_bin rfl rfl bin_eql rfl ?_; apply wl_take; exact rfl; exact rfl; exact rfl; refine bF ?_; (with_reducible assumption); refine wl_mv rfl rfl ?_; apply wl_skip; exact rfl; exact rfl; exact rfl; refine bFn ?_; (with_reducible assumption); exact rfl; apply wl_skip; exact rfl; exact rfl; exact rfl; refine bFn ?_; (with_reducible assumption); exact rfl; apply wl_skip; exact rfl; exact rfl; exact rfl; refine bFn ?_; (with_reducible assumption); exact rfl; apply wl_skip; exact rfl; exact rfl; exact rfl; refine bFn ?_; (with_reducible assumption); exact rfl; apply wl_skip; exact rfl; exact rfl; exact rfl; refine bFn ?_; (with_reducible assumption); exact rfl; apply wl_skip; exact rfl; exact rfl; exact rfl; refine bFn ?_; (with_reducible assumption); exact rfl; apply wl_take; exact rfl; exact rfl; exact rfl; refine bF ?_; (with_reducible assumption); apply wl_val; apply opv_pickF; exact rfl; refine bF ?_; (with_reducible assumption); exact rfl; exact rfl; apply wl_val; apply opv_pickF; exact rfl; refine bF ?_; (with_reducible assumption); exact rfl; exact rfl; refine wl_mv rfl rfl ?_; apply wl_take; exact rfl; exact rfl; exact rfl; exact rfl; refine wl_mv rfl rfl ?_; apply wl_take; exact rfl; exact rfl; exact rfl; exact rfl; apply wl_val; apply opv_nilOk; exact rfl; exact rfl; apply wl_take; exact rfl; exact rfl; exact rfl; exact rfl; apply wl_val; apply opv_fa; exact fa_O2; exact rfl; exact rfl; apply wl_take; exact rfl; exact rfl; exact rfl; exact rfl; apply wl_val; apply opv_ldX; exact rfl; exact hs.ar 0 rfl; exact e1_rgs; exact rfl; exact rfl; apply wl_take; exact rfl; exact rfl; exact rfl; exact rfl; apply wl_val; apply opv_len; exact rfl; exact tkR.sl; exact rfl; apply wl_take; exact rfl; exact rfl; exact rfl; exact rfl; refine wl_bin rfl rfl bin_gtr rfl ?_; apply wl_val; apply opv_pickF; exact rfl; exact rfl; exact rfl; exact rfl; refine wl_ns ?_; apply wc_decT; exact rfl; (with_reducible assumption); refine wc_sr ?_; refine wl_as rfl rfl ?_; refine wl_as rfl rfl ?_; refine wl_as rfl rfl ?_; refine wl_ns ?_; refine wc_ret ?_; refine we_seq_ret ?_
      exact we_ret3 rfl rfl rfl rfl ⟨_, rfl, .inl ⟨by rw [hO]; simp, by rw [hO]; rfl, hs.bel⟩⟩
    have hO : oneO p0 p1 p2 p3 = (⟨(s, z), hh, aa⟩, pl, 0) := by rw [hO, if_neg (by omega)]
    apply wl_elK (T := tyBB) (hr := hZw) (hb := h0); exact rfl; exact rfl; exact rfl; exact rfl; exact rfl; intro _; apply wl_val; apply opv_len; exact rfl; exact tyB.sl; exact rfl; refine wl_bin rfl rfl bin_lss rfl ?_; refine wl_mv rfl rfl ?_; apply wl_take; exact rfl; exact rfl; exact rfl; refine bF ?_; (with_reducible assumption); refine wl_mv rfl rfl ?_; apply wl_take; exact rfl; exact rfl; exact rfl; refine bF ?_; (with_reducible assumption); refine wl_mv rfl rfl ?_; apply wl_elTK (T := tyBB) (hr := hZw) (hb := h3); exact rfl; exact rfl; exact rfl; refine bF ?_; (with_reducible assumption); exact rfl; exact rfl; exact rfl; exact rfl; refine bF ?_; (with_reducible assumption); exact rfl; exact rfl; exact rfl; exact rfl; exact rfl; intro _; apply wl_take; exact rfl; exact rfl; exact rfl; refine bF ?_; (with_reducible assumption); apply wl_val; apply opv_len; exact rfl; exact tyB.sl; exact rfl; apply wl_take; exact rfl; exact rfl; exact rfl; refine bF ?_; (with_reducible assumption); refine wl_bin rfl rfl bin_lss rfl ?_; apply wl_val; apply opv_pickF; exact rfl; refine bF ?_; (with_reducible assumption); exact rfl; exact rfl; refine wl_mv rfl rfl ?_; apply wl_take; exact rfl; exact rfl; exact rfl; refine bF ?_; (with_reducible assumption); refine wl_mv rfl rfl ?_; apply wl_take; exact rfl; exact rfl; exact rfl; refine bF ?_; (with_reducible assumption); refine wl_bin rfl rfl bin_gtr rfl ?_; apply wl_val; apply opv_pickF; exact rfl; refine bF ?_; (with_reducible assumption); exact rfl; exact rfl; refine wl_mv rfl rfl ?_; apply wl_take; exact rfl; exact rfl; exact rfl; refine bF ?_; (with_reducible assumption); refine wl_mv rfl rfl ?_; apply wl_take; exact rfl; exact rfl; exact rfl; refine bF ?_; (with_reducible assumption); refine wl_bin rfl rfl bin_eql rfl ?_; apply wl_take; exact rfl; exact rfl; exact rfl; refine bF ?_; (with_reducible assumption); refine wl_mv rfl rfl ?_; apply wl_skip; exact rfl; exact rfl; exact rfl; refine bFn ?_; (with_reducible assumption); exact rfl; apply wl_skip; exact rfl; exact rfl; exact rfl; refine bFn ?_; (with_reducible assumption); exact rfl; apply wl_skip; exact rfl; exact rfl; exact rfl; refine bFn ?_; (with_reducible assumption); exact rfl; apply wl_skip; exact rfl; exact rfl; exact rfl; refine bFn ?_; (with_reducible assumption); exact rfl; apply wl_skip; exact rfl; exact rfl; exact rfl; refine bFn ?_; (with_reducible assumption); exact rfl; apply wl_skip; exact rfl; exact rfl; exact rfl; refine bFn ?_; (with_reducible assumption); exact rfl; apply wl_take; exact rfl; exact rfl; exact rfl; refine bF ?_; (with_reducible assumption); apply wl_val; apply opv_pickF; exact rfl; refine bF ?_; (with_reducible assumption); exact rfl; exact rfl; apply wl_val; apply opv_pickF; exact rfl; refine bF ?_; (with_reducible assumption); exact rfl; exact rfl; refine wl_mv rfl rfl ?_; apply wl_take; exact rfl; exact rfl; exact rfl; exact rfl; refine wl_mv rfl rfl ?_; apply wl_take; exact rfl; exact rfl; exact rfl; exact rfl; apply wl_val; apply opv_nilOk; exact rfl; exact rfl; apply wl_take; exact rfl; exact rfl; exact rfl; exact rfl; apply wl_val; apply opv_fa; exact fa_O2; exact rfl; exact rfl; apply wl_take; exact rfl; exact rfl; exact rfl; exact rfl; apply wl_val; apply opv_ldX; exact rfl; exact hs.ar 0 rfl; exact e1_rgs; exact rfl; exact rfl; apply wl_take; exact rfl; exact rfl; exact rfl; exact rfl; apply wl_val; apply opv_len; exact rfl; exact tkR.sl; exact rfl; apply wl_take; exact rfl; exact rfl; exact rfl; exact rfl; refine wl_bin rfl rfl bin_gtr rfl ?_; apply wl_val; apply opv_pickF; exact rfl; exact rfl; exact rfl; exact rfl; refine wl_ns ?_; apply wc_decF; exact rfl; (with_reducible assumption); refine wc_skip ?_; refine we_seq ?_; refine wc_sr ?_; refine wl_mv rfl rfl ?_; refine wl_mv rfl rfl ?_; apply wl_val; apply opv_convR; exact rfl; exact Try.underlying28; exact Try.underlying3; exact IntWalk.i64_in _ (by omega); exact rfl; refine wl_as rfl rfl ?_; refine wl_as rfl rfl ?_; refine wl_as rfl rfl ?_; refine wl_ns ?_; refine wc_ret ?_
    exact we_ret3 rfl rfl rfl rfl ⟨_, rfl, .inr ⟨by rw [hO], g, by rw [hO]; rfl, by rw [hO]; exact ((hs.front 2 rfl).front 1 rfl).pack (H1 := [_, _, _]) _ fun w S h => ⟨H, hc, K, kc, h⟩⟩⟩
end Go.Proofs.Ytmdbjeabifkimaa

/-
  A map of ints as a piece; what the map of places holds.
-/
namespace Go.Proofs.Ytmdbjeabifkimaa
open Go.RowKit

def mpC (b : Nat) (es : List ME) (clk : Nat) : Ck := ⟨fun w S => S b ∧ Mp w b es clk, fun ⟨h1, h2⟩ _ hm => ⟨(hm b h2.lt h1).1, (hm b h2.lt h1).2.trans h2⟩⟩
section
variable {P : Program} {N : Nat} {ops : Array Oper} {Q : Exit → Act → World → Prop} {rest : List Oper} {L : FL} {w0 w : World} {M : BS} {H : List Cd} {t e kt : TypeId} {b clk : Nat} {es : List ME} {k : Nat}
theorem St.mp (h : St M w0 w H) (i : Nat) (hi : nthC H i = some (.ck (mpC b es clk))) : Mp w b es clk := by obtain ⟨T, hc, _⟩ := h.get i hi; exact hc.2
theorem ws_mkMap {d : Nat} {ty : TypeId} {pos : String} {aft : Array Edge} (hs : St M w0 w H) (hd : Nat.blt d N = true)
    (h : ∀ g w', St M w0 w' (.ck (mpC g [] 0) :: H) → WL P N ops Q rest ((d, .map (some g)) :: L) w') :
    WL P N ops Q (⟨some d, .makeMap t none, ty, pos, aft, none⟩ :: rest) L w :=
  wl_mkMap hd fun g w' hg hm hb => h g w' (hs.new (T := fun b => b = g) (c := .ck (mpC g [] 0)) hb ⟨rfl, hm⟩ fun b _ e => e ▸ hg)
theorem ws_mput {m y z : Operand} {ty : TypeId} {pos : String} {aft : Array Edge} {v : Value} (hs : St M w0 w H) (i : Nat) (hi : nthC H i = some (.ck (mpC b es clk))) (ht : P.underlying t = some (.map kt e)) (hk : P.underlying kt = some (.int .i64)) (hx : look L m = some (.map (some b))) (hy : look L y = some (kI k)) (hz : look L z = some v)
    (h : ∀ w', St M w0 w' (setC H i (.ck (mpC b (mput es clk k v).1 (mput es clk k v).2))) → WL P N ops Q rest L w') :
    WL P N ops Q (⟨none, .mapUpdate t m y z, ty, pos, aft, none⟩ :: rest) L w := by
  refine wl_mput ht hk hx hy hz (hs.mp i hi) fun w' hm hg hsz => h w' ?_
  obtain ⟨T, hc, hT, hK⟩ := hs.upd i hi
  exact hK w' (.ck (mpC b (mput es clk k v).1 (mput es clk k v).2)) T (Mod.of_gr hg fun a ha => by cases ha; exact hc.1) ⟨hc.1, hm⟩ fun _ _ h => .inl h
end
/-- The places, as the map holds them. -/
def PlM (gp : Tx → Nat) (pl : List (Nat × Tx)) (es : List ME) : Prop := es.map (fun e => (e.1, e.2.1)) = pl.map fun p => (p.1, pN (gp p.2))
theorem fnd_map {gp : Tx → Nat} {k : Nat} : ∀ {pl : List (Nat × Tx)} {es : List ME} {i : Nat}, PlM gp pl es → (fnd k es i).map (·.2) = (plAt pl k).map fun x => pN (gp x)
  | [], [], i, _ => rfl
  | [], _ :: _, i, h => by simp [PlM] at h
  | _ :: _, [], i, h => by simp [PlM] at h
  | p :: pl, e :: es, i, h => by
    unfold PlM at h
    rw [List.map_cons, List.map_cons, List.cons.injEq, Prod.mk.injEq] at h
    obtain ⟨⟨h1, h2⟩, h3⟩ := h
    unfold fnd plAt
    by_cases hk : k = e.1
    · rw [if_pos hk, List.find?_cons_of_pos (by simp; omega)]
      simp [h2]
    · rw [if_neg hk, List.find?_cons_of_neg (by simp; omega)]
      exact fnd_map h3
theorem PlM.get {gp : Tx → Nat} {pl : List (Nat × Tx)} {es : List ME} (h : PlM gp pl es) (k : Nat) : (mget es k).getD (.pointer none) = match plAt pl k with | some x => pN (gp x) | none => .pointer none := by
  unfold mget
  rw [fnd_map h]
  cases plAt pl k <;> rfl
theorem plAt_none {pl : List (Nat × Tx)} {k : Nat} : plAt pl k = none ↔ k ∉ pl.map (·.1) := by
  unfold plAt
  rw [Option.map_eq_none_iff, List.find?_eq_none]
  constructor
  · intro h hm
    obtain ⟨p, hp, e⟩ := List.mem_map.1 hm
    exact h p hp (decide_eq_true e)
  · intro h p hp e
    exact h (List.mem_map.2 ⟨p, hp, of_decide_eq_true e⟩)
theorem PlM.put {gp : Tx → Nat} {pl : List (Nat × Tx)} {es : List ME} {clk : Nat} (h : PlM gp pl es) {k : Nat} (hk : k ∉ pl.map (·.1)) (x : Tx) : PlM gp (pl ++ [(k, x)]) (mput es clk k (pN (gp x))).1 := by
  have h1 := fnd_map (k := k) (i := 0) h
  rw [plAt_none.2 hk] at h1
  unfold mput
  cases hf : fnd k es 0 with
  | some p => rw [hf] at h1; cases h1
  | none =>
    unfold PlM at h ⊢
    simp [h]
theorem PlM.len {gp : Tx → Nat} {pl : List (Nat × Tx)} {es : List ME} (h : PlM gp pl es) : es.length = pl.length := by simpa using congrArg List.length h
theorem PlM.congr {gp gp' : Tx → Nat} {pl : List (Nat × Tx)} {es : List ME} (h : PlM gp pl es) (hg : ∀ p ∈ pl, gp p.2 = gp' p.2) : PlM gp' pl es := by
  unfold PlM at h ⊢
  rw [h]
  exact List.map_congr_left fun p hp => by rw [hg p hp]
end Go.Proofs.Ytmdbjeabifkimaa

/-
  Walk over Decode of lock tables.
-/
namespace Go.Proofs.Ytmdbjeabifkimaa
open Go.RowKit

/-- A table, if there is one, and an error. -/
def RetDec (w : World) (r : Tb × Nat) (v : Value) (w' : World) : Prop :=
  (r.2 ≠ 0 ∧ v = .tuple #[.pointer none, .int .i64 (r.2 : Int)] ∧ Below w.heap.size w w') ∨
  (r.2 = 0 ∧ ∃ t gp, v = .tuple #[pN t, .int .i64 0] ∧ St NoB w w' [.ck (lkC t gp r.1)])
theorem mapTyI : Try.prog.underlying 89 = some (.map 3 75) := Try.underlying89
theorem decL_step {ps : List (List UInt8)} {j : Nat} {p0 p1 p2 p3 : List UInt8} {os : List Ownr} {pl : List (Nat × Tx)} (h : decL ps [] [] = decL (ps.drop (4 * j)) os pl) (h0 : ps[4 * j]? = some p0) (h1 : ps[4 * j + 1]? = some p1) (h2 : ps[4 * j + 2]? = some p2) (h3 : ps[4 * j + 3]? = some p3) :
    decL ps [] [] = if (oneO p0 p1 p2 p3).2.2 ≠ 0 then ((os, pl), (oneO p0 p1 p2 p3).2.2)
    else if (oneO p0 p1 p2 p3).1.x ∈ os.map (·.x) ∨ 0 < (oneO p0 p1 p2 p3).2.1 ∧ (oneO p0 p1 p2 p3).2.1 ∈ pl.map (·.1) then ((os, pl), 3)
    else decL (ps.drop (4 * (j + 1))) (os ++ [(oneO p0 p1 p2 p3).1]) (if 0 < (oneO p0 p1 p2 p3).2.1 then pl ++ [((oneO p0 p1 p2 p3).2.1, (oneO p0 p1 p2 p3).1.x)] else pl) := by
  have l3 := (List.getElem?_eq_some_iff.1 h3).1
  have e : ps.drop (4 * j) = p0 :: p1 :: p2 :: p3 :: ps.drop (4 * (j + 1)) := by
    rw [List.drop_eq_getElem_cons (by omega), List.drop_eq_getElem_cons (by omega), List.drop_eq_getElem_cons (by omega), List.drop_eq_getElem_cons (by omega)]
    rw [List.getElem?_eq_getElem (by omega)] at h0 h1 h2 h3
    injection h0 with h0
    injection h1 with h1
    injection h2 with h2
    injection h3 with h3
    rw [h0, h1, show ps[4 * j + 1 + 1] = ps[4 * j + 2] from rfl, h2, show ps[4 * j + 1 + 1 + 1] = ps[4 * j + 3] from rfl, h3]
    rfl
  rw [h, e]
  rfl
theorem St.ownB2 {M : BS} {w0 w : World} {H : List Cd} {gp : Tx → Nat} {os : List Ownr} {o : Ownr} (hs : St M w0 w (.ck (ownC (gp o.x) o) :: .ck (packC (ownCs gp os)) :: H)) : St M w0 w (.ck (packC (ownCs gp (os ++ [o]))) :: H) :=
  St.pack (H1 := [.ck (ownC (gp o.x) o), .ck (packC (ownCs gp os))]) hs _ fun w S ⟨T, hT, h1, U, hU, h2, _⟩ => by
    have h3 : Sat w (.ck (ownC (gp o.x) o) :: ownCs gp os) S := ⟨T, hT, h1, (show Sat w (ownCs gp os) U from h2).mono fun b _ h => hU b h⟩
    refine Sat.permL ?_ h3
    simp only [ownCs, List.map_append, List.map_cons, List.map_nil]
    exact (List.perm_append_comm (l₁ := [_]) (l₂ := os.map fun o => Cd.ck (ownC (gp o.x) o)))
set_option maxHeartbeats 4000000 in
theorem decode_any {A : Option Addr} {n c : Nat} {b : List UInt8} {w : World} (hr : RdB w A b) (hn : b.length = n) (hc : b.length ≤ c) (hl : b.length ≤ 4294967296) :
    CallsV Try.prog 23 #[.slice A n c] w (RetDec w (decT b)) := by
  subst hn
  have hs := St.init w
  refine calls_in (N := _) Try.func23 rfl Try.ntmps23 rfl ?_; show WC _ _ _ _ _ _
  refine wc_sr ?_; refine wl_as rfl rfl ?_; refine wl_as rfl rfl ?_; refine wl_ns ?_; refine wc_sr ?_; refine wl_mv rfl rfl ?_
  refine wl_call ok_codec_Parts (parts_any hr rfl hc (by omega)) ⟨rfl, trivial⟩ rfl ?_
  rintro _ w2 ⟨P, cp, rfl, ho, hbx⟩
  obtain ⟨vs, hP, hV, hcp, hs0⟩ := hs.newPr hbx ho
  replace hs := hs0.drop 0 rfl
  dsimp only [delC] at hs
  have hpsz := parts_size b
  clear ho hbx hs0
  by_cases he : (parts b).2 = 0
  case neg =>
    have he' : ¬ (((parts b).2 : Nat) : Int) = 0 := by omega
    have hg : decT b = (tb0, (parts b).2) := by rw [decT, if_pos he]
    refine wl_mv rfl rfl ?_; apply wl_val; apply opv_extract; exact rfl; exact rfl; exact rfl; apply wl_val; apply opv_extract; exact rfl; exact rfl; exact rfl; refine wl_as rfl rfl ?_; refine wl_as rfl rfl ?_; refine wl_ns ?_; refine wc_seq ?_; refine wc_sr ?_; refine wl_mv rfl rfl ?_; refine wl_bin rfl rfl bin_neq rfl ?_; refine wl_ns ?_; apply wc_decT; exact rfl; (with_reducible assumption); refine wc_sr ?_; refine wl_mv rfl rfl ?_; refine wl_as rfl rfl ?_; refine wl_as rfl rfl ?_; refine wl_ns ?_; refine wc_ret ?_; refine we_seq_ret ?_
    exact we_ret2 rfl rfl rfl ⟨_, rfl, .inl ⟨by rw [hg]; exact he, by rw [hg], hs.bel⟩⟩
  rw [he]
  obtain ⟨ps, hps⟩ : ∃ q, (parts b).1 = q := ⟨_, rfl⟩
  rw [hps] at hP hV hcp hpsz
  rw [hps]
  refine wl_mv rfl rfl ?_; apply wl_val; apply opv_extract; exact rfl; exact rfl; exact rfl; apply wl_val; apply opv_extract; exact rfl; exact rfl; exact rfl; refine wl_as rfl rfl ?_; refine wl_as rfl rfl ?_; refine wl_ns ?_; refine wc_seq ?_; refine wc_sr ?_; refine wl_mv rfl rfl ?_; refine wl_bin rfl rfl bin_neq rfl ?_; refine wl_ns ?_; apply wc_condFb; exact rfl; exact rfl; refine wc_skip ?_; refine we_seq ?_; refine wc_seq ?_; refine wc_sr ?_; refine wl_mv rfl rfl ?_; apply wl_val; apply opv_len; exact rfl; exact tyBB.sl; exact rfl; apply wl_val; apply opv_bin; exact rfl; exact rfl; exact bin_rem (by decide); exact rfl; refine wl_bin rfl rfl bin_neq rfl ?_; refine wl_ns ?_
  have hgG : decT b = if ps.length % 4 ≠ 0 then (tb0, 3) else if (decL ps [] []).2 ≠ 0 then (tb0, (decL ps [] []).2) else match quF (decL ps [] []).1.2 (List.range' 1 (decL ps [] []).1.2.length) with
    | none => (tb0, 3)
    | some q => (⟨(decL ps [] []).1.1, q⟩, 0) := by
    rw [decT, if_neg (by simp [he]), hps]
    rfl
  by_cases hm4 : ((ps.length % 4 : Nat) : Int) = 0
  case neg =>
    have hg : decT b = (tb0, 3) := by rw [hgG, if_pos (by omega)]
    apply wc_decT; exact rfl; (with_reducible assumption); refine wc_sr ?_; refine wl_as rfl rfl ?_; refine wl_as rfl rfl ?_; refine wl_ns ?_; refine wc_ret ?_; refine we_seq_ret ?_
    exact we_ret2 rfl rfl rfl ⟨_, rfl, .inl ⟨by rw [hg]; decide, by rw [hg]; rfl, hs.bel⟩⟩
  have hm4' : ps.length % 4 = 0 := by omega
  have hm4n : ¬ (((ps.length % 4 : Nat) : Int) ≠ 0) := fun h => h hm4
  rw [if_neg (by omega)] at hgG
  have hvl : vs.length = ps.length := hV.1
  have hpsl : ps.length ≤ 4294967296 := by omega
  have hs00 := hs
  clear hs
  have hs := St.init w2
  apply wc_decF; exact rfl; (with_reducible assumption); refine wc_skip ?_; refine we_seq ?_; refine wc_sr ?_
  refine wl_val (opv_build (vs := []) (cs := zTb) trivial (by kernel_rfl)) rfl ?_
  refine ws_box (cs := zTb) hs rfl rfl ?_
  clear hs; intro t w3 hs
  replace hs := hs.lkNil
  refine wl_as rfl rfl ?_; refine wl_ns ?_; refine wc_sr ?_
  refine ws_mkMap hs rfl ?_
  clear hs; intro mb w4 hs
  refine wl_as rfl rfl ?_; refine wl_ns ?_; refine wc_seq ?_; refine wc_sr ?_; refine wl_mv rfl rfl ?_; refine wl_as rfl rfl ?_; refine wl_ns ?_; refine wc_block ?_
  refine wc_loop (fun L wr mm => ∃ (j m : Nat) (gp : Tx → Nat) (os : List Ownr) (pl : List (Nat × Tx)) (es : List ME) (clk : Nat) (Z : Option Addr) (zc : Nat), L = [(6, .pointer (some ⟨t, 0, none⟩)), (7, .map (some mb)), (8, .slice Z m zc)] ∧ m + 4 * j = ps.length ∧ m ≤ zc ∧ Rd w2 Z m (vs.drop (4 * j)) ∧ decL ps [] [] = decL (ps.drop (4 * j)) os pl ∧ os.length = j ∧ pl.length ≤ j ∧ (∀ p ∈ pl, p.2 ∈ os.map (·.x)) ∧ PlM gp pl es ∧ St NoB w2 wr [.ck (mpC mb es clk), .ck (lkC t gp ⟨os, []⟩)] ∧ mm = m)
    [(6, .pointer (some ⟨t, 0, none⟩)), (7, .map (some mb)), (8, .slice P ps.length cp)] ps.length ⟨0, ps.length, _, [], [], [], 0, P, cp, rfl, by omega, hcp, hP, rfl, rfl, Nat.le_refl _, by simp, rfl, hs, rfl⟩ ⟨rfl, rfl, rfl, trivial⟩ ?_
  clear hs
  rintro _ w5 mm ⟨j, m, gp, os, pl, es, clk, Z, zc, rfl, hmj, hzc, hZ, hdec, rfl, hpl, hpn, hPl, hs, rfl⟩
  refine wc_seq ?_; refine wc_sr ?_; refine wl_mv rfl rfl ?_; apply wl_val; apply opv_len; exact rfl; exact tyBB.sl; exact rfl; refine wl_bin rfl rfl bin_gtr rfl ?_; refine wl_ns ?_
  refine wc_cond rfl (fun g1 => ?_) (fun g1 => ?_)
  · obtain ⟨p0, q0⟩ : ∃ x, ps[4 * os.length]? = some x := ⟨_, List.getElem?_eq_getElem (by omega)⟩
    obtain ⟨p1, q1⟩ : ∃ x, ps[4 * os.length + 1]? = some x := ⟨_, List.getElem?_eq_getElem (by omega)⟩
    obtain ⟨p2, q2⟩ : ∃ x, ps[4 * os.length + 2]? = some x := ⟨_, List.getElem?_eq_getElem (by omega)⟩
    obtain ⟨p3, q3⟩ : ∃ x, ps[4 * os.length + 3]? = some x := ⟨_, List.getElem?_eq_getElem (by omega)⟩
    obtain ⟨F0, c0, v0, r0, k0⟩ := hV.2 _ p0 q0
    obtain ⟨F1, c1, v1, r1, k1⟩ := hV.2 _ p1 q1
    obtain ⟨F2, c2, v2, r2, k2⟩ := hV.2 _ p2 q2
    obtain ⟨F3, c3, v3, r3, k3⟩ := hV.2 _ p3 q3
    have hlen : ∀ {i : Nat} {p : List UInt8}, ps[i]? = some p → p.length ≤ 1099511627776 := fun {i p} h => by
      have h1 := List.mem_of_getElem? h
      have h2 : p.length ≤ ps.flatten.length := by
        obtain ⟨a, b, e⟩ := List.append_of_mem h1
        rw [e]; simp; omega
      omega
    have hds := decL_step hdec q0 q1 q2 q3
    refine wc_skip ?_; refine we_seq ?_; refine wc_seq ?_; refine wc_block ?_; refine wc_sr ?_; refine wl_mv rfl rfl ?_
    refine wl_sl (l := 0) (h := 4) tyBB rfl rfl ⟨_, rfl⟩ (by omega) (by omega) rfl ?_
    have hcut := (hZ.cut (l := 0) (h := 4) (by omega) (by omega) hzc).below hs.bel
    rw [List.drop_zero] at hcut
    have hgt : ∀ {i : Nat} {v : Value}, i < 4 → vs[4 * os.length + i]? = some v → ((vs.drop (4 * os.length)).take 4)[i]? = some v := fun {i v} hi h => by
      rw [List.getElem?_take_of_lt hi, List.getElem?_drop]; exact h
    refine wl_call ok_lock_one (one_any hcut (hgt (by decide) v0) (hgt (by decide) v1) (hgt (by decide) v2) (hgt (by decide) v3) (r0.below hs.bel) (r1.below hs.bel) (r2.below hs.bel) (r3.below hs.bel) k1 k2 (hlen q0) (hlen q1) (hlen q2) (hlen q3)) ⟨rfl, trivial⟩ rfl ?_
    rintro _ w6 (⟨e1, rfl, hbx⟩ | ⟨e1, g, rfl, hsx⟩)
    · replace hs := hs.below hbx
      have e1' : ¬ (((oneO p0 p1 p2 p3).2.2 : Nat) : Int) = 0 := by omega
      have hd : (decL ps [] []).2 = (oneO p0 p1 p2 p3).2.2 := by rw [hds, if_pos e1]
      have hg : decT b = (tb0, (oneO p0 p1 p2 p3).2.2) := by rw [hgG, hd, if_pos e1]
      refine wl_mv rfl rfl ?_; apply wl_val; apply opv_extract; exact rfl; exact rfl; exact rfl; apply wl_val; apply opv_extract; exact rfl; exact rfl; exact rfl; apply wl_val; apply opv_extract; exact rfl; exact rfl; exact rfl; refine wl_as rfl rfl ?_; refine wl_as rfl rfl ?_; refine wl_as rfl rfl ?_; refine wl_ns ?_; refine wc_seq ?_; refine wc_sr ?_; refine wl_mv rfl rfl ?_; refine wl_bin rfl rfl bin_neq rfl ?_; refine wl_ns ?_; apply wc_decT; exact rfl; (with_reducible assumption); refine wc_sr ?_; refine wl_mv rfl rfl ?_; refine wl_as rfl rfl ?_; refine wl_as rfl rfl ?_; refine wl_ns ?_; refine wc_ret ?_; refine we_seq_ret ?_; refine we_block_ret ?_; refine we_seq_ret ?_; refine we_loop_ret ?_; refine we_block_ret ?_; refine we_seq_ret ?_
      exact we_ret2 rfl rfl rfl ⟨_, rfl, .inl ⟨by rw [hg]; exact e1, by rw [hg], (hs00.call hs).bel⟩⟩
    replace hs := hs.call hsx
    clear hsx
    dsimp only [List.cons_append, List.nil_append] at hs
    rw [if_neg (by omega)] at hds
    obtain ⟨⟨o, pc, e0⟩, ho1⟩ : ∃ q, oneO p0 p1 p2 p3 = q := ⟨_, rfl⟩
    rw [ho1] at hs hds e1
    rw [ho1]
    dsimp only at hs hds e1
    dsimp only
    obtain ⟨H, hc, K, kc, a1, rH, rK, lH, lK⟩ : RdOw w6 g o := by
      obtain ⟨T, hT, _⟩ := hs.get 0 rfl
      exact (ownC_rd hT).1
    have i1 := ar_wiO a1
    have hnl : names ⟨os, []⟩ = os.map (·.x) := rfl
    have bad : (o.x ∈ os.map (·.x) ∨ 0 < pc ∧ pc ∈ pl.map (·.1)) → decT b = (tb0, 3) := fun h => by
      rw [if_pos h] at hds
      rw [hgG, hds]; rfl
    refine wl_mv rfl rfl ?_; apply wl_val; apply opv_extract; exact rfl; exact rfl; exact rfl; apply wl_val; apply opv_extract; exact rfl; exact rfl; exact rfl; apply wl_val; apply opv_extract; exact rfl; exact rfl; exact rfl; refine wl_as rfl rfl ?_; refine wl_as rfl rfl ?_; refine wl_as rfl rfl ?_; refine wl_ns ?_; refine wc_seq ?_; refine wc_sr ?_; refine wl_mv rfl rfl ?_; refine wl_bin rfl rfl bin_neq rfl ?_; refine wl_ns ?_; apply wc_condFb; exact rfl; exact rfl; refine wc_skip ?_; refine we_seq ?_; refine wc_seq ?_; refine wc_sr ?_; refine wl_mv rfl rfl ?_; refine wl_mv rfl rfl ?_; apply wl_val; apply opv_nilOk; exact rfl; exact rfl; apply wl_val; apply opv_fa; exact fa_O0; exact rfl; exact rfl; apply wl_val; apply opv_ldG; exact rfl; assumption; exact sTx; exact rfl
    refine wl_call ok_lock_Table_find (find_any (hs.rdT 2 rfl) (by show os.length ≤ _; omega)) ⟨rfl, rfl, trivial⟩ rfl ?_
    rintro _ w7 ⟨rfl, hbx⟩
    replace hs := hs.below hbx
    clear hbx a1 i1 rH rK
    by_cases hxn : o.x ∈ names ⟨os, []⟩
    case pos =>
      have hg := bad (.inl hxn)
      rw [ptrO, if_pos hxn]
      unfold pN
      apply wl_val; apply opv_bin; exact rfl; exact rfl; exact bin_neqPtrNil tyPPO; exact rfl; refine wl_mv rfl rfl ?_; apply wl_skip; exact rfl; exact rfl; exact rfl; exact bR1; exact rfl; apply wl_skip; exact rfl; exact rfl; exact rfl; exact bR1; exact rfl; apply wl_skip; exact rfl; exact rfl; exact rfl; exact bR1; exact rfl; apply wl_skipU; exact rfl; exact rfl; exact rfl; exact rfl; apply wl_skipU; exact rfl; exact rfl; exact rfl; exact rfl; apply wl_skipU; exact rfl; exact rfl; exact rfl; exact rfl; apply wl_skipU; exact rfl; exact rfl; exact rfl; exact rfl; apply wl_skip; exact rfl; exact rfl; exact rfl; exact bR1; exact rfl; apply wl_val; apply opv_pickT; exact rfl; exact rfl; exact rfl; exact rfl; refine wl_ns ?_; apply wc_condTb; exact rfl; exact rfl; refine wc_sr ?_; refine wl_as rfl rfl ?_; refine wl_as rfl rfl ?_; refine wl_ns ?_; refine wc_ret ?_; refine we_seq_ret ?_; refine we_block_ret ?_; refine we_seq_ret ?_; refine we_loop_ret ?_; refine we_block_ret ?_; refine we_seq_ret ?_
      exact we_ret2 rfl rfl rfl ⟨_, rfl, .inl ⟨by rw [hg]; decide, by rw [hg]; rfl, (hs00.call hs).bel⟩⟩
    rw [ptrO, if_neg hxn]
    refine wl_cutV 11 60 (.bool (decide (0 < pc ∧ pc ∈ pl.map (·.1)))) ?cc ?_
    case cc =>
      dsimp only [List.take]
      by_cases hpc : (0 : Int) < (pc : Int)
      · apply wl_val; apply opv_bin; exact rfl; exact rfl; exact bin_neqNilNil tyPPO; exact rfl; refine wl_mv rfl rfl ?_; apply wl_take; exact rfl; exact rfl; exact rfl; exact rfl; refine wl_mv rfl rfl ?_; apply wl_take; exact rfl; exact rfl; exact rfl; exact rfl; refine wl_bin rfl rfl bin_gtr rfl ?_; apply wl_take; exact rfl; exact rfl; exact rfl; exact rfl; refine wl_mv rfl rfl ?_; apply wl_take; exact rfl; exact rfl; exact rfl; refine bT ?_; (with_reducible assumption); refine wl_mv rfl rfl ?_; apply wl_take; exact rfl; exact rfl; exact rfl; refine bT ?_; (with_reducible assumption); refine wl_mv rfl rfl ?_; apply wl_take; exact rfl; exact rfl; exact rfl; refine bT ?_; (with_reducible assumption)
        refine wl_val (opv_lookup (k := pc) mapTyI Try.underlying3 zeroPO rfl rfl (hs.mp 1 rfl)) rfl ?_
        rw [hPl.get]
        have hpn := plAt_none (pl := pl) (k := pc)
        cases hpa : plAt pl pc with
        | none =>
          have hn2 := hpn.1 hpa
          dsimp only
          apply wl_take; exact rfl; exact rfl; exact rfl; refine bT ?_; (with_reducible assumption); apply wl_val; apply opv_bin; exact rfl; exact rfl; exact bin_neqNilNil tyPPO; exact rfl; apply wl_take; exact rfl; exact rfl; exact rfl; exact rfl; apply wl_val; apply opv_pickT; exact rfl; refine bT ?_; (with_reducible assumption); exact rfl; exact rfl; apply wl_val; apply opv_pickF; exact rfl; exact rfl; exact rfl; exact rfl; refine wl_nil ?_
          exact we_cut _ ⟨rfl, rfl⟩ ⟨congrArg (fun b => some (Value.bool b)) (by rw [decide_eq_false fun h => hn2 h.2]), by refine And.intro rfl ?_; refine And.intro rfl ?_; refine And.intro rfl ?_; refine And.intro rfl ?_; refine And.intro rfl ?_; refine And.intro rfl ?_; refine And.intro rfl ?_; refine And.intro rfl ?_; refine And.intro rfl ?_; refine And.intro rfl ?_; refine And.intro rfl ?_; refine And.intro rfl ?_; refine And.intro rfl ?_; refine And.intro rfl ?_; refine And.intro rfl ?_; refine And.intro rfl ?_; refine And.intro rfl ?_; refine And.intro rfl ?_; refine And.intro rfl ?_; refine And.intro rfl ?_; refine And.intro rfl ?_; refine And.intro rfl ?_; refine And.intro rfl ?_; refine And.intro rfl ?_; exact True.intro⟩
        | some y =>
          have hn2 : pc ∈ pl.map (·.1) := by
            by_cases h : pc ∈ pl.map (·.1)
            · exact h
            · rw [hpn.2 h] at hpa; cases hpa
          dsimp only
          unfold pN
          apply wl_take; exact rfl; exact rfl; exact rfl; refine bT ?_; (with_reducible assumption); apply wl_val; apply opv_bin; exact rfl; exact rfl; exact bin_neqPtrNil tyPPO; exact rfl; apply wl_take; exact rfl; exact rfl; exact rfl; exact rfl; apply wl_val; apply opv_pickT; exact rfl; refine bT ?_; (with_reducible assumption); exact rfl; exact rfl; apply wl_val; apply opv_pickF; exact rfl; exact rfl; exact rfl; exact rfl; refine wl_nil ?_
          exact we_cut _ ⟨rfl, rfl⟩ ⟨congrArg (fun b => some (Value.bool b)) (by rw [decide_eq_true ⟨by omega, hn2⟩]), by refine And.intro rfl ?_; refine And.intro rfl ?_; refine And.intro rfl ?_; refine And.intro rfl ?_; refine And.intro rfl ?_; refine And.intro rfl ?_; refine And.intro rfl ?_; refine And.intro rfl ?_; refine And.intro rfl ?_; refine And.intro rfl ?_; refine And.intro rfl ?_; refine And.intro rfl ?_; refine And.intro rfl ?_; refine And.intro rfl ?_; refine And.intro rfl ?_; refine And.intro rfl ?_; refine And.intro rfl ?_; refine And.intro rfl ?_; refine And.intro rfl ?_; refine And.intro rfl ?_; refine And.intro rfl ?_; refine And.intro rfl ?_; refine And.intro rfl ?_; refine And.intro rfl ?_; exact True.intro⟩
      · apply wl_val; apply opv_bin; exact rfl; exact rfl; exact bin_neqNilNil tyPPO; exact rfl; refine wl_mv rfl rfl ?_; apply wl_take; exact rfl; exact rfl; exact rfl; exact rfl; refine wl_mv rfl rfl ?_; apply wl_take; exact rfl; exact rfl; exact rfl; exact rfl; refine wl_bin rfl rfl bin_gtr rfl ?_; apply wl_take; exact rfl; exact rfl; exact rfl; exact rfl; refine wl_mv rfl rfl ?_; apply wl_skip; exact rfl; exact rfl; exact rfl; refine bFn ?_; (with_reducible assumption); exact rfl; apply wl_skip; exact rfl; exact rfl; exact rfl; refine bFn ?_; (with_reducible assumption); exact rfl; apply wl_skip; exact rfl; exact rfl; exact rfl; refine bFn ?_; (with_reducible assumption); exact rfl; apply wl_skip; exact rfl; exact rfl; exact rfl; refine bFn ?_; (with_reducible assumption); exact rfl; apply wl_take; exact rfl; exact rfl; exact rfl; exact rfl; apply wl_val; apply opv_pickF; exact rfl; refine bF ?_; (with_reducible assumption); exact rfl; exact rfl; apply wl_val; apply opv_pickF; exact rfl; exact rfl; exact rfl; exact rfl; refine wl_nil ?_
        exact we_cut _ ⟨rfl, rfl⟩ ⟨congrArg (fun b => some (Value.bool b)) (by rw [decide_eq_false fun h => hpc (by omega)]), by refine And.intro rfl ?_; refine And.intro rfl ?_; refine And.intro rfl ?_; refine And.intro rfl ?_; refine And.intro rfl ?_; refine And.intro rfl ?_; refine And.intro rfl ?_; refine And.intro rfl ?_; refine And.intro rfl ?_; refine And.intro rfl ?_; refine And.intro rfl ?_; refine And.intro rfl ?_; refine And.intro rfl ?_; refine And.intro rfl ?_; refine And.intro rfl ?_; refine And.intro rfl ?_; refine And.intro rfl ?_; refine And.intro rfl ?_; refine And.intro rfl ?_; refine And.intro rfl ?_; refine And.intro rfl ?_; refine And.intro rfl ?_; refine And.intro rfl ?_; refine And.intro rfl ?_; exact True.intro⟩
    dsimp only [List.drop]
    by_cases hbad : 0 < pc ∧ pc ∈ pl.map (·.1)
    · rw [decide_eq_true hbad]
      have hg := bad (.inr hbad)
      refine wl_ns ?_; apply wc_condTb; exact rfl; exact rfl; refine wc_sr ?_; refine wl_as rfl rfl ?_; refine wl_as rfl rfl ?_; refine wl_ns ?_; refine wc_ret ?_; refine we_seq_ret ?_; refine we_block_ret ?_; refine we_seq_ret ?_; refine we_loop_ret ?_; refine we_block_ret ?_; refine we_seq_ret ?_
      exact we_ret2 rfl rfl rfl ⟨_, rfl, .inl ⟨by rw [hg]; decide, by rw [hg]; rfl, (hs00.call hs).bel⟩⟩
    rw [decide_eq_false hbad]
    rw [if_neg (fun h => h.elim hxn hbad)] at hds
    obtain ⟨QA, qc, QB, qd, hs⟩ := (hs.front 2 rfl).lk
    unfold lkQ at hs
    dsimp only [List.cons_append, List.nil_append, delC, List.length_nil, List.map_nil] at hs
    rw [hnl] at hs
    refine wl_ns ?_; apply wc_condFb; exact rfl; exact rfl; refine wc_skip ?_; refine we_seq ?_; refine wc_sr ?_; refine wl_mv rfl rfl ?_; refine wl_mv rfl rfl ?_; apply wl_val; apply opv_nilOk; exact rfl; exact rfl; apply wl_val; apply opv_fa; exact fa_Tb0; exact rfl; exact rfl; apply wl_val; apply opv_ldX; exact rfl; exact hs.ar 0 rfl; exact e1_pos; exact rfl; exact rfl; refine wl_mv rfl rfl ?_
    refine ws_push (vs := [pN g]) hs 1 rfl rfl tyPO ⟨rfl, rfl, rfl, trivial⟩ rfl (by decide) rfl (by omega) (by simp only [maxLen]; omega) rfl rfl ?_
    clear hs; intro _ A2 c2 w8 hs; dsimp only [setC] at hs
    apply wl_val; apply opv_nilOk; exact rfl; exact rfl; apply wl_val; apply opv_fa; exact fa_Tb0; exact rfl; exact rfl; apply ws_st hs 0; exact rfl; exact rfl; exact e1_pos; exact rfl; exact rfl; exact rfl; clear hs; intro _ hs; dsimp only [setC, List.set] at hs; refine wl_ns ?_; refine wc_sr ?_; refine wl_mv rfl rfl ?_; refine wl_bin rfl rfl bin_gtr rfl ?_; refine wl_ns ?_
    obtain ⟨gp1, hgp⟩ : ∃ f : Tx → Nat, f = fun y => if y = o.x then g else gp y := ⟨_, rfl⟩
    have hgx : gp1 o.x = g := by rw [hgp]; exact if_pos rfl
    have hgo : ∀ y ∈ os.map (·.x), gp y = gp1 y := fun y hy => by rw [hgp]; exact (if_neg (show ¬ y = o.x from fun e => hxn (by rw [hnl, ← e]; exact hy))).symm
    have e1 : ptrs gp (os.map (·.x)) = ptrs gp1 (os.map (·.x)) := List.map_congr_left fun y hy => by rw [hgo y hy]
    have e3 : ownCs gp os = ownCs gp1 os := List.map_congr_left fun p hp => by rw [hgo p.x (List.mem_map_of_mem hp)]
    rw [e1, e3, ← hgx] at hs
    rw [← hgx]
    replace hPl := hPl.congr (gp' := gp1) fun p hp => hgo _ (hpn p hp)
    have hs4 := (((((hs.front 3 rfl).front 4 rfl).ownB2).front 3 rfl).front 3 rfl).front 3 rfl
    have hlo : (os ++ [o]).length = os.length + 1 := by simp
    replace hs := (St.lkMk (gp := gp1) (tb := ⟨os ++ [o], []⟩) (H := [_]) hs4 (by simp) rfl (by simp [names, ptrs]) rfl rfl).front 1 rfl
    dsimp only [delC] at hs
    clear hs4 e1 e3
    have hZ2 := hZ.cut (l := 4) (h := mm) (by omega) (Nat.le_refl _) hzc
    rw [List.take_of_length_le (by rw [List.length_drop, hvl]; omega), List.drop_drop, show 4 * os.length + 4 = 4 * (os ++ [o]).length by rw [hlo]; omega] at hZ2
    rw [← hlo] at hds
    have hpn2 : ∀ p ∈ pl, p.2 ∈ (os ++ [o]).map (·.x) := fun p hp => by rw [List.map_append]; exact List.mem_append_left _ (hpn p hp)
    by_cases hpc : (0 : Int) < (pc : Int)
    · rw [if_pos (by omega)] at hds
      have hk : pc ∉ pl.map (·.1) := fun h => hbad ⟨by omega, h⟩
      apply wc_decT; exact rfl; (with_reducible assumption); refine wc_region ?_; refine wl_mv rfl rfl ?_; refine wl_mv rfl rfl ?_; refine wl_mv rfl rfl ?_
      refine ws_mput (k := pc) hs 0 rfl mapTyI Try.underlying3 rfl rfl rfl ?_
      clear hs; intro w9 hs; dsimp only [setC] at hs
      refine wl_nil ?_; refine we_block_norm ?_; refine we_seq ?_; refine wc_region ?_; refine wl_mv rfl rfl ?_
      refine wl_sl (l := 4) (h := mm) tyBB rfl ⟨_, rfl⟩ rfl (by omega) (by omega) rfl ?_
      refine wl_as rfl rfl ?_; refine wl_nil ?_
      exact we_loop _ (mm - 4) ⟨(os ++ [o]).length, mm - 4, gp1, os ++ [o], pl ++ [(pc, o.x)], _, _, cutA Z zc 4, zc - 4, rfl, by omega, by omega, hZ2, hds, rfl, by simp; omega, fun p hp => by
        rcases List.mem_append.1 hp with hp | hp
        · exact hpn2 p hp
        · rw [List.mem_singleton.1 hp]; simp, hPl.put hk o.x, hs, rfl⟩ (by omega) ⟨rfl, rfl, by simp [lookT], trivial⟩
    · rw [if_neg (by omega)] at hds
      apply wc_decF; exact rfl; (with_reducible assumption); refine wc_skip ?_; refine we_block_norm ?_; refine we_seq ?_; refine wc_region ?_; refine wl_mv rfl rfl ?_
      refine wl_sl (l := 4) (h := mm) tyBB rfl ⟨_, rfl⟩ rfl (by omega) (by omega) rfl ?_
      refine wl_as rfl rfl ?_; refine wl_nil ?_
      exact we_loop _ (mm - 4) ⟨(os ++ [o]).length, mm - 4, gp1, os ++ [o], pl, es, clk, cutA Z zc 4, zc - 4, rfl, by omega, by omega, hZ2, hds, rfl, by simp; omega, hpn2, hPl, hs, rfl⟩ (by omega) ⟨rfl, rfl, by simp [lookT], trivial⟩
  · have hfin : decL ps [] [] = ((os, pl), 0) := by
      rw [hdec, List.drop_of_length_le (by omega)]; rfl
    rw [hfin] at hgG
    simp only [ne_eq, not_true, if_false] at hgG
    have hel := hPl.len
    clear hdec hZ
    refine wc_exit ?_; refine we_seq_exit ?_; refine we_loop_exit ?_; refine we_block_exit ?_; refine we_seq ?_; refine wc_seq ?_; refine wc_sr ?_; refine wl_as rfl rfl ?_; refine wl_ns ?_; refine wc_block ?_
    refine wc_loop (fun L wr mm => ∃ (i : Nat) (q : List Tx), L = [(6, .pointer (some ⟨t, 0, none⟩)), (7, .map (some mb)), (12, .int .i64 ((i + 1 : Nat) : Int))] ∧ i ≤ pl.length ∧ q.length = i ∧ quF pl (List.range' 1 pl.length) = (quF pl (List.range' (i + 1) (pl.length - i))).map (q ++ ·) ∧ St NoB w2 wr [.ck (mpC mb es clk), .ck (lkC t gp ⟨os, q⟩)] ∧ mm = pl.length - i)
      [(6, .pointer (some ⟨t, 0, none⟩)), (7, .map (some mb)), (12, .int .i64 ((0 + 1 : Nat) : Int))] pl.length ⟨0, [], rfl, by omega, rfl, by cases quF pl (List.range' 1 pl.length) <;> simp, hs, rfl⟩ ⟨rfl, rfl, rfl, trivial⟩ ?_
    clear hs
    rintro _ w6 mm2 ⟨i, q, rfl, hi, rfl, hqu, hs, rfl⟩
    refine wc_seq ?_; refine wc_sr ?_; refine wl_mv rfl rfl ?_; refine wl_mv rfl rfl ?_
    refine wl_val (opv_lenM mapTyI rfl (hs.mp 0 rfl)) rfl ?_
    rw [hel]
    refine wl_bin rfl rfl bin_leq rfl ?_; refine wl_ns ?_
    refine wc_cond rfl (fun h3 => ?_) (fun h3 => ?_)
    · have hrg : List.range' (q.length + 1) (pl.length - q.length) = (q.length + 1) :: List.range' (q.length + 1 + 1) (pl.length - (q.length + 1)) := by
        rw [show pl.length - q.length = (pl.length - (q.length + 1)) + 1 by omega, List.range'_succ]
      rw [hrg, quF] at hqu
      refine wc_skip ?_; refine we_seq ?_; refine wc_seq ?_; refine wc_block ?_; refine wc_seq ?_; refine wc_sr ?_; refine wl_mv rfl rfl ?_; refine wl_mv rfl rfl ?_
      refine wl_val (opv_lookup (k := q.length + 1) mapTyI Try.underlying3 zeroPO rfl rfl (hs.mp 0 rfl)) rfl ?_
      rw [hPl.get]
      cases hpa : plAt pl (q.length + 1) with
      | none =>
        rw [hpa] at hqu
        have hg : decT b = (tb0, 3) := by rw [hgG, hqu]; rfl
        dsimp only
        apply wl_val; apply opv_bin; exact rfl; exact rfl; exact bin_eqlNilNil Try.underlying75; exact rfl; refine wl_ns ?_; apply wc_condTb; exact rfl; exact rfl; refine wc_sr ?_; refine wl_as rfl rfl ?_; refine wl_as rfl rfl ?_; refine wl_ns ?_; refine wc_ret ?_; refine we_seq_ret ?_; refine we_block_ret ?_; refine we_seq_ret ?_; refine we_loop_ret ?_; refine we_block_ret ?_; refine we_seq_ret ?_
        exact we_ret2 rfl rfl rfl ⟨_, rfl, .inl ⟨by rw [hg]; decide, by rw [hg]; rfl, (hs00.call hs).bel⟩⟩
      | some x =>
        rw [hpa] at hqu
        dsimp only at hqu
        dsimp only
        unfold pN
        obtain ⟨QA, qc, QB, qd, hs⟩ := (hs.front 1 rfl).lk
        unfold lkQ at hs
        dsimp only [List.cons_append, List.nil_append, delC] at hs
        apply wl_val; apply opv_bin; exact rfl; exact rfl; exact bin_eqlPtrNil Try.underlying75; exact rfl; refine wl_ns ?_; apply wc_condFb; exact rfl; exact rfl; refine wc_skip ?_; refine we_seq ?_
        refine wc_heldL (fun w' => Ar w' t 47 [.slice QA os.length qc, .slice QB q.length qd] ∧ Mp w' mb es clk) 12 mixed ?_
        replace hs := hs.below (Below.refl _ _).drew
        have hS : _ ∧ _ := ⟨hs.ar 0 rfl, hs.mp 4 rfl⟩
        apply wm_take 0; exact rfl; intro _ hw_; apply opv_move; exact rfl; exact rfl; kernel_rfl; exact hS; apply wm_take 1; exact rfl; intro _ hw_; apply opv_move; exact rfl; exact rfl; kernel_rfl; exact hS; apply wm_take 2; exact rfl; intro _ hw_; apply opv_nilOk; exact rfl; exact rfl; kernel_rfl; exact hS; apply wm_take 3; exact rfl; intro _ hw_; apply opv_fa; exact fa_Tb1; exact rfl; exact rfl; kernel_rfl; exact hS; apply wm_take 4; exact rfl; intro _ hw_; apply opv_ldX; exact rfl; exact hw_.1; exact e1_pos; exact rfl; exact rfl; kernel_rfl; exact hS; apply wm_take 5; exact rfl; intro _ hw_; apply opv_move; exact rfl; exact rfl; kernel_rfl; exact hS; apply wm_take 6; exact rfl; intro _ hw_; apply opv_move; exact rfl; exact rfl; kernel_rfl; exact hS
        refine wm_take 7 rfl (fun _ hw_ => opv_lookup (k := q.length + 1) mapTyI Try.underlying3 zeroPO rfl rfl hw_.2) rfl (by kernel_rfl) hS ?_
        clear hS
        rw [hPl.get, hpa]
        dsimp only
        refine wm_one 8 (by kernel_rfl) rfl ?_; dsimp only [List.getElem_toArray, List.getElem_cons_succ, List.getElem_cons_zero]
        refine ws_bs (vs := [pN (gp x)]) hs tyPO ⟨rfl, rfl, rfl, trivial⟩ rfl (by decide) rfl ?_
        clear hs; intro R w7 hs
        refine wl_nil ?_
        refine we_heldM (fun _ => ⟨hs.ar 1 rfl, hs.mp 5 rfl⟩) ?_
        refine wm_one 9 (by kernel_rfl) rfl ?_; dsimp only [List.getElem_toArray, List.getElem_cons_succ, List.getElem_cons_zero]
        refine ws_app (ys := [pN (gp x)]) hs 3 rfl rfl tyPO rfl (hs.ow 0 rfl).rd (by simp [pN, Value.oneCell']) (by omega) (by simp only [maxLen]; omega) rfl ?_
        clear hs; intro QB2 qd2 w8 hs; dsimp only [setC] at hs
        refine wl_nil ?_
        refine we_heldM (fun _ => ⟨hs.ar 1 rfl, hs.mp 5 rfl⟩) ?_
        refine wm_one 10 (by kernel_rfl) rfl ?_; dsimp only [List.getElem_toArray, List.getElem_cons_succ, List.getElem_cons_zero]
        apply wl_val; apply opv_nilOk; exact rfl; exact rfl; refine wl_nil ?_
        refine we_heldM (fun _ => ⟨hs.ar 1 rfl, hs.mp 5 rfl⟩) ?_
        refine wm_one 11 (by kernel_rfl) rfl ?_; dsimp only [List.getElem_toArray, List.getElem_cons_succ, List.getElem_cons_zero]
        apply wl_val; apply opv_fa; exact fa_Tb1; exact rfl; exact rfl; refine wl_nil ?_
        refine we_heldM (fun _ => ⟨hs.ar 1 rfl, hs.mp 5 rfl⟩) ?_
        refine wm_one 12 (by kernel_rfl) rfl ?_; dsimp only [List.getElem_toArray, List.getElem_cons_succ, List.getElem_cons_zero]
        apply ws_st hs 1; exact rfl; exact rfl; exact e1_pos; exact rfl; exact rfl; exact rfl; clear hs; intro _ hs; dsimp only [setC, List.set] at hs; refine wl_nil ?_
        refine we_heldM (fun h => absurd h (by decide)) ?_
        refine wm_done (by kernel_rfl) ?_
        refine we_block_norm ?_; refine we_seq ?_; refine wc_region ?_; refine wl_mv rfl rfl ?_; apply wl_val; apply opv_bin; exact rfl; exact rfl; exact bin_add64 (by omega); exact rfl; refine wl_as rfl rfl ?_; refine wl_nil ?_
        replace hs := hs.drop 0 rfl
        dsimp only [delC] at hs
        replace hs := (St.lkMk (gp := gp) (tb := ⟨os, q ++ [x]⟩) (H := [_]) hs rfl (by simp) rfl (by simp [ptrs]) rfl).front 1 rfl
        dsimp only [delC] at hs
        refine we_loop _ (pl.length - (q.length + 1)) ⟨q.length + 1, q ++ [x], rfl, by omega, by simp, ?_, hs, rfl⟩ (by omega) ⟨rfl, rfl, by simp [lookT], trivial⟩
        rw [hqu]
        cases quF pl (List.range' (q.length + 1 + 1) (pl.length - (q.length + 1))) <;> simp
    · have hqe : q.length = pl.length := by omega
      rw [hqe, Nat.sub_self, List.range'_zero, quF] at hqu
      have hg : decT b = (⟨os, q⟩, 0) := by rw [hgG, hqu]; simp
      refine wc_exit ?_; refine we_seq_exit ?_; refine we_loop_exit ?_; refine we_block_exit ?_; refine we_seq ?_; refine wc_sr ?_; refine wl_mv rfl rfl ?_; refine wl_as rfl rfl ?_; refine wl_as rfl rfl ?_; refine wl_ns ?_; refine wc_ret ?_
      exact we_ret2 rfl rfl rfl ⟨_, rfl, .inr ⟨by rw [hg], t, gp, rfl, by rw [hg]; exact hs00.call (hs.drop 0 rfl)⟩⟩
end Go.Proofs.Ytmdbjeabifkimaa

/-
  Names of the acts' tables may be written; walk over the law LockCodes.
-/
namespace Go.Proofs.Ytmdbjeabifkimaa
open Go.RowKit

theorem ask_names {tb : Tb} (h : LkI tb) (x : Tx) (l : List Rg) : ∀ y ∈ names (askT tb x l).t, y ∈ names tb ∨ y = x := by
  have hA : ∀ y ∈ names (askQ tb x l), y ∈ names tb ∨ y = x := fun y hy => by
    rw [names_askQ] at hy
    obtain ⟨o, ho, rfl⟩ := List.mem_map.1 hy
    rcases mem_addO.1 ho with ho | ⟨_, rfl⟩
    · exact .inl (List.mem_map_of_mem ho)
    · exact .inr rfl
  unfold askT
  split
  · exact fun y hy => .inl hy
  · rename_i hck
    split
    · exact fun y hy => .inl hy
    · rename_i hxq
      have hwQ := h.wf.askQ (l := l) hxq (Decidable.not_not.1 hck)
      split
      · intro y hy
        dsimp only at hy
        rw [names_go] at hy
        exact hA y hy
      · intro y hy
        dsimp only at hy
        have h3 := victs_wf (n := tb.qu.length + 2) hwQ (by show (tb.qu ++ [x]).length < _; simp)
        rw [(goT_wf h3.1).2.1, victs_names hwQ] at hy
        exact hA y hy
theorem enc_ok {tb : Tb} (hI : LkI tb) (hS : LkS 41 tb) (h : ∀ x ∈ names tb, Tx64 x) : ∀ o ∈ tb.os, EncOk tb.qu o := fun o ho => by
  have h1 := h o.x (List.mem_map_of_mem ho)
  have h2 := hS.held o ho
  exact ⟨h1.1, h1.2, fun r hr => hI.wf.form o ho r (.inl hr), fun r hr => hI.wf.form o ho r (.inr hr), hI.wf.idle o ho, hI.wf.few o ho, by omega⟩
theorem enc_flat2 {qu : List Tx} (hq : qu.length ≤ 1048576) : ∀ {os : List Ownr}, (∀ o ∈ os, EncOk qu o) → (∀ o ∈ os, o.held.length + o.asks.length ≤ 2624) → (os.flatMap (encO qu)).flatten.length ≤ 6000000 * os.length
  | [], _, _ => by simp
  | o :: os, h, h' => by
    have h1 := enc_flat2 hq (os := os) (fun q hq => h q (List.mem_cons_of_mem _ hq)) fun q hq => h' q (List.mem_cons_of_mem _ hq)
    have ho := h o List.mem_cons_self
    have ho' := h' o List.mem_cons_self
    have h2 := putU_le ho.s
    have h3 := putU_le ho.q
    have h4 := putB_len ho.hh
    have h5 := putB_len ho.ha
    have h8 : plO qu o.x ≤ 1048576 := by
      unfold plO
      split
      · rename_i h; have := List.idxOf_lt_length_of_mem h; omega
      · omega
    have h9 := putU_le (n := plO qu o.x) (by omega)
    rw [List.flatMap_cons, List.flatten_append, List.length_append, List.length_cons]
    simp only [encO, List.flatten_cons, List.flatten_nil, List.append_nil, List.length_append]
    omega
theorem enc_len {tb : Tb} (hS : LkS 41 tb) (hok : ∀ o ∈ tb.os, EncOk tb.qu o) (hq : tb.qu.length ≤ 1048576) : (encB tb).length ≤ 4294967296 := by
  have h1 := enc_flat2 hq hok fun o ho => by have := hS.held o ho; omega
  have h2 := hS.os
  have h3 := framed_len (tb.os.flatMap (encO tb.qu)) fun p hp => by
    obtain ⟨o, ho, h⟩ := List.mem_flatMap.1 hp
    exact encO_lt (hok o ho) hq p h
  have h4 := enc_len4 (qu := tb.qu) tb.os
  unfold encB
  omega
end Go.Proofs.Ytmdbjeabifkimaa
