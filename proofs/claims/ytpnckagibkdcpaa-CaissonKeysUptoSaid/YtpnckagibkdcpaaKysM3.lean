/-
  The texts of this proof, joined: Tq.
-/
import Derived.Test.YtpnckagibkdcpaaKysM2
import Derived.Test.YtpnckagibkdcpaaKysM1

/-
  CaissonKeys: keys of a text, a number and bytes behind one another: the plain law, and the walk.
-/
namespace Go.Proofs.Ytpnckagibkdcpaa
open Go.RowKit Go.ChangeShapes Go.WideShapes Go.ChangeAt Go.Deep

theorem tyI64 : Row1 Try.prog 22 2 (.int .i64 0) 8 := ⟨Try.underlying22, by kernel_rfl, rfl, by rw [Try.underlying2]⟩
theorem tkI64 : RowK Try.prog 22 2 1 (.int .i64 0) 8 := ⟨Try.underlying22, by kernel_rfl, rfl, by decide⟩
abbrev iEl (m : Int) : El := vEl (.int .i64 m)
def I64 (m : Int) : Prop := -9223372036854775808 ≤ m ∧ m ≤ 9223372036854775807
theorem opens_i64 : Opens Try.prog 2 iEl 1 (fun _ => 0) I64 := fun {H} enc W fuel cs x h => by
  obtain ⟨a, h1, h2, k, b⟩ := opens_int Try.underlying2 enc W fuel cs x h
  exact ⟨a, h1, h2, by simpa [I64, Lit.wf, IntKind.min, IntKind.max, IntKind.signed, IntKind.bits] using k, b⟩
theorem opens_i64s : Opens Try.prog 22 (fun l : List Int => rowEl 1 (l.map iEl)) 1 (sumB fun _ => 0) (fun l => ∀ m ∈ l, I64 m) := opens_slice tkI64 (by kernel_rfl) opens_i64
def i64s (ms : List Int) : List Value := ms.map fun m => .int .i64 m
theorem i64s_get {ms : List Int} {k : Nat} {m : Int} (h : ms[k]? = some m) : (i64s ms)[k]? = some (.int .i64 m) := by simp [i64s, h]
theorem flat_i64s : ∀ (ms : List Int), (ms.map fun m => [Value.int .i64 m]).flatten = i64s ms
  | [] => rfl
  | m :: ms => by rw [List.map_cons, List.flatten_cons, flat_i64s ms]; rfl
theorem rd_i64s {w : World} {S : BS} {A : Option Addr} {ms : List Int} (h : RdR 1 w S A (ms.map iEl)) : Rd w A ms.length (i64s ms) := by
  obtain ⟨css, h1, h2, _⟩ := h
  have he : css.flatten = i64s ms := by
    have hl := h1.1
    rw [List.length_map] at hl
    have : css = ms.map fun m => [Value.int .i64 m] := by
      apply List.ext_getElem?
      intro i
      cases hi : css[i]? with
      | none => rw [List.getElem?_eq_none]; have := List.getElem?_eq_none_iff.1 hi; simp; omega
      | some cs =>
        obtain ⟨_, E, hE, hp⟩ := h1.2 i cs hi
        rw [List.getElem?_map] at hE ⊢
        cases hm : ms[i]? with
        | none => rw [hm] at hE; cases hE
        | some m => rw [hm] at hE; cases hE; exact congrArg some hp
    rw [this, flat_i64s]
  rw [he, List.length_map, Nat.mul_one] at h2
  exact h2
theorem zt_tri (x y : UInt8) : x < y ∨ x = y ∨ y < x := by
  rcases Nat.lt_trichotomy x.toNat y.toNat with h | h | h
  · exact .inl (UInt8.lt_iff_toNat_lt.2 h)
  · exact .inr (.inl (UInt8.toNat_inj.1 h))
  · exact .inr (.inr (UInt8.lt_iff_toNat_lt.2 h))
theorem zmp_same_len : ∀ (a b s t : List UInt8), a.length = b.length → cmpB (a ++ s) (b ++ t) = if cmpB a b = 0 then cmpB s t else cmpB a b
  | [], [], s, t, _ => by simp [cmp_refl]
  | [], _ :: _, _, _, h => by simp at h
  | _ :: _, [], _, _, h => by simp at h
  | x :: a, y :: b, s, t, h => by
    have ih := zmp_same_len a b s t (by simpa using h)
    rcases zt_tri x y with h1 | h1 | h1
    · rw [List.cons_append, List.cons_append, cmp_lt h1, cmp_lt h1]; simp
    · subst h1; rw [List.cons_append, List.cons_append, cmp_same, cmp_same]; exact ih
    · rw [List.cons_append, List.cons_append, cmp_gt h1, cmp_gt h1]; simp
theorem zmp_ord_eq (a b s t : List UInt8) : cmpB (ordText a ++ s) (ordText b ++ t) = if cmpB a b = 0 then cmpB s t else cmpB a b := by
  by_cases h : cmpB a b = 0
  · rw [if_pos h, cmp_zero h, cmp_pre]
  · rw [if_neg h, cmp_ord s t a b h]
theorem zmp_key (a b s t : List UInt8) : cmpB (keyB a ++ s) (keyB b ++ t) = if cmpB (keyB a) (keyB b) = 0 then cmpB s t else cmpB (keyB a) (keyB b) := by
  have h1 : ∀ s t, cmpB (keyB a ++ s) (keyB b ++ t) = if cmpB (foldB a) (foldB b) = 0 then (if cmpB a b = 0 then cmpB s t else cmpB a b) else cmpB (foldB a) (foldB b) := fun s t => by
    rw [keyB, keyB, List.append_assoc, List.append_assoc, zmp_ord_eq, zmp_ord_eq]
  have h2 := h1 [] []
  rw [List.append_nil, List.append_nil] at h2
  rw [h1, h2]
  by_cases e1 : cmpB (foldB a) (foldB b) = 0
  · by_cases e2 : cmpB a b = 0
    · simp [e1, e2, cmp_refl]
    · simp [e1, e2]
  · simp [e1]
theorem key_inj {a b : List UInt8} (h : keyB a = keyB b) : a = b := by
  have h1 := fromKey_key a
  rw [h, fromKey_key b] at h1
  simpa using (congrArg Prod.fst h1).symm
theorem key_zero {a b : List UInt8} : cmpB (keyB a) (keyB b) = 0 ↔ a = b := ⟨fun h => key_inj (cmp_zero h), fun h => by rw [h]; exact cmp_refl _⟩
theorem zmp_num {n m : Int} (hn : I64 n) (hm : I64 m) : cmpB (ordU (lift n)) (ordU (lift m)) = if n = m then 0 else if n < m then -1 else 1 := by
  unfold I64 at hn hm
  have h1 := cmp_ordU (lift_lt hn) (lift_lt hm)
  have h2 := cmp_ordU (lift_lt hm) (lift_lt hn)
  have h3 := cmp_neg (ordU (lift n)) (ordU (lift m))
  have h4 := cmp_range (ordU (lift n)) (ordU (lift m))
  have e1 : lift n < lift m ↔ n < m := by unfold lift; omega
  have e2 : lift m < lift n ↔ m < n := by unfold lift; omega
  rw [h3] at h2
  by_cases a : n < m
  · have : cmpB (ordU (lift n)) (ordU (lift m)) < 0 := by rw [h1]; exact e1.2 a
    rw [if_neg (by omega), if_pos a]; omega
  · by_cases b : m < n
    · have : - cmpB (ordU (lift n)) (ordU (lift m)) < 0 := by rw [h2]; exact e2.2 b
      rw [if_neg (by omega), if_neg a]; omega
    · have g1 : ¬ cmpB (ordU (lift n)) (ordU (lift m)) < 0 := by rw [h1]; exact fun h => a (e1.1 h)
      have g2 : ¬ - cmpB (ordU (lift n)) (ordU (lift m)) < 0 := by rw [h2]; exact fun h => b (e2.1 h)
      rw [if_pos (by omega)]; omega
def keys (a b : List UInt8) (x : Int) : List UInt8 := keyB a ++ ordU (lift x) ++ ordText b
theorem keys_cmp {a b : List UInt8} {x y : Int} (hx : I64 x) (hy : I64 y) : cmpB (keys a b x) (keys b a y) = if a = b then (if x = y then 0 else if x < y then -1 else 1) else cmpB (keyB a) (keyB b) := by
  have ho : cmpB (ordText b) (ordText a) = cmpB b a := by
    have := zmp_ord_eq b a [] []
    rw [List.append_nil, List.append_nil] at this
    rw [this]; split
    · rename_i h; rw [h, cmp_refl]
    · rfl
  rw [keys, keys, List.append_assoc, List.append_assoc, zmp_key, zmp_same_len _ _ _ _ (by rw [ordU_length, ordU_length]), zmp_num hx hy, ho]
  by_cases h : a = b
  · subst h
    rw [if_pos (cmp_refl _), if_pos rfl, cmp_refl]
    by_cases e : x = y
    · simp [e]
    · simp only [if_neg e]; split <;> simp
  · rw [if_neg (fun k => h (key_zero.1 k)), if_neg h]
theorem keys_from (a b : List UInt8) (x : Int) : fromKey (keys a b x) 0 = (a, ((keyB a).length : Int), 0) := by
  have h1 := gotOrd_at [] (foldB a) (ordText a ++ (ordU (lift x) ++ ordText b))
  have h2 := gotOrd_at (ordText (foldB a)) a (ordU (lift x) ++ ordText b)
  simp only [List.nil_append, List.length_nil, Nat.zero_add] at h1
  have e : keys a b x = ordText (foldB a) ++ (ordText a ++ (ordU (lift x) ++ ordText b)) := by simp [keys, keyB]
  rw [e]
  refine (fromKey_4 (p := ((0 : Nat) : Int)) (n := ((ordText (foldB a)).length : Int)) h1 h2 rfl).trans ?_
  simp [keyB]
theorem keys_num {a b : List UInt8} {x : Int} (hx : I64 x) : getOrdU (keys a b x) ((keyB a).length : Int) = (lift x, ((keyB a).length : Int) + 8, 0) := by
  rw [getOrdU_ok (q := (keyB a).length) (by simp [keys, ordU_length])]
  have : ((keys a b x).drop (keyB a).length).take 8 = ordU (lift x) := by
    rw [keys, List.append_assoc, List.drop_left, List.take_append_of_le_length (by rw [ordU_length]; omega), List.take_of_length_le (by rw [ordU_length]; omega)]
  rw [this, numB_ordU (lift_lt hx)]
theorem keys_text (a b : List UInt8) (x : Int) : getOrd (keys a b x) (((keyB a).length : Int) + 8) = (b, ((keys a b x).length : Int), 0) := by
  have h := gotOrd_at (keyB a ++ ordU (lift x)) b []
  rw [List.append_nil, List.length_append, ordU_length] at h
  have e : ((keyB a).length : Int) + 8 = (((keyB a).length + 8 : Nat) : Int) := by omega
  rw [e, keys, h]
  simp [ordU_length]; omega
theorem keys_len (a b : List UInt8) (x : Int) : (keys a b x).length ≤ 10 * a.length + 2 * b.length + 16 := by
  have h1 := keyB_length a
  have h2 := ordText_length b
  rw [keys, List.length_append, List.length_append, ordU_length]; omega
theorem keys_awake : rs [195, 164] = [228] ∧ ordU 1 = [0, 0, 0, 0, 0, 0, 0, 1] := by decide
theorem ow_capT {w : World} {A : Option Addr} {n c base : Nat} {e : TypeId} {xs : List Value} (h : Ow w base e A n c xs) : n ≤ c := by
  rcases h.2 with ⟨hv, hn⟩ | ⟨g, cap, cur, hv, _, _, hnc, _⟩
  · omega
  · injection hv with _ _ hc; omega
abbrev RetTk (w : World) (v : Value) (w' : World) : Prop := v = .bool true ∧ Below w.heap.size w w'
/-- One key of a text, a number and bytes. -/
theorem RetB.st {w0 w w' : World} {M : BS} {H : List Cd} {xs : List UInt8} {A : Option Addr} {c : Nat} (hs : St M w0 w H) (ho : OwB w' w.heap.size A c xs) (hb : Below w.heap.size w w') : St M w0 w' (.ow 5 A xs.length c (bvs xs) :: H) := hs.newO hb ho (Nat.le_refl _)
set_option maxRecDepth 8000 in
theorem keys_walk {a b : List UInt8} {A : Option Addr} {n c : Nat} {ns : List Int} {w : World} (ha : a.length ≤ 1048576) (hb : b.length ≤ 1048576) (hr : RdR 1 w All A (ns.map iEl)) (hn : ns.length = n) (_hc : n ≤ c) (hok : ∀ m ∈ ns, I64 m) (_hl : (sumB (fun _ => 0) ns : Nat) ≤ 1048576) :
    CallsV Try.prog 3 #[str a, str b, .slice A n c] w (RetTk w) := by
  subst hn
  have hrd := rd_i64s hr
  have hs := St.init w
  have hkla := keyB_length a
  have hklb := keyB_length b
  have hma : maxLen = 9223372036854775807 := rfl
  refine calls_in (N := _) Try.func3 rfl Try.ntmps3 rfl ?_; show WC _ _ _ _ _ _
  refine wc_sr ?_; refine wl_as rfl rfl ?_; refine wl_ns ?_; refine wc_seq ?_; refine wc_sr ?_
  refine wl_call ok_codec_OrdU (ordU_any 1 (by decide) _) ⟨rfl, trivial⟩ rfl ?_; rintro _ _ ⟨B, d, rfl, o_, hbx⟩; replace hs := hs.newO hbx o_ (Nat.le_refl _); try dsimp only [List.cons_append, List.nil_append, setC, delC] at hs
  skip
  refine ws_bs (vs := bvs [0, 0, 0, 0, 0, 0, 0, 1]) hs tyB ⟨rfl, rfl, rfl, rfl, rfl, rfl, rfl, rfl, rfl, rfl, rfl, rfl, rfl, rfl, rfl, rfl, rfl, rfl, rfl, rfl, rfl, rfl, rfl, rfl, trivial⟩ rfl (by decide) rfl ?_
  clear hs; intro D w2 hs
  refine wl_call ok_caissonref01_Equal (equal_any (xs := ordU 1) (ys := [0, 0, 0, 0, 0, 0, 0, 1]) (hs.ow 1 rfl).rd (hs.ow 0 rfl).rd rfl rfl (by rw [ordU_length]; decide)) ⟨rfl, rfl, trivial⟩ rfl ?_; rintro _ _ ⟨rfl, hbx2⟩; replace hs := hs.below hbx2; try dsimp only [List.cons_append, List.nil_append, setC, delC] at hs
  rw [decide_eq_true keys_awake.2]
  apply wl_val; apply opv_not; exact rfl; exact rfl; refine wl_mv rfl rfl ?_; apply wl_take; exact rfl; exact rfl; exact rfl; exact Bool.not_true
  refine wl_call ok_text_Len (len_any (l := [195, 164]) (by decide) _) ⟨rfl, trivial⟩ rfl ?_; rintro _ _ ⟨rfl, hbx3⟩; replace hs := hs.below hbx3; try dsimp only [List.cons_append, List.nil_append, setC, delC] at hs
  rw [keys_awake.1]
  replace hs := (hs.drop 0 rfl).drop 0 rfl
  dsimp only [delC] at hs
  apply wl_take; exact rfl; exact rfl; exact rfl; exact Bool.not_true; refine wl_bin rfl rfl bin_neq rfl ?_; apply wl_val; apply opv_pickF; exact rfl; exact Bool.not_true; exact rfl; exact rfl; refine wl_ns ?_; apply wc_condFb; exact rfl; exact rfl; refine wc_skip ?_; refine we_seq ?_; refine wc_sr ?_; refine wl_as rfl rfl ?_; refine wl_as rfl rfl ?_; refine wl_ns ?_; refine wc_seq ?_; refine wc_sr ?_; refine wl_mv rfl rfl ?_; apply wl_val; apply opv_len; exact rfl; exact tyI64.sl; exact rfl; refine wl_bin rfl rfl bin_gtr rfl ?_; refine wl_ns ?_
  refine wc_cutE (fun L' w' => ∃ x : Int, I64 x ∧ L' = [(0, str a), (1, str b), (2, .slice A ns.length c), (7, .int .i64 x), (8, .int .i64 0)] ∧ St NoB w w' []) ?_ ?_
  · cases ns with
    | nil =>
      have h0 : ¬ (0 : Int) < (([] : List Int).length : Int) := by simp
      apply wc_condFb; exact rfl; exact rfl; refine wc_skip ?_
      exact we_cut _ ⟨0, by unfold I64; omega, rfl, hs⟩ ⟨rfl, rfl, rfl, rfl, rfl, trivial⟩
    | cons m ns =>
      have h0 : (0 : Int) < ((m :: ns).length : Int) := by rw [List.length_cons]; omega
      have hm0 : (i64s (m :: ns))[0]? = some (.int .i64 m) := rfl
      have hrw := hrd.below hs.bel
      apply wc_decT; exact rfl; (with_reducible assumption); refine wc_region ?_; refine wl_mv rfl rfl ?_; apply wl_elK (T := tyI64) (hr := hrw) (hb := hm0); exact rfl; exact rfl; exact rfl; exact rfl; exact rfl; intro _; refine wl_as rfl rfl ?_; refine wl_nil ?_
      exact we_cut _ ⟨m, hok m List.mem_cons_self, rfl, hs⟩ ⟨rfl, rfl, rfl, rfl, rfl, trivial⟩
  clear hs
  rintro _ w3 ⟨x, hx, rfl, hs⟩
  refine we_seq ?_; refine wc_seq ?_; refine wc_sr ?_; refine wl_mv rfl rfl ?_; apply wl_val; apply opv_len; exact rfl; exact tyI64.sl; exact rfl; refine wl_bin rfl rfl bin_gtr rfl ?_; refine wl_ns ?_
  refine wc_cutE (fun L' w' => ∃ y : Int, I64 y ∧ L' = [(0, str a), (1, str b), (2, .slice A ns.length c), (7, .int .i64 x), (8, .int .i64 y)] ∧ St NoB w w' []) ?_ ?_
  · by_cases h1 : 1 < ns.length
    · have h1' : (1 : Int) < (ns.length : Int) := by omega
      obtain ⟨m, hm⟩ : ∃ m, ns[1]? = some m := ⟨_, List.getElem?_eq_getElem h1⟩
      have hm0 := i64s_get hm
      have hrw := hrd.below hs.bel
      apply wc_decT; exact rfl; (with_reducible assumption); refine wc_region ?_; refine wl_mv rfl rfl ?_; apply wl_elK (T := tyI64) (hr := hrw) (hb := hm0); exact rfl; exact rfl; exact rfl; exact rfl; exact rfl; intro _; refine wl_as rfl rfl ?_; refine wl_nil ?_
      exact we_cut _ ⟨m, hok m (List.mem_of_getElem? hm), rfl, hs⟩ ⟨rfl, rfl, rfl, rfl, rfl, trivial⟩
    · have h1' : ¬ (1 : Int) < (ns.length : Int) := by omega
      apply wc_decF; exact rfl; (with_reducible assumption); refine wc_skip ?_
      exact we_cut _ ⟨0, by unfold I64; omega, rfl, hs⟩ ⟨rfl, rfl, rfl, rfl, rfl, trivial⟩
  clear hs
  rintro _ w4 ⟨y, hy, rfl, hs⟩
  refine we_seq ?_; refine wc_sr ?_; refine wl_mv rfl rfl ?_
  refine wl_call ok_text_Key (key_any (l := a) (by omega) _) ⟨rfl, trivial⟩ rfl ?_; rintro _ _ ⟨B1, d1, rfl, o_, hbx⟩; replace hs := hs.newO hbx o_ (Nat.le_refl _); try dsimp only [List.cons_append, List.nil_append, setC, delC] at hs
  refine wl_mv rfl rfl ?_
  refine wl_call ok_codec_OrdI (ordI_any x hx _) ⟨rfl, trivial⟩ rfl ?_; rintro _ _ ⟨C1, e1, rfl, o_, hbx⟩; replace hs := hs.newO hbx o_ (Nat.le_refl _); try dsimp only [List.cons_append, List.nil_append, setC, delC] at hs
  skip
  refine ws_app (ys := bvs (ordU (lift x))) (m := (ordU (lift x)).length) hs 1 rfl rfl tyB rfl (hs.ow 0 rfl).rd (bvs_one _) (by rw [ordU_length]; omega) (by rw [ordU_length]; simp only [maxLen]; omega) rfl ?_
  clear hs; intro E1 f1 u1 hs; dsimp only [setC] at hs
  replace hs := hs.drop 0 rfl
  dsimp only [delC] at hs
  refine wl_mv rfl rfl ?_
  refine wl_toBytes Try.underlying9 Try.underlying24 Try.underlying5 rfl rfl fun F1 g1 v1 rF1 _ hbx => ?_
  replace hs := hs.below hbx
  refine wl_call ok_codec_OrdText (ordText_any rF1 rfl (by omega)) ⟨rfl, trivial⟩ rfl ?_; rintro _ _ ⟨G1, h1, rfl, o_, hbx⟩; replace hs := hs.newO hbx o_ (Nat.le_refl _); try dsimp only [List.cons_append, List.nil_append, setC, delC] at hs
  have hot1 := ordText_length b
  skip
  refine ws_app (ys := bvs (ordText b)) (m := (ordText b).length) hs 1 rfl rfl tyB rfl (hs.ow 0 rfl).rd (bvs_one _) (by rw [ordU_length]; omega) (by rw [ordU_length]; simp only [maxLen]; omega) rfl ?_
  clear hs; intro I1 j1 x1 hs; dsimp only [setC] at hs
  replace hs := hs.drop 0 rfl
  dsimp only [delC] at hs
  have hk1 : bvs (keyB a) ++ bvs (ordU (lift x)) ++ bvs (ordText b) = bvs (keys a b x) := by simp [keys, bvs]
  have hl1 : (keyB a).length + (ordU (lift x)).length + (ordText b).length = (keys a b x).length := by simp [keys]; omega
  rw [hk1, hl1] at hs
  rw [hl1]
  refine wl_as rfl rfl ?_; refine wl_ns ?_; refine wc_sr ?_; refine wl_mv rfl rfl ?_
  refine wl_call ok_text_Key (key_any (l := b) (by omega) _) ⟨rfl, trivial⟩ rfl ?_; rintro _ _ ⟨B2, d2, rfl, o_, hbx⟩; replace hs := hs.newO hbx o_ (Nat.le_refl _); try dsimp only [List.cons_append, List.nil_append, setC, delC] at hs
  refine wl_mv rfl rfl ?_
  refine wl_call ok_codec_OrdI (ordI_any y hy _) ⟨rfl, trivial⟩ rfl ?_; rintro _ _ ⟨C2, e2, rfl, o_, hbx⟩; replace hs := hs.newO hbx o_ (Nat.le_refl _); try dsimp only [List.cons_append, List.nil_append, setC, delC] at hs
  skip
  refine ws_app (ys := bvs (ordU (lift y))) (m := (ordU (lift y)).length) hs 1 rfl rfl tyB rfl (hs.ow 0 rfl).rd (bvs_one _) (by rw [ordU_length]; omega) (by rw [ordU_length]; simp only [maxLen]; omega) rfl ?_
  clear hs; intro E2 f2 u2 hs; dsimp only [setC] at hs
  replace hs := hs.drop 0 rfl
  dsimp only [delC] at hs
  refine wl_mv rfl rfl ?_
  refine wl_toBytes Try.underlying9 Try.underlying24 Try.underlying5 rfl rfl fun F2 g2 v2 rF2 _ hbx => ?_
  replace hs := hs.below hbx
  refine wl_call ok_codec_OrdText (ordText_any rF2 rfl (by omega)) ⟨rfl, trivial⟩ rfl ?_; rintro _ _ ⟨G2, h2, rfl, o_, hbx⟩; replace hs := hs.newO hbx o_ (Nat.le_refl _); try dsimp only [List.cons_append, List.nil_append, setC, delC] at hs
  have hot2 := ordText_length a
  skip
  refine ws_app (ys := bvs (ordText a)) (m := (ordText a).length) hs 1 rfl rfl tyB rfl (hs.ow 0 rfl).rd (bvs_one _) (by rw [ordU_length]; omega) (by rw [ordU_length]; simp only [maxLen]; omega) rfl ?_
  clear hs; intro I2 j2 x2 hs; dsimp only [setC] at hs
  replace hs := hs.drop 0 rfl
  dsimp only [delC] at hs
  have hk2 : bvs (keyB b) ++ bvs (ordU (lift y)) ++ bvs (ordText a) = bvs (keys b a y) := by simp [keys, bvs]
  have hl2 : (keyB b).length + (ordU (lift y)).length + (ordText a).length = (keys b a y).length := by simp [keys]; omega
  rw [hk2, hl2] at hs
  rw [hl2]
  have hl3 := keys_len a b x
  have hlx : ((lift x : Nat) : Int) - 9223372036854775808 = x := by unfold I64 at hx; unfold lift; omega
  refine wl_as rfl rfl ?_; refine wl_ns ?_; refine wc_sr ?_; refine wl_mv rfl rfl ?_
  refine wl_call ok_text_FromKey (fromKey_any (xs := keys a b x) (p := 0) (hs.ow 1 rfl).rd rfl (by omega)) ⟨rfl, rfl, trivial⟩ rfl ?_; rintro _ _ ⟨rfl, hbx⟩; replace hs := hs.below hbx; try dsimp only [List.cons_append, List.nil_append, setC, delC] at hs
  rw [keys_from]
  refine wl_mv rfl rfl ?_; apply wl_val; apply opv_extract; exact rfl; exact rfl; exact rfl; apply wl_val; apply opv_extract; exact rfl; exact rfl; exact rfl; apply wl_val; apply opv_extract; exact rfl; exact rfl; exact rfl; refine wl_as rfl rfl ?_; refine wl_as rfl rfl ?_; refine wl_as rfl rfl ?_; refine wl_ns ?_; refine wc_sr ?_; refine wl_mv rfl rfl ?_; refine wl_mv rfl rfl ?_
  refine wl_call ok_codec_GetOrdI (getOrdI_any (xs := keys a b x) (p := ((keyB a).length : Int)) (hs.ow 1 rfl).rd rfl (ow_capT (hs.ow 1 rfl)) (by omega) (by omega)) ⟨rfl, rfl, trivial⟩ rfl ?_; rintro _ _ ⟨rfl, hbx3⟩; replace hs := hs.below hbx3; try dsimp only [List.cons_append, List.nil_append, setC, delC] at hs
  rw [keys_num hx]
  dsimp only
  rw [if_pos rfl, hlx]
  refine wl_mv rfl rfl ?_; apply wl_val; apply opv_extract; exact rfl; exact rfl; exact rfl; apply wl_val; apply opv_extract; exact rfl; exact rfl; exact rfl; apply wl_val; apply opv_extract; exact rfl; exact rfl; exact rfl; refine wl_as rfl rfl ?_; refine wl_as rfl rfl ?_; refine wl_as rfl rfl ?_; refine wl_ns ?_; refine wc_sr ?_; refine wl_mv rfl rfl ?_; refine wl_mv rfl rfl ?_
  refine wl_call ok_codec_GetOrdText (getOrd_at (xs := keys a b x) (keys_text a b x) (hs.ow 1 rfl).rd rfl (by omega)) ⟨rfl, rfl, trivial⟩ rfl ?_; rintro _ _ ⟨T, tc, rfl, o_, hbx4⟩; replace hs := hs.newO hbx4 o_ (Nat.le_refl _); try dsimp only [List.cons_append, List.nil_append, setC, delC] at hs
  have hz01 : ¬ (((0 : Nat) : Int) ≠ 0) := by decide
  refine wl_mv rfl rfl ?_; apply wl_val; apply opv_extract; exact rfl; exact rfl; exact rfl; apply wl_val; apply opv_extract; exact rfl; exact rfl; exact rfl; apply wl_val; apply opv_extract; exact rfl; exact rfl; exact rfl; refine wl_as rfl rfl ?_; refine wl_as rfl rfl ?_; refine wl_as rfl rfl ?_; refine wl_ns ?_; refine wc_seq ?_; refine wc_sr ?_; refine wl_mv rfl rfl ?_; refine wl_bin rfl rfl bin_neq rfl ?_; refine wl_mv rfl rfl ?_; apply wl_take; exact rfl; exact rfl; exact rfl; refine bF ?_; (with_reducible assumption); refine wl_mv rfl rfl ?_; apply wl_take; exact rfl; exact rfl; exact rfl; refine bF ?_; (with_reducible assumption); refine wl_bin rfl rfl bin_neq rfl ?_; apply wl_val; apply opv_pickF; exact rfl; refine bF ?_; (with_reducible assumption); exact rfl; exact rfl; refine wl_mv rfl rfl ?_; apply wl_take; exact rfl; exact rfl; exact rfl; refine bF ?_; (with_reducible assumption); refine wl_mv rfl rfl ?_; apply wl_take; exact rfl; exact rfl; exact rfl; refine bF ?_; (with_reducible assumption); refine wl_bin rfl rfl bin_neq rfl ?_; apply wl_val; apply opv_pickF; exact rfl; refine bF ?_; (with_reducible assumption); exact rfl; exact rfl; refine wl_mv rfl rfl ?_; apply wl_take; exact rfl; exact rfl; exact rfl; refine bF ?_; (with_reducible assumption); refine wl_mv rfl rfl ?_; apply wl_take; exact rfl; exact rfl; exact rfl; refine bF ?_; (with_reducible assumption); refine wl_mv rfl rfl ?_; apply wl_take; exact rfl; exact rfl; exact rfl; refine bF ?_; (with_reducible assumption); refine wl_bin rfl rfl bin_neqS rfl ?_; apply wl_val; apply opv_pickF; exact rfl; refine bF ?_; (with_reducible assumption); exact rfl; exact rfl; refine wl_mv rfl rfl ?_; apply wl_take; exact rfl; exact rfl; exact rfl; refine bF ?_; (with_reducible exact nne); refine wl_mv rfl rfl ?_; apply wl_take; exact rfl; exact rfl; exact rfl; refine bF ?_; (with_reducible exact nne); refine wl_mv rfl rfl ?_; apply wl_take; exact rfl; exact rfl; exact rfl; refine bF ?_; (with_reducible exact nne); refine wl_bin rfl rfl bin_neq rfl ?_; apply wl_val; apply opv_pickF; exact rfl; refine bF ?_; (with_reducible exact nne); exact rfl; exact rfl; refine wl_mv rfl rfl ?_; apply wl_take; exact rfl; exact rfl; exact rfl; refine bF ?_; (with_reducible exact nne); refine wl_mv rfl rfl ?_; apply wl_take; exact rfl; exact rfl; exact rfl; refine bF ?_; (with_reducible exact nne)
  refine wl_val (opv_ofBytes Try.underlying24 Try.underlying5 Try.underlying9 rfl (hs.ow 0 rfl).rd) rfl ?_
  apply wl_take; exact rfl; exact rfl; exact rfl; refine bF ?_; (with_reducible exact nne); refine wl_mv rfl rfl ?_; apply wl_take; exact rfl; exact rfl; exact rfl; refine bF ?_; (with_reducible exact nne); refine wl_bin rfl rfl bin_neqS rfl ?_; apply wl_val; apply opv_pickF; exact rfl; refine bF ?_; (with_reducible exact nne); exact rfl; exact rfl; refine wl_mv rfl rfl ?_; apply wl_take; exact rfl; exact rfl; exact rfl; refine bF ?_; (with_reducible exact nne); refine wl_mv rfl rfl ?_; apply wl_take; exact rfl; exact rfl; exact rfl; refine bF ?_; (with_reducible exact nne); refine wl_mv rfl rfl ?_; apply wl_take; exact rfl; exact rfl; exact rfl; refine bF ?_; (with_reducible exact nne); apply wl_val; apply opv_len; exact rfl; exact tyB.sl; exact rfl; apply wl_take; exact rfl; exact rfl; exact rfl; refine bF ?_; (with_reducible exact nne); refine wl_bin rfl rfl bin_neq rfl ?_; apply wl_val; apply opv_pickF; exact rfl; refine bF ?_; (with_reducible exact nne); exact rfl; exact rfl; refine wl_ns ?_; apply wc_decF; exact rfl; (with_reducible exact nne); refine wc_skip ?_; refine we_seq ?_; refine wc_sr ?_; refine wl_mv rfl rfl ?_
  refine wl_call ok_text_Key (key_any (l := a) (by omega) _) ⟨rfl, trivial⟩ rfl ?_; rintro _ _ ⟨K1, k1, rfl, o_, hbx5⟩; replace hs := hs.newO hbx5 o_ (Nat.le_refl _); try dsimp only [List.cons_append, List.nil_append, setC, delC] at hs
  refine wl_mv rfl rfl ?_
  refine wl_call ok_text_Key (key_any (l := b) (by omega) _) ⟨rfl, trivial⟩ rfl ?_; rintro _ _ ⟨K2, k2, rfl, o_, hbx6⟩; replace hs := hs.newO hbx6 o_ (Nat.le_refl _); try dsimp only [List.cons_append, List.nil_append, setC, delC] at hs
  refine wl_call ok_codec_Cmp (cmp_any (xs := keyB a) (ys := keyB b) (hs.ow 1 rfl).rd (hs.ow 0 rfl).rd rfl rfl) ⟨rfl, rfl, trivial⟩ rfl ?_; rintro _ _ ⟨rfl, rfl⟩
  refine wl_as rfl rfl (wl_nil (we_seq ?_))
  replace hs := ((hs.drop 0 rfl).drop 0 rfl).drop 0 rfl
  dsimp only [delC] at hs
  have hkz := key_zero (a := a) (b := b)
  have hkr := cmp_range (keyB a) (keyB b)
  have hkc := keys_cmp (a := a) (b := b) hx hy
  have hkq : ∀ u v : List UInt8, keyB u = keyB v ↔ u = v := fun u v => ⟨key_inj, fun h => by rw [h]⟩
  refine wc_seq ?_
  refine wc_cutE (fun L' w' => ∃ t : Int, L' = [(0, str a), (1, str b), (9, .slice I1 (keys a b x).length j1), (10, .slice I2 (keys b a y).length j2), (18, .int .i64 t)] ∧ (t = cmpB (keys a b x) (keys b a y)) ∧ (t = 0 → a = b) ∧ St NoB w w' [.ow 5 I2 (keys b a y).length j2 (bvs (keys b a y)), .ow 5 I1 (keys a b x).length j1 (bvs (keys a b x))]) ?_ ?_
  · rw [hkc]
    by_cases hab : a = b
    · rw [if_pos hab]
      have hz := hkz.2 hab
      rw [hz]
      by_cases hxy : x = y
      · rw [if_pos hxy]
        have hxy' : ¬ x ≠ y := fun h => h hxy
        refine wc_sr ?_; refine wl_mv rfl rfl ?_; refine wl_bin rfl rfl bin_eql rfl ?_; refine wl_mv rfl rfl ?_; apply wl_take; exact rfl; exact rfl; exact rfl; refine bT ?_; (with_reducible rfl); refine wl_mv rfl rfl ?_; apply wl_take; exact rfl; exact rfl; exact rfl; refine bT ?_; (with_reducible rfl); refine wl_mv rfl rfl ?_; apply wl_take; exact rfl; exact rfl; exact rfl; refine bT ?_; (with_reducible rfl); refine wl_bin rfl rfl bin_neq rfl ?_; apply wl_val; apply opv_pickT; exact rfl; refine bT ?_; (with_reducible rfl); exact rfl; exact rfl; refine wl_ns ?_; apply wc_decF; exact rfl; (with_reducible assumption); refine wc_skip ?_
        exact we_cut _ ⟨0, rfl, rfl, fun _ => hab, hs⟩ ⟨rfl, rfl, rfl, rfl, rfl, trivial⟩
      · rw [if_neg hxy]
        by_cases hlt : x < y
        · rw [if_pos hlt]
          refine wc_sr ?_; refine wl_mv rfl rfl ?_; refine wl_bin rfl rfl bin_eql rfl ?_; refine wl_mv rfl rfl ?_; apply wl_take; exact rfl; exact rfl; exact rfl; refine bT ?_; (with_reducible rfl); refine wl_mv rfl rfl ?_; apply wl_take; exact rfl; exact rfl; exact rfl; refine bT ?_; (with_reducible rfl); refine wl_mv rfl rfl ?_; apply wl_take; exact rfl; exact rfl; exact rfl; refine bT ?_; (with_reducible rfl); refine wl_bin rfl rfl bin_neq rfl ?_; apply wl_val; apply opv_pickT; exact rfl; refine bT ?_; (with_reducible rfl); exact rfl; exact rfl; refine wl_ns ?_; apply wc_decT; exact rfl; (with_reducible assumption); refine wc_sr ?_; refine wl_as rfl rfl ?_; refine wl_ns ?_; refine wc_sr ?_; refine wl_mv rfl rfl ?_; refine wl_mv rfl rfl ?_; refine wl_bin rfl rfl bin_lss rfl ?_; refine wl_ns ?_; apply wc_decT; exact rfl; (with_reducible assumption); refine wc_region ?_; refine wl_as rfl rfl ?_; refine wl_nil ?_
          exact we_cut _ ⟨-1, rfl, rfl, fun h => by omega, hs⟩ ⟨rfl, rfl, rfl, rfl, rfl, trivial⟩
        · rw [if_neg hlt]
          refine wc_sr ?_; refine wl_mv rfl rfl ?_; refine wl_bin rfl rfl bin_eql rfl ?_; refine wl_mv rfl rfl ?_; apply wl_take; exact rfl; exact rfl; exact rfl; refine bT ?_; (with_reducible rfl); refine wl_mv rfl rfl ?_; apply wl_take; exact rfl; exact rfl; exact rfl; refine bT ?_; (with_reducible rfl); refine wl_mv rfl rfl ?_; apply wl_take; exact rfl; exact rfl; exact rfl; refine bT ?_; (with_reducible rfl); refine wl_bin rfl rfl bin_neq rfl ?_; apply wl_val; apply opv_pickT; exact rfl; refine bT ?_; (with_reducible rfl); exact rfl; exact rfl; refine wl_ns ?_; apply wc_decT; exact rfl; (with_reducible assumption); refine wc_sr ?_; refine wl_as rfl rfl ?_; refine wl_ns ?_; refine wc_sr ?_; refine wl_mv rfl rfl ?_; refine wl_mv rfl rfl ?_; refine wl_bin rfl rfl bin_lss rfl ?_; refine wl_ns ?_; apply wc_decF; exact rfl; (with_reducible assumption); refine wc_skip ?_
          exact we_cut _ ⟨1, rfl, rfl, fun h => by omega, hs⟩ ⟨rfl, rfl, rfl, rfl, rfl, trivial⟩
    · rw [if_neg hab]
      have hnz : ¬ cmpB (keyB a) (keyB b) = 0 := fun h => hab (hkz.1 h)
      refine wc_sr ?_; refine wl_mv rfl rfl ?_; refine wl_bin rfl rfl bin_eql rfl ?_; refine wl_mv rfl rfl ?_; apply wl_skip; exact rfl; exact rfl; exact rfl; refine bFn ?_; (with_reducible assumption); exact rfl; apply wl_skip; exact rfl; exact rfl; exact rfl; refine bFn ?_; (with_reducible assumption); exact rfl; apply wl_skip; exact rfl; exact rfl; exact rfl; refine bFn ?_; (with_reducible assumption); exact rfl; apply wl_val; apply opv_pickF; exact rfl; refine bF ?_; (with_reducible assumption); exact rfl; exact rfl; refine wl_ns ?_; apply wc_condFb; exact rfl; exact rfl; refine wc_skip ?_
      exact we_cut _ ⟨_, rfl, rfl, fun h => absurd h hnz, hs⟩ ⟨rfl, rfl, rfl, rfl, rfl, trivial⟩
  clear hs
  rintro _ w5 ⟨t, rfl, ht, ht0, hs⟩
  refine we_seq (wc_seq ?_)
  refine wc_cutE (fun L' w' => L' = [(0, str a), (1, str b), (9, .slice I1 (keys a b x).length j1), (10, .slice I2 (keys b a y).length j2), (18, .int .i64 t)] ∧ St NoB w w' [.ow 5 I2 (keys b a y).length j2 (bvs (keys b a y)), .ow 5 I1 (keys a b x).length j1 (bvs (keys a b x))]) ?_ ?_
  · by_cases hz : t = 0
    · have hab := ht0 hz
      refine wc_sr ?_; refine wl_mv rfl rfl ?_; refine wl_bin rfl rfl bin_eql rfl ?_; refine wl_ns ?_; apply wc_decT; exact rfl; (with_reducible assumption); refine wc_region ?_; refine wl_mv rfl rfl ?_
      refine wl_toBytes Try.underlying9 Try.underlying24 Try.underlying5 rfl rfl fun F g v rF _ hbx => ?_
      replace hs := hs.below hbx
      refine wl_mv rfl rfl ?_
      refine wl_toBytes Try.underlying9 Try.underlying24 Try.underlying5 rfl rfl fun F2 g2 v2 rF2 _ hbx2 => ?_
      replace hs := hs.below hbx2
      refine wl_call ok_caissonref01_Cmp (refCmp_any (rF.below hbx2) rF2 rfl rfl (by omega) (by omega)) ⟨rfl, rfl, trivial⟩ rfl ?_; rintro _ _ ⟨rfl, hbx3⟩; replace hs := hs.below hbx3; try dsimp only [List.cons_append, List.nil_append, setC, delC] at hs
      refine wl_as rfl rfl ?_; refine wl_nil ?_
      exact we_cut _ ⟨rfl, hs⟩ ⟨rfl, rfl, rfl, rfl, by rw [hz, hab, cmp_refl]; rfl, trivial⟩
    · refine wc_sr ?_; refine wl_mv rfl rfl ?_; refine wl_bin rfl rfl bin_eql rfl ?_; refine wl_ns ?_; apply wc_decF; exact rfl; (with_reducible assumption); refine wc_skip ?_
      exact we_cut _ ⟨rfl, hs⟩ ⟨rfl, rfl, rfl, rfl, rfl, trivial⟩
  clear hs
  rintro _ w6 ⟨rfl, hs⟩
  refine we_seq ?_; refine wc_sr ?_; refine wl_mv rfl rfl ?_; refine wl_mv rfl rfl ?_
  refine wl_call ok_codec_Cmp (cmp_any (xs := keys a b x) (ys := keys b a y) (hs.ow 1 rfl).rd (hs.ow 0 rfl).rd rfl rfl) ⟨rfl, rfl, trivial⟩ rfl ?_; rintro _ _ ⟨rfl, rfl⟩
  rw [← ht]
  refine wl_mv rfl rfl ?_; refine wl_bin rfl rfl bin_eql rfl ?_; refine wl_mv rfl rfl ?_; apply wl_take; exact rfl; exact rfl; exact rfl; refine bT ?_; (with_reducible rfl); refine wl_mv rfl rfl ?_; apply wl_take; exact rfl; exact rfl; exact rfl; refine bT ?_; (with_reducible rfl); refine wl_mv rfl rfl ?_; apply wl_take; exact rfl; exact rfl; exact rfl; refine bT ?_; (with_reducible rfl); refine wl_bin rfl rfl bin_eqlS rfl ?_; apply wl_take; exact rfl; exact rfl; exact rfl; refine bT ?_; (with_reducible rfl); refine wl_mv rfl rfl ?_; apply wl_take; exact rfl; exact rfl; exact rfl; refine bT ?_; (with_reducible rfl)
  refine wl_call ok_text_Key (key_any (l := a) (by omega) _) ⟨rfl, trivial⟩ rfl ?_; rintro _ _ ⟨K3, k3, rfl, o_, hbx7⟩; replace hs := hs.newO hbx7 o_ (Nat.le_refl _); try dsimp only [List.cons_append, List.nil_append, setC, delC] at hs
  apply wl_take; exact rfl; exact rfl; exact rfl; refine bT ?_; (with_reducible rfl); refine wl_mv rfl rfl ?_; apply wl_take; exact rfl; exact rfl; exact rfl; refine bT ?_; (with_reducible rfl)
  refine wl_call ok_text_Key (key_any (l := b) (by omega) _) ⟨rfl, trivial⟩ rfl ?_; rintro _ _ ⟨K4, k4, rfl, o_, hbx8⟩; replace hs := hs.newO hbx8 o_ (Nat.le_refl _); try dsimp only [List.cons_append, List.nil_append, setC, delC] at hs
  apply wl_take; exact rfl; exact rfl; exact rfl; refine bT ?_; (with_reducible rfl)
  refine wl_call ok_caissonref01_Equal (equal_any (xs := keyB a) (ys := keyB b) (hs.ow 1 rfl).rd (hs.ow 0 rfl).rd rfl rfl (by omega)) ⟨rfl, rfl, trivial⟩ rfl ?_; rintro _ _ ⟨rfl, hbx9⟩; replace hs := hs.below hbx9; try dsimp only [List.cons_append, List.nil_append, setC, delC] at hs
  have hfin : decide (decide (a = b) = decide (keyB a = keyB b)) = true := by simp [hkq]
  apply wl_take; exact rfl; exact rfl; exact rfl; refine bT ?_; (with_reducible rfl); apply wl_val; apply opv_bin; exact rfl; exact rfl; exact bin_eqlB tyBool; exact rfl; apply wl_val; apply opv_pickT; exact rfl; refine bT ?_; (with_reducible rfl); exact rfl; exact rfl; refine wl_as rfl rfl ?_; refine wl_ns ?_; refine wc_ret ?_
  exact we_ret1 rfl rfl ⟨_, rfl, by rw [hfin], hs.bel⟩
end Go.Proofs.Ytpnckagibkdcpaa
