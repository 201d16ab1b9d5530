
/-
  How often words stand: the plain law of counting, and the walk over Count.
-/
import Derived.Test.YtcjiecclmepboaaTx
namespace Go.Proofs.Ytcjiecclmepboaa
open Go.RowKit

/-- A word, how often it stood, its stamp. -/
abbrev CE := List UInt8 × Nat × Nat
def toM (x : CE) : ME := (x.1, iv x.2.1, x.2.2)
def getW (k : List UInt8) : List CE → Nat
  | [] => 0
  | x :: S => if k = x.1 then x.2.1 else getW k S
def addV (k : List UInt8) (n : Nat) : List CE → Nat → List CE
  | [], c => [(k, n, c)]
  | x :: S, c => if k = x.1 then (k, n, x.2.2) :: S else x :: addV k n S c
def addW (S : List CE) (k : List UInt8) : List CE := addV k (getW k S + 1) S S.length
def totalW (S : List CE) : Nat := (S.map (·.2.1)).sum
def Stmp (S : List CE) : Prop := S.map (·.2.2) = List.range S.length
theorem fnd_none_iff (k : List UInt8) : ∀ (S : List CE) (j : Nat), (fnd k (S.map toM) j = none → getW k S = 0) ∧ (∀ p, fnd k (S.map toM) j = some p → p.2 = iv (getW k S))
  | [], j => by simp [fnd, getW]
  | x :: S, j => by
    have ih := fnd_none_iff k S (j + 1)
    simp only [List.map_cons, fnd, getW]
    by_cases h : k = x.1
    · simp [h, toM]
    · have h' : ¬ k = (toM x).1 := h
      rw [if_neg h', if_neg h]; exact ih
theorem mget_cnt (k : List UInt8) (S : List CE) : (mget (S.map toM) k).getD (iv 0) = iv (getW k S) := by
  have h := fnd_none_iff k S 0
  unfold mget
  cases hf : fnd k (S.map toM) 0 with
  | none => rw [h.1 hf]; rfl
  | some p => simp [h.2 p hf]
theorem addV_put (k : List UInt8) (n c : Nat) : ∀ (S : List CE) (j : Nat),
    (match fnd k (S.map toM) j with | some (i, _) => (S.map toM).modify (i - j) (fun e => (k, iv n, e.2.2)) | none => S.map toM ++ [(k, iv n, c)]) = (addV k n S c).map toM ∧
    (match fnd k (S.map toM) j with | some _ => S.length | none => S.length + 1) = (addV k n S c).length
  | [], j => by simp [fnd, addV, toM]
  | x :: S, j => by
    have ih := addV_put k n c S (j + 1)
    simp only [List.map_cons, fnd, addV]
    by_cases h : k = x.1
    · have h' : k = (toM x).1 := h
      rw [if_pos h', if_pos h]
      simp [toM]
    · have h' : ¬ k = (toM x).1 := h
      rw [if_neg h', if_neg h]
      cases hf : fnd k (S.map toM) (j + 1) with
      | none => rw [hf] at ih; simp only at ih ⊢; exact ⟨by simp [← ih.1], by simp [← ih.2]⟩
      | some p =>
        obtain ⟨i, v⟩ := p
        have hle := (fnd_get _ _ _ _ hf).1
        rw [hf] at ih
        simp only at ih ⊢
        refine ⟨?_, by simp [← ih.2]⟩
        rw [show i - j = (i - (j + 1)) + 1 by omega, List.modify_succ_cons, ih.1]
        rfl
theorem mput_cnt (k : List UInt8) (S : List CE) : mput (S.map toM) S.length k (iv (getW k S + 1)) = ((addW S k).map toM, (addW S k).length) := by
  have h := addV_put k (getW k S + 1) S.length S 0
  unfold mput
  unfold addW
  cases hf : fnd k (S.map toM) 0 with
  | none => rw [hf] at h; simp only at h ⊢; exact Prod.ext h.1 h.2
  | some p => obtain ⟨i, v⟩ := p; rw [hf] at h; simp only [Nat.sub_zero] at h ⊢; exact Prod.ext h.1 h.2
theorem total_addV (k : List UInt8) (c : Nat) : ∀ S : List CE, totalW (addV k (getW k S + 1) S c) = totalW S + 1
  | [] => by simp [addV, getW, totalW]
  | x :: S => by
    have ih := total_addV k c S
    simp only [addV, getW]
    by_cases h : k = x.1
    · rw [if_pos h, if_pos h]; simp [totalW]; omega
    · rw [if_neg h, if_neg h]; simp [totalW] at ih ⊢; omega
theorem total_addW (S : List CE) (k : List UInt8) : totalW (addW S k) = totalW S + 1 := total_addV k _ S
theorem get_le (k : List UInt8) : ∀ S : List CE, getW k S ≤ totalW S
  | [] => by simp [getW]
  | x :: S => by
    have ih := get_le k S
    simp only [getW]
    split
    · simp [totalW]
    · simp [totalW] at ih ⊢; omega
theorem stmp_addV (k : List UInt8) (n c : Nat) : ∀ S : List CE, ((addV k n S c).map (·.2.2) = S.map (·.2.2) ∧ (addV k n S c).length = S.length) ∨ ((addV k n S c).map (·.2.2) = S.map (·.2.2) ++ [c] ∧ (addV k n S c).length = S.length + 1)
  | [] => .inr ⟨rfl, rfl⟩
  | x :: S => by
    simp only [addV]
    by_cases h : k = x.1
    · rw [if_pos h]; left; exact ⟨rfl, rfl⟩
    · rw [if_neg h]
      rcases stmp_addV k n c S with ⟨h1, h2⟩ | ⟨h1, h2⟩
      · left; simp [h1, h2]
      · right; simp [h1, h2]
theorem Stmp.add {S : List CE} (h : Stmp S) (k : List UInt8) : Stmp (addW S k) := by
  unfold Stmp at h ⊢
  unfold addW
  rcases stmp_addV k (getW k S + 1) S.length S with ⟨h1, h2⟩ | ⟨h1, h2⟩
  · rw [h1, h2, h]
  · rw [h1, h2, h, List.range_succ]
def cntW (S : List CE) (ws : List (List UInt8)) : List CE := ws.foldl addW S
theorem cnt_total : ∀ (ws : List (List UInt8)) (S : List CE), totalW (cntW S ws) = totalW S + ws.length
  | [], S => rfl
  | k :: ws, S => by rw [cntW, List.foldl_cons]; have := cnt_total ws (addW S k); rw [cntW] at this; rw [this, total_addW]; simp; omega
theorem cnt_stmp : ∀ (ws : List (List UInt8)) {S : List CE}, Stmp S → Stmp (cntW S ws)
  | [], S, h => h
  | k :: ws, S, h => by rw [cntW, List.foldl_cons]; exact cnt_stmp ws (h.add k)
theorem cnt_snoc {S : List CE} {ws : List (List UInt8)} {j : Nat} {x : List UInt8} (h : ws[j]? = some x) : addW (cntW S (ws.take j)) x = cntW S (ws.take (j + 1)) := by
  rw [take_snoc' h, cntW, cntW, List.foldl_append]; rfl
def allW (L : List (List UInt8)) : List CE := cntW [] (L.flatMap wordsB)
theorem allW_snoc {L : List (List UInt8)} {i : Nat} {s : List UInt8} (h : L[i]? = some s) : cntW (allW (L.take i)) (wordsB s) = allW (L.take (i + 1)) := by
  rw [allW, allW, take_snoc' h, List.flatMap_append, cntW, cntW, cntW, List.foldl_append]; simp
theorem words_len (l : List UInt8) : (wordsB l).length ≤ l.length + 1 := by
  have := wrd_length (rs l) []
  have := rs_length l
  rw [wordsB]; omega
theorem flat_len : ∀ (L : List (List UInt8)) (i : Nat), ((L.take i).flatMap wordsB).length ≤ L.flatten.length + L.length
  | [], i => by simp
  | x :: L, 0 => by simp
  | x :: L, i + 1 => by
    have := flat_len L i
    have := words_len x
    simp only [List.take_succ_cons, List.flatMap_cons, List.length_append, List.flatten_cons, List.length_cons]; omega
theorem all_total (L : List (List UInt8)) (i : Nat) : totalW (allW (L.take i)) ≤ L.flatten.length + L.length := by
  rw [allW, cnt_total]; have := flat_len L i; rw [show totalW ([] : List CE) = 0 from rfl, Nat.zero_add]; exact this
theorem mapTy : Try.prog.underlying 42 = some (.map 9 3) := Try.underlying42
theorem zInt : (Try.prog.info? 3).map (·.zero) = some (some (iv 0)) := by kernel_rfl
theorem mem_flat' {L : List (List UInt8)} {i : Nat} {s : List UInt8} (h : L[i]? = some s) : s.length ≤ L.flatten.length := by
  induction L generalizing i with
  | nil => simp at h
  | cons x L ih =>
    cases i with
    | zero => simp at h; subst h; simp
    | succ i => have := ih (by simpa using h); rw [List.flatten_cons, List.length_append]; omega
set_option maxHeartbeats 1000000 in
theorem count_any {A : Option Addr} {n c : Nat} {L : List (List UInt8)} {w : World} (r1 : Rd w A n (L.map str)) (hn : L.length = n) (hl : L.flatten.length + L.length ≤ 1048576) :
    CallsV Try.prog 30 #[.slice A n c] w fun v w' => ∃ b, v = .map (some b) ∧ Mp w' b ((allW L).map toM) (allW L).length ∧ w.heap.size ≤ b ∧ Below w.heap.size w w' := by
  subst hn
  refine calls_in (N := _) Try.func30 rfl Try.ntmps30 rfl ?_; show WC _ _ _ _ _ _
  refine wc_sr ?_; refine wl_as rfl rfl ?_; refine wl_ns ?_; refine wc_sr ?_
  refine wl_mkMap rfl fun b w1 hb0 m1 hb1 => ?_
  refine wl_as rfl rfl ?_; refine wl_ns ?_; refine wc_seq ?_; refine wc_sr ?_; refine wl_mv rfl rfl ?_; apply wl_val; apply opv_len; exact rfl; exact tyS.sl; exact rfl; refine wl_mv rfl rfl ?_; refine wl_ns ?_; refine wc_block ?_
  refine wc_loop (fun L' wr m => ∃ i : Nat, L' = [(3, .map (some b)), (9, .slice A L.length c), (10, .int .i64 (L.length : Int)), (11, .int .i64 (i : Int))] ∧ i ≤ L.length ∧ Mp wr b ((allW (L.take i)).map toM) (allW (L.take i)).length ∧ Below w.heap.size w wr ∧ m = L.length - i)
    [(3, .map (some b)), (9, .slice A L.length c), (10, .int .i64 (L.length : Int)), (11, .int .i64 (0 : Nat))] L.length ⟨0, rfl, by omega, m1, hb1, rfl⟩ ⟨rfl, rfl, rfl, rfl, trivial⟩ ?_
  rintro _ w2 m ⟨i, rfl, hi, m2, hb2, rfl⟩
  refine wc_sr ?_; refine wl_bin rfl rfl bin_lss rfl ?_; refine wl_ns ?_; refine wc_seq ?_
  refine wc_cond rfl (fun h1 => ?_) (fun h1 => ?_)
  · obtain ⟨s, hs⟩ : ∃ s, L[i]? = some s := ⟨_, List.getElem?_eq_getElem (by omega)⟩
    have hsi : (L.map str)[i]? = some (str s) := by rw [List.getElem?_map, hs]; rfl
    have hsl := mem_flat' hs
    have r2 := r1.below hb2
    have hat := all_total L i
    have hwl := words_len s
    refine wc_skip ?_; refine we_seq ?_; refine wc_seq ?_; refine wc_block ?_; refine wc_sr ?_; apply wl_elK (T := tyS) (hr := r2) (hb := hsi); exact rfl; exact rfl; exact rfl; exact rfl; exact rfl; intro _; refine wl_as rfl rfl ?_; refine wl_ns ?_; refine wc_sr ?_; refine wl_mv rfl rfl ?_
    refine wl_call ok_text_Words (words_any (l := s) (by omega) _) ⟨rfl, trivial⟩ rfl ?_
    rintro _ w3 ⟨B, d, rfl, o3, hb3⟩
    have m3 := m2.bel hb3
    have hb23 := hb2.trans (hb3.mono hb2.size)
    have r3 := o3.rd
    have hbB : b < w2.heap.size := m2.lt
    apply wl_val; apply opv_len; exact rfl; exact tyS.sl; exact rfl; refine wl_mv rfl rfl ?_; refine wl_ns ?_; refine wc_block ?_
    refine wc_loop (fun L' wr m => ∃ j : Nat, L' = [(3, .map (some b)), (9, .slice A L.length c), (10, .int .i64 (L.length : Int)), (11, .int .i64 (i : Int)), (16, .slice B (wordsB s).length d), (17, .int .i64 ((wordsB s).length : Int)), (18, .int .i64 (j : Int))] ∧ j ≤ (wordsB s).length ∧ Mp wr b ((cntW (allW (L.take i)) ((wordsB s).take j)).map toM) (cntW (allW (L.take i)) ((wordsB s).take j)).length ∧ Rd wr B (wordsB s).length ((wordsB s).map str) ∧ Below w.heap.size w wr ∧ m = (wordsB s).length - j)
      [(3, .map (some b)), (9, .slice A L.length c), (10, .int .i64 (L.length : Int)), (11, .int .i64 (i : Int)), (16, .slice B (wordsB s).length d), (17, .int .i64 ((wordsB s).length : Int)), (18, .int .i64 (0 : Nat))] (wordsB s).length ⟨0, rfl, by omega, m3, r3, hb23, rfl⟩ ⟨rfl, rfl, rfl, rfl, rfl, rfl, rfl, trivial⟩ ?_
    rintro _ w4 m ⟨j, rfl, hj, m4, r4, hb4, rfl⟩
    refine wc_sr ?_; refine wl_bin rfl rfl bin_lss rfl ?_; refine wl_ns ?_; refine wc_seq ?_
    refine wc_cond rfl (fun h2 => ?_) (fun h2 => ?_)
    · obtain ⟨x, hx⟩ : ∃ x, (wordsB s)[j]? = some x := ⟨_, List.getElem?_eq_getElem (by omega)⟩
      have hxi : ((wordsB s).map str)[j]? = some (str x) := by rw [List.getElem?_map, hx]; rfl
      have hsn := cnt_snoc (S := allW (L.take i)) hx
      have hto := cnt_total ((wordsB s).take j) (allW (L.take i))
      have htl : ((wordsB s).take j).length ≤ j := List.length_take_le _ _
      obtain ⟨S, hS⟩ : ∃ S, cntW (allW (L.take i)) ((wordsB s).take j) = S := ⟨_, rfl⟩
      rw [hS] at m4 hsn hto
      have hgl := get_le x S
      have hmg := mget_cnt x S
      have hmp := mput_cnt x S
      refine wc_skip ?_; refine we_seq ?_; refine wc_seq ?_; refine wc_block ?_; refine wc_sr ?_; apply wl_elK (T := tyS) (hr := r4) (hb := hxi); exact rfl; exact rfl; exact rfl; exact rfl; exact rfl; intro _; refine wl_as rfl rfl ?_; refine wl_ns ?_; refine wc_region ?_; refine wl_mv rfl rfl ?_; refine wl_mv rfl rfl ?_
      refine wl_val (opv_lookup (k := x) mapTy tyStr zInt rfl rfl m4) rfl ?_
      rw [hmg]
      refine wl_bin rfl rfl (bin_addN (a := getW x S) (b := 1) (by omega)) rfl ?_
      refine wl_mput (k := x) (v := iv (getW x S + 1)) mapTy tyStr rfl rfl rfl m4 fun w5 m5 g5 _ => ?_
      rw [hmp] at m5
      rw [hsn] at m5
      have hb5 := g5.belowI hb4 hb0 hb4.size
      have r5 : Rd w5 B (wordsB s).length ((wordsB s).map str) := Rd.gr r4 g5 fun a q ha hq => by
        cases hq
        have := (Ow.lt o3 a ha).1
        exact (show a.block ≠ b by omega)
      refine wl_nil ?_; refine we_block_norm ?_; refine we_seq ?_; refine wc_region ?_; apply wl_val; apply opv_bin; exact rfl; exact rfl; exact bin_add64 (by omega); exact rfl; refine wl_mv rfl rfl ?_; refine wl_nil ?_
      refine we_loop [(3, .map (some b)), (9, .slice A L.length c), (10, .int .i64 (L.length : Int)), (11, .int .i64 (i : Int)), (16, .slice B (wordsB s).length d), (17, .int .i64 ((wordsB s).length : Int)), (18, .int .i64 ((j + 1 : Nat) : Int))] ((wordsB s).length - (j + 1)) ⟨j + 1, rfl, by omega, m5, r5, hb5, rfl⟩ (by omega) ⟨rfl, rfl, rfl, rfl, rfl, rfl, by simp [lookT], trivial⟩
    · obtain rfl : j = (wordsB s).length := by omega
      rw [List.take_of_length_le (Nat.le_refl _), allW_snoc hs] at m4
      refine wc_exit ?_; refine we_seq_exit ?_; refine we_loop_exit ?_; refine we_block_exit ?_; refine we_block_norm ?_; refine we_seq ?_; refine wc_region ?_; apply wl_val; apply opv_bin; exact rfl; exact rfl; exact bin_add64 (by omega); exact rfl; refine wl_mv rfl rfl ?_; refine wl_nil ?_
      refine we_loop [(3, .map (some b)), (9, .slice A L.length c), (10, .int .i64 (L.length : Int)), (11, .int .i64 ((i + 1 : Nat) : Int))] (L.length - (i + 1)) ⟨i + 1, rfl, by omega, m4, hb4, rfl⟩ (by omega) ⟨rfl, rfl, rfl, by simp [lookT], trivial⟩
  · obtain rfl : i = L.length := by omega
    rw [List.take_of_length_le (Nat.le_refl _)] at m2
    refine wc_exit ?_; refine we_seq_exit ?_; refine we_loop_exit ?_; refine we_block_exit ?_; refine we_seq ?_; refine wc_sr ?_; refine wl_mv rfl rfl ?_; refine wl_as rfl rfl ?_; refine wl_ns ?_; refine wc_ret ?_
    exact we_ret1 rfl rfl ⟨_, rfl, b, rfl, m2, hb0, hb2⟩
end Go.Proofs.Ytcjiecclmepboaa
