
/-
  How often words stand: each key once; what is left of the counts; the walk over the law TextWords.
-/
import Derived.Test.YtcjiecclmepboaaTz
import Derived.Test.YtcjiecclmepboaaFq
namespace Go.Proofs.Ytcjiecclmepboaa
open Go.RowKit

def Keyed (S : List CE) : Prop := (S.map (·.1)).Nodup
theorem keys_addV (k : List UInt8) (n c : Nat) : ∀ S : List CE, (k ∈ S.map (·.1) ∧ (addV k n S c).map (·.1) = S.map (·.1)) ∨ (k ∉ S.map (·.1) ∧ (addV k n S c).map (·.1) = S.map (·.1) ++ [k])
  | [] => .inr ⟨by simp, rfl⟩
  | x :: S => by
    simp only [addV]
    by_cases h : k = x.1
    · rw [if_pos h]; left; exact ⟨by simp [h], by simp [h]⟩
    · rw [if_neg h]
      rcases keys_addV k n c S with ⟨h1, h2⟩ | ⟨h1, h2⟩
      · left; exact ⟨by rw [List.map_cons]; exact List.mem_cons_of_mem _ h1, by rw [List.map_cons, List.map_cons, h2]⟩
      · right; exact ⟨by rw [List.map_cons, List.mem_cons]; exact fun h' => h'.elim h h1, by rw [List.map_cons, List.map_cons, h2]; rfl⟩
theorem Keyed.add {S : List CE} (h : Keyed S) (k : List UInt8) : Keyed (addW S k) := by
  unfold Keyed at h ⊢
  unfold addW
  rcases keys_addV k (getW k S + 1) S.length S with ⟨_, h2⟩ | ⟨h1, h2⟩
  · rw [h2]; exact h
  · rw [h2, List.nodup_append]
    exact ⟨h, by simp, fun a ha b hb hab => h1 (by simp at hb; rw [← hb, ← hab]; exact ha)⟩
theorem cnt_keyed : ∀ (ws : List (List UInt8)) {S : List CE}, Keyed S → Keyed (cntW S ws)
  | [], S, h => h
  | k :: ws, S, h => by rw [cntW, List.foldl_cons]; exact cnt_keyed ws (h.add k)
theorem get_mem {y : CE} : ∀ {S : List CE}, Keyed S → y ∈ S → getW y.1 S = y.2.1
  | [], _, h => by simp at h
  | x :: S, hk, h => by
    unfold Keyed at hk
    rw [List.map_cons, List.nodup_cons] at hk
    simp only [getW]
    rcases List.mem_cons.1 h with rfl | h'
    · rw [if_pos rfl]
    · have hne : ¬ y.1 = x.1 := fun he => hk.1 (he ▸ List.mem_map_of_mem h')
      rw [if_neg hne]; exact get_mem hk.2 h'
def leftW (S : List CE) (seen : List Nat) : List CE := S.filter fun x => !seen.contains x.2.2
theorem left_toM (S : List CE) (seen : List Nat) : left (S.map toM) seen = (leftW S seen).map toM := by
  unfold left leftW; rw [List.filter_map]; rfl
theorem leftW_other {S : List CE} {seen : List Nat} {s : Nat} (h : s ∉ S.map (·.2.2)) : leftW S (seen ++ [s]) = leftW S seen := by
  unfold leftW
  apply List.filter_congr
  intro x hx
  have : ¬ x.2.2 = s := fun he => h (he ▸ List.mem_map_of_mem (f := (·.2.2)) hx)
  simp [this]
theorem leftW_take {y : CE} {seen : List Nat} : ∀ {S : List CE}, (S.map (·.2.2)).Nodup → y ∈ leftW S seen → totalW (leftW S (seen ++ [y.2.2])) + y.2.1 = totalW (leftW S seen) ∧ (leftW S (seen ++ [y.2.2])).length + 1 = (leftW S seen).length
  | [], _, h => by simp [leftW] at h
  | x :: S, hn, h => by
    rw [List.map_cons, List.nodup_cons] at hn
    by_cases hs : x.2.2 ∈ seen
    · have e1 : leftW (x :: S) seen = leftW S seen := by simp [leftW, hs]
      have e2 : leftW (x :: S) (seen ++ [y.2.2]) = leftW S (seen ++ [y.2.2]) := by simp [leftW, hs]
      rw [e1] at h ⊢; rw [e2]; exact leftW_take hn.2 h
    · have e1 : leftW (x :: S) seen = x :: leftW S seen := by simp [leftW, hs]
      rw [e1] at h ⊢
      rcases List.mem_cons.1 h with rfl | h'
      · have e2 : leftW (y :: S) (seen ++ [y.2.2]) = leftW S seen := by
          rw [← leftW_other (seen := seen) hn.1]; simp [leftW]
        rw [e2]; simp [totalW]; omega
      · have hne : ¬ x.2.2 = y.2.2 := fun he => hn.1 (he ▸ List.mem_map_of_mem (f := (·.2.2)) (List.mem_filter.1 h').1)
        have e2 : leftW (x :: S) (seen ++ [y.2.2]) = x :: leftW S (seen ++ [y.2.2]) := by simp [leftW, hs, hne]
        have ih := leftW_take hn.2 h'
        rw [e2]; simp [totalW] at ih ⊢; omega
theorem leftW_nil (S : List CE) : leftW S [] = S := by simp [leftW]
theorem stmp_nodup {S : List CE} (h : Stmp S) : (S.map (·.2.2)).Nodup := by rw [h]; exact List.nodup_range
theorem stmp_lt {S : List CE} (h : Stmp S) {y : ME} (hy : y ∈ S.map toM) : y.2.2 < S.length := by
  obtain ⟨z, hz, rfl⟩ := List.mem_map.1 hy
  have : z.2.2 ∈ S.map (·.2.2) := List.mem_map_of_mem (f := (·.2.2)) hz
  rw [h] at this; exact List.mem_range.1 this
theorem toM_nodup {S : List CE} (h : Stmp S) : ((S.map toM).map fun x => x.2.2).Nodup := by
  rw [List.map_map]; exact stmp_nodup h
set_option maxHeartbeats 1000000 in
set_option maxRecDepth 10000 in
theorem textWords_walk {w : World} {A : Option Addr} {n c : Nat} {L : List (List UInt8)} (r0 : Rd w A n (L.map str)) (hn : L.length = n) (hl : L.flatten.length + L.length ≤ 1048576) :
    CallsV Try.prog 6 #[.slice A n c] w (RetTr w) := by
  subst hn
  refine calls_in (N := _) Try.func6 rfl Try.ntmps6 rfl ?_; show WC _ _ _ _ _ _
  refine wc_sr ?_; refine wl_as rfl rfl ?_; refine wl_ns ?_; refine wc_seq ?_; refine wc_sr ?_
  refine wl_call ok_caissonlaw02_awake (awake2_any w) trivial rfl ?_
  rintro _ wa ⟨rfl, hba⟩
  apply wl_val; apply opv_not; exact rfl; exact rfl; refine wl_ns ?_; apply wc_condFb; exact rfl; exact Bool.not_true; refine wc_skip ?_; refine we_seq ?_; refine wc_sr ?_
  refine wl_mkMap rfl fun b w1 hb0 m1 hb1 => ?_
  have hbB := hba.trans (hb1.mono hba.size)
  have hbw : w.heap.size ≤ b := Nat.le_trans hba.size hb0
  refine wl_as rfl rfl ?_; refine wl_ns ?_; refine wc_sr ?_; refine wl_as rfl rfl ?_; refine wl_ns ?_; refine wc_seq ?_; refine wc_sr ?_; refine wl_mv rfl rfl ?_; apply wl_val; apply opv_len; exact rfl; exact tyS.sl; exact rfl; refine wl_mv rfl rfl ?_; refine wl_ns ?_; refine wc_block ?_
  refine wc_loop (fun L' wr m => ∃ i : Nat, L' = [(3, .map (some b)), (4, iv (totalW (allW (L.take i)))), (0, .slice A L.length c), (16, .slice A L.length c), (17, .int .i64 (L.length : Int)), (18, .int .i64 (i : Int))] ∧ i ≤ L.length ∧ Mp wr b ((allW (L.take i)).map toM) (allW (L.take i)).length ∧ Below w.heap.size w wr ∧ m = L.length - i)
    [(3, .map (some b)), (4, iv 0), (0, .slice A L.length c), (16, .slice A L.length c), (17, .int .i64 (L.length : Int)), (18, .int .i64 (0 : Nat))] L.length ⟨0, rfl, by omega, m1, hbB, rfl⟩ ⟨rfl, rfl, rfl, rfl, rfl, rfl, trivial⟩ ?_
  rintro _ w2 m ⟨i, rfl, hi, m2, hb2, rfl⟩
  have r2 := r0.below hb2
  refine wc_sr ?_; refine wl_bin rfl rfl bin_lss rfl ?_; refine wl_ns ?_; refine wc_seq ?_
  refine wc_cond rfl (fun h1 => ?_) (fun h1 => ?_)
  · obtain ⟨s, hs⟩ : ∃ s, L[i]? = some s := ⟨_, List.getElem?_eq_getElem (by omega)⟩
    have hsi : (L.map str)[i]? = some (str s) := by rw [List.getElem?_map, hs]; rfl
    have hsl := mem_flat' hs
    have hat := all_total L i
    have hwl := words_len s
    refine wc_skip ?_; refine we_seq ?_; refine wc_seq ?_; refine wc_block ?_; refine wc_sr ?_; apply wl_elK (T := tyS) (hr := r2) (hb := hsi); exact rfl; exact rfl; exact rfl; exact rfl; exact rfl; intro _; refine wl_as rfl rfl ?_; refine wl_ns ?_; refine wc_sr ?_; refine wl_mv rfl rfl ?_
    refine wl_call ok_text_Words (words_any (l := s) (by omega) _) ⟨rfl, trivial⟩ rfl ?_
    rintro _ w3 ⟨B, d, rfl, o3, hb3⟩
    have m3 := m2.bel hb3
    have hb23 := hb2.trans (hb3.mono hb2.size)
    have r3 := o3.rd
    have hbB : b < w2.heap.size := m2.lt
    refine wl_mv rfl rfl ?_
    refine wl_call ok_caissonref02_Words (refWords_any (l := s) (by omega) _) ⟨rfl, trivial⟩ rfl ?_
    rintro _ w4 ⟨C, e, rfl, o4, hb4⟩
    replace r3 := r3.below hb4
    have m4 := m3.bel hb4
    have hb24 := hb23.trans (hb4.mono hb23.size)
    have r4 := o4.rd
    have h34 : w2.heap.size ≤ w3.heap.size := hb3.size
    refine wl_as rfl rfl ?_; refine wl_as rfl rfl ?_; refine wl_ns ?_; refine wc_seq ?_; refine wc_sr ?_; refine wl_mv rfl rfl ?_; apply wl_val; apply opv_len; exact rfl; exact tyS.sl; exact rfl; refine wl_mv rfl rfl ?_; apply wl_val; apply opv_len; exact rfl; exact tyS.sl; exact rfl; refine wl_bin rfl rfl bin_neq rfl ?_; refine wl_ns ?_; apply wc_decF; exact rfl; (with_reducible exact nne); refine wc_skip ?_; refine we_seq ?_; refine wc_sr ?_; refine wl_mv rfl rfl ?_; apply wl_val; apply opv_len; exact rfl; exact tyS.sl; exact rfl; refine wl_mv rfl rfl ?_; refine wl_ns ?_; refine wc_block ?_
    refine wc_loop (fun L' wr m => ∃ j : Nat, L' = [(3, .map (some b)), (4, iv (totalW (cntW (allW (L.take i)) ((wordsB s).take j)))), (0, .slice A L.length c), (16, .slice A L.length c), (17, .int .i64 (L.length : Int)), (18, .int .i64 (i : Int)), (7, .slice B (wordsB s).length d), (8, .slice C (wordsB s).length e), (32, .int .i64 ((wordsB s).length : Int)), (33, .int .i64 (j : Int))] ∧ j ≤ (wordsB s).length ∧ Mp wr b ((cntW (allW (L.take i)) ((wordsB s).take j)).map toM) (cntW (allW (L.take i)) ((wordsB s).take j)).length ∧ Rd wr B (wordsB s).length ((wordsB s).map str) ∧ Rd wr C (wordsB s).length ((wordsB s).map str) ∧ Below w.heap.size w wr ∧ m = (wordsB s).length - j)
      [(3, .map (some b)), (4, iv (totalW (allW (L.take i)))), (0, .slice A L.length c), (16, .slice A L.length c), (17, .int .i64 (L.length : Int)), (18, .int .i64 (i : Int)), (7, .slice B (wordsB s).length d), (8, .slice C (wordsB s).length e), (32, .int .i64 ((wordsB s).length : Int)), (33, .int .i64 (0 : Nat))] (wordsB s).length ⟨0, rfl, by omega, m4, r3, r4, hb24, rfl⟩ ⟨rfl, rfl, rfl, rfl, rfl, rfl, rfl, rfl, rfl, rfl, trivial⟩ ?_
    clear m2 m3 m4 hb2 hb23 hb24 r3 r4
    rintro _ w5 m ⟨j, rfl, hj, m2, r3, r4, hb2, rfl⟩
    refine wc_sr ?_; refine wl_bin rfl rfl bin_lss rfl ?_; refine wl_ns ?_; refine wc_seq ?_
    refine wc_cond rfl (fun h2 => ?_) (fun h2 => ?_)
    · obtain ⟨x, hx⟩ : ∃ x, (wordsB s)[j]? = some x := ⟨_, List.getElem?_eq_getElem (by omega)⟩
      have hxi : ((wordsB s).map str)[j]? = some (str x) := by rw [List.getElem?_map, hx]; rfl
      have hsn := cnt_snoc (S := allW (L.take i)) hx
      have hto := cnt_total ((wordsB s).take j) (allW (L.take i))
      have htl : ((wordsB s).take j).length ≤ j := List.length_take_le _ _
      obtain ⟨S, hS⟩ : ∃ S, cntW (allW (L.take i)) ((wordsB s).take j) = S := ⟨_, rfl⟩
      rw [hS] at m2 hsn hto ⊢
      have hgl := get_le x S
      have hmg := mget_cnt x S
      have hmp := mput_cnt x S
      have hta := total_addW S x
      rw [hsn] at hta
      refine wc_skip ?_; refine we_seq ?_; refine wc_seq ?_; refine wc_block ?_; refine wc_sr ?_; refine wl_mv rfl rfl ?_; refine wl_as rfl rfl ?_; refine wl_ns ?_; refine wc_seq ?_; refine wc_seq ?_
      refine wc_drawB mixed (by kernel_rfl) ?_
      apply wq_val; intro _ _; apply opv_move; exact rfl; exact rfl; apply wq_val; intro _ _; apply opv_move; exact rfl; exact rfl; apply wq_elK (T := tyS) (hr := r3) (hb := hxi); exact rfl; exact rfl; exact rfl; exact rfl; exact rfl; intro _; apply wq_val; intro _ _; apply opv_move; exact rfl; exact rfl; apply wq_val; intro _ _; apply opv_move; exact rfl; exact rfl; apply wq_elK (T := tyS) (hr := r4) (hb := hxi); exact rfl; exact rfl; exact rfl; exact rfl; exact rfl; intro _; apply wq_val; intro _ _; apply opv_bin; exact rfl; exact rfl; exact bin_neqS; exact rfl; refine wq_nil fun w1 hw1 => ?_
      replace m2 := m2.bel hw1
      replace r3 := r3.below hw1
      replace hb2 := hb2.trans (hw1.mono hb2.size)
      replace r4 := r4.below hw1
      clear hw1
      refine we_seq ?_; apply wc_decF; exact rfl; (with_reducible exact nne); refine wc_skip ?_; refine we_seq ?_; refine wc_sr ?_; refine wl_mv rfl rfl ?_; refine wl_mv rfl rfl ?_; refine wl_mv rfl rfl ?_
      apply wl_elK (T := tyS) (hr := r3) (hb := hxi); exact rfl; exact rfl; exact rfl; exact rfl; exact rfl; intro _
      refine wl_val (opv_lookup (k := x) mapTy tyStr zInt rfl rfl m2) rfl ?_
      rw [hmg]
      refine wl_bin rfl rfl (bin_addN (a := getW x S) (b := 1) (by omega)) rfl ?_
      refine wl_mput (k := x) (v := iv (getW x S + 1)) mapTy tyStr rfl rfl rfl m2 fun w5 m5 g5 _ => ?_
      rw [hmp] at m5
      rw [hsn] at m5
      have hb5 := g5.belowI hb2 hbw hb2.size
      have r5 : Rd w5 B (wordsB s).length ((wordsB s).map str) := Rd.gr r3 g5 fun a q ha hq => by
        cases hq
        have := (Ow.lt o3 a ha).1
        exact (show a.block ≠ b by omega)
      have r6 : Rd w5 C (wordsB s).length ((wordsB s).map str) := Rd.gr r4 g5 fun a q ha hq => by
        cases hq
        have := (Ow.lt o4 a ha).1
        exact (show a.block ≠ b by omega)
      refine wl_ns ?_; refine wc_region ?_; refine wl_mv rfl rfl ?_; apply wl_val; apply opv_bin; exact rfl; exact rfl; exact bin_add64 (by omega); exact rfl; refine wl_as rfl rfl ?_; refine wl_nil ?_; refine we_block_norm ?_; refine we_seq ?_; refine wc_region ?_; apply wl_val; apply opv_bin; exact rfl; exact rfl; exact bin_add64 (by omega); exact rfl; refine wl_mv rfl rfl ?_; refine wl_nil ?_
      refine we_loop [(3, .map (some b)), (4, iv (totalW (cntW (allW (L.take i)) ((wordsB s).take (j + 1))))), (0, .slice A L.length c), (16, .slice A L.length c), (17, .int .i64 (L.length : Int)), (18, .int .i64 (i : Int)), (7, .slice B (wordsB s).length d), (8, .slice C (wordsB s).length e), (32, .int .i64 ((wordsB s).length : Int)), (33, .int .i64 ((j + 1 : Nat) : Int))] ((wordsB s).length - (j + 1)) ⟨j + 1, rfl, by omega, m5, r5, r6, hb5, rfl⟩ (by omega) ⟨rfl, by rw [hta]; rfl, rfl, rfl, rfl, rfl, rfl, rfl, rfl, by simp [lookT], trivial⟩
    · obtain rfl : j = (wordsB s).length := by omega
      rw [List.take_of_length_le (Nat.le_refl _), allW_snoc hs] at m2 ⊢
      refine wc_exit ?_; refine we_seq_exit ?_; refine we_loop_exit ?_; refine we_block_exit ?_; refine we_block_norm ?_; refine we_seq ?_; refine wc_region ?_; apply wl_val; apply opv_bin; exact rfl; exact rfl; exact bin_add64 (by omega); exact rfl; refine wl_mv rfl rfl ?_; refine wl_nil ?_
      refine we_loop [(3, .map (some b)), (4, iv (totalW (allW (L.take (i + 1))))), (0, .slice A L.length c), (16, .slice A L.length c), (17, .int .i64 (L.length : Int)), (18, .int .i64 ((i + 1 : Nat) : Int))] (L.length - (i + 1)) ⟨i + 1, rfl, by omega, m2, hb2, rfl⟩ (by omega) ⟨rfl, rfl, rfl, rfl, rfl, by simp [lookT], trivial⟩
  · obtain rfl : i = L.length := by omega
    rw [List.take_of_length_le (Nat.le_refl _)] at m2
    obtain ⟨S, hS⟩ : ∃ S, allW L = S := ⟨_, rfl⟩
    have hst : Stmp S := hS ▸ cnt_stmp (L.flatMap wordsB) (show Stmp [] from rfl)
    have hky : Keyed S := hS ▸ cnt_keyed (L.flatMap wordsB) (show Keyed [] from List.nodup_nil)
    have hat := all_total L L.length
    rw [List.take_of_length_le (Nat.le_refl _), hS] at hat ⊢
    rw [hS] at m2
    refine wc_exit ?_; refine we_seq_exit ?_; refine we_loop_exit ?_; refine we_block_exit ?_; refine we_seq ?_; refine wc_sr ?_; refine wl_mv rfl rfl ?_
    refine wl_call ok_text_Count (count_any r2 rfl hl) ⟨rfl, trivial⟩ rfl ?_
    rintro _ w3 ⟨g, rfl, m3, hg, hb3⟩
    rw [hS] at m3
    have m4 := m2.bel hb3
    have hb4 := hb2.trans (hb3.mono hb2.size)
    have hgb : ¬ g = b := by have := m2.lt; omega
    refine wl_as rfl rfl ?_; refine wl_ns ?_; refine wc_seq ?_; refine wc_sr ?_; refine wl_mv rfl rfl ?_
    refine wl_val (opv_lenM mapTy rfl m3) rfl ?_
    refine wl_mv rfl rfl ?_
    refine wl_val (opv_lenM mapTy rfl m4) rfl ?_
    refine wl_bin rfl rfl bin_neq rfl ?_; refine wl_ns ?_; apply wc_decF; exact rfl; (with_reducible exact nne); refine wc_skip ?_; refine we_seq ?_; refine wc_seq ?_; refine wc_sr ?_; refine wl_mv rfl rfl ?_
    refine wl_rangeM mapTy rfl m4 rfl fun r w4 hr0 mi hb5 => ?_
    replace hb4 := hb4.trans (hb5.mono hb4.size)
    have n3 := m3.bel hb5
    have n4 := m4.bel hb5
    have hgr : g < w3.heap.size := m3.lt
    have hbr : b < w3.heap.size := m4.lt
    have hrw : w.heap.size ≤ r := by have := m4.lt; omega
    refine wl_ns ?_; refine wc_block ?_
    refine wc_loop (fun L' wr m => ∃ (seen : List Nat) (la : Nat), L' = [(4, iv (totalW (leftW S seen))), (10, .map (some g)), (64, .pointer (some ⟨r, 0, none⟩))] ∧ MI wr r b S.length seen la ∧ S.length ≤ la ∧ totalW (leftW S seen) ≤ totalW S ∧ Mp wr b (S.map toM) S.length ∧ Mp wr g (S.map toM) S.length ∧ Below w.heap.size w wr ∧ m = (leftW S seen).length)
      [(4, iv (totalW S)), (10, .map (some g)), (64, .pointer (some ⟨r, 0, none⟩))] S.length ⟨[], S.length, by rw [leftW_nil], mi, Nat.le_refl _, by rw [leftW_nil]; exact Nat.le_refl _, n4, n3, hb4, by rw [leftW_nil]⟩ ⟨rfl, rfl, rfl, trivial⟩ ?_
    rintro _ w5 m ⟨seen, la, rfl, mi, hla, hle, m4, m3, hb4, rfl⟩
    refine wc_sr ?_
    refine wl_nextM rfl mi m4 (fun y hy => stmp_lt hst hy) hla rfl (fun he => ?_) (fun y w6 hy mi g6 _ => ?_)
    · rw [left_toM] at he
      have he' : leftW S seen = [] := List.map_eq_nil_iff.1 he
      rw [he']
      rw [show iv (totalW ([] : List CE)) = .int .i64 ((0 : Nat) : Int) from rfl]
      apply wl_val; apply opv_extract; exact rfl; exact rfl; exact rfl; refine wl_ns ?_; refine wc_seq ?_; apply wc_condFb; exact rfl; exact rfl; refine wc_exit ?_; refine we_seq_exit ?_; refine we_loop_exit ?_; refine we_block_exit ?_; refine we_seq ?_; refine wc_sr ?_; refine wl_mv rfl rfl ?_; refine wl_bin rfl rfl bin_eql rfl ?_; refine wl_as rfl rfl ?_; refine wl_ns ?_; refine wc_ret ?_
      exact we_ret1 rfl rfl ⟨_, rfl, rfl, hb4⟩
    · obtain ⟨z, hz, rfl⟩ : ∃ z, z ∈ leftW S seen ∧ toM z = y := by
        rw [left_toM] at hy
        exact List.mem_map.1 hy
      have hlt := leftW_take (stmp_nodup hst) hz
      have hget := get_mem hky (List.mem_filter.1 hz).1
      have hmg := mget_cnt z.1 S
      rw [hget] at hmg
      replace m4 := m4.gr g6 (fun a ha => by cases ha; exact (show r ≠ b by omega))
      replace m3 := m3.gr g6 (fun a ha => by cases ha; exact (show r ≠ g by omega))
      replace hb4 := g6.belowI hb4 hrw hb4.size
      apply wl_val; apply opv_extract; exact rfl; exact rfl; exact rfl; refine wl_ns ?_; refine wc_seq ?_; apply wc_condTb; exact rfl; exact rfl; refine wc_skip ?_; refine we_seq ?_; refine wc_block ?_; refine wc_sr ?_
      refine wl_val (opv_entry rfl mi m4 (List.mem_map_of_mem (List.mem_filter.1 hz).1) (toM_nodup hst)) rfl ?_
      apply wl_val; apply opv_extract; exact rfl; exact rfl; exact rfl; apply wl_val; apply opv_extract; exact rfl; exact rfl; exact rfl; refine wl_as rfl rfl ?_; refine wl_as rfl rfl ?_; refine wl_ns ?_; refine wc_seq ?_; refine wc_sr ?_; refine wl_mv rfl rfl ?_; refine wl_mv rfl rfl ?_
      refine wl_val (opv_lookup (k := z.1) mapTy tyStr zInt rfl rfl m3) rfl ?_
      rw [hmg]
      rw [show (toM z).2.1 = .int .i64 ((z.2.1 : Nat) : Int) from rfl, show iv z.2.1 = .int .i64 ((z.2.1 : Nat) : Int) from rfl, show iv (totalW (leftW S seen)) = .int .i64 ((totalW (leftW S seen) : Nat) : Int) from rfl]
      refine wl_mv rfl rfl ?_; refine wl_bin rfl rfl bin_neq rfl ?_; refine wl_ns ?_; apply wc_decF; exact rfl; (with_reducible exact nne); refine wc_skip ?_; refine we_seq ?_; refine wc_region ?_; refine wl_mv rfl rfl ?_; refine wl_mv rfl rfl ?_; apply wl_val; apply opv_bin; exact rfl; exact rfl; exact bin_sub64 (by omega); exact rfl; refine wl_as rfl rfl ?_; refine wl_nil ?_; refine we_block_norm ?_
      refine we_loop [(4, iv (totalW (leftW S (seen ++ [z.2.2])))), (10, .map (some g)), (64, .pointer (some ⟨r, 0, none⟩))] (leftW S (seen ++ [z.2.2])).length ⟨seen ++ [z.2.2], S.length, rfl, mi, Nat.le_refl _, by omega, m4, m3, hb4, rfl⟩ (by omega) ⟨?_, rfl, rfl, trivial⟩
      have e : ((totalW (leftW S seen) : Nat) : Int) - (z.2.1 : Int) = ((totalW (leftW S (seen ++ [z.2.2])) : Nat) : Int) := by omega
      rw [e]; rfl
end Go.Proofs.Ytcjiecclmepboaa
