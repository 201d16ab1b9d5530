
/-
  Plain laws of UTF-8: the runes of a list of bytes, and runes written as bytes. No program in sight.
-/
import Derived.Lib.DecodeN
import Derived.Lib.RuneBytes
import Derived.Lib.Hide
namespace Go.Proofs.Ytcjiecclmepboaa

def nth (l : List UInt8) (k : Nat) : Nat := (l.getD k 0).toNat
theorem nth_lt (l : List UInt8) (k : Nat) : nth l k < 256 := UInt8.toNat_lt _
theorem nth_get {l : List UInt8} {k : Nat} {b : UInt8} (h : l[k]? = some b) : nth l k = b.toNat := by simp [nth, h]
theorem nth_drop (l : List UInt8) (i k : Nat) : nth (l.drop i) k = nth l (i + k) := by simp [nth, List.getElem?_drop]
/-- The first rune of bytes, and its width. -/
def dec (l : List UInt8) : Nat × Nat := Lib.decodeN l.length (nth l 0) (nth l 1) (nth l 2) (nth l 3)
theorem get!_list (l : List UInt8) (i : Nat) : ((⟨l.toArray⟩ : ByteArray).get! i).toNat = nth l i := by
  show ((l.toArray)[i]!).toNat = _
  simp [nth, List.getElem!_eq_getElem?_getD]; rfl
theorem decode_list (l : List UInt8) (i : Nat) : Utf8.decode ⟨l.toArray⟩ i = dec (l.drop i) := by
  rw [Lib.decode_at]
  simp only [get!_list, dec, nth_drop, List.length_drop, Nat.add_zero]
  rfl
/-- A rune that can be written. -/
def Val (c : Nat) : Prop := c < 55296 ∨ (57344 ≤ c ∧ c ≤ 1114111)
theorem dec_width {l : List UInt8} (h : l ≠ []) : 1 ≤ (dec l).2 ∧ (dec l).2 ≤ l.length ∧ (dec l).2 ≤ 4 := by
  have hl : 0 < l.length := List.length_pos_iff.2 h
  unfold dec Lib.decodeN
  repeat' split
  all_goals (dsimp only; omega)
theorem dec_val (l : List UInt8) : Val (dec l).1 := by
  have h0 := nth_lt l 0
  have h1 := nth_lt l 1
  unfold dec Lib.decodeN Val
  repeat' split
  all_goals (dsimp only; omega)
/-- All runes, each with its width. -/
def rwF : Nat → List UInt8 → List (Nat × Nat)
  | 0, _ => []
  | f + 1, l => if l.length = 0 then [] else dec l :: rwF f (l.drop (dec l).2)
def rw (l : List UInt8) : List (Nat × Nat) := rwF l.length l
def rs (l : List UInt8) : List Nat := (rw l).map (·.1)
theorem rwF_eq : ∀ (f : Nat) (l : List UInt8), l.length ≤ f → rwF f l = rw l := by
  have key : ∀ (f g : Nat) (l : List UInt8), l.length ≤ f → l.length ≤ g → rwF f l = rwF g l := by
    intro f
    induction f with
    | zero =>
      intro g l h1 h2
      cases g with
      | zero => rfl
      | succ g => simp only [rwF]; rw [if_pos (by omega)]
    | succ f ih =>
      intro g l h1 h2
      cases g with
      | zero => simp only [rwF]; rw [if_pos (by omega)]
      | succ g =>
        simp only [rwF]
        by_cases h0 : l.length = 0
        · rw [if_pos h0, if_pos h0]
        · rw [if_neg h0, if_neg h0]
          have hw := dec_width (l := l) (by intro h; rw [h] at h0; exact h0 rfl)
          rw [ih g (l.drop (dec l).2) (by simp; omega) (by simp; omega)]
  exact fun f l h => key f l.length l h (Nat.le_refl _)
theorem rw_nil : rw [] = [] := rfl
theorem rw_cons {l : List UInt8} (h : l ≠ []) : rw l = dec l :: rw (l.drop (dec l).2) := by
  have hl : 0 < l.length := List.length_pos_iff.2 h
  have hw := dec_width h
  conv => lhs; rw [rw, show l.length = (l.length - 1) + 1 by omega]
  simp only [rwF]
  rw [if_neg (by omega), rwF_eq _ _ (by simp; omega)]
theorem rs_nil : rs [] = [] := rfl
theorem rs_cons {l : List UInt8} (h : l ≠ []) : rs l = (dec l).1 :: rs (l.drop (dec l).2) := by rw [rs, rw_cons h]; rfl
theorem rw_len : ∀ (n : Nat) (l : List UInt8), l.length ≤ n → (rw l).length ≤ l.length
  | 0, l, h => by have : l = [] := List.eq_nil_of_length_eq_zero (by omega); subst this; simp [rw_nil]
  | n + 1, l, h => by
    by_cases h0 : l = []
    · subst h0; simp [rw_nil]
    · rw [rw_cons h0]
      have hw := dec_width h0
      have := rw_len n (l.drop (dec l).2) (by simp; omega)
      simp at this ⊢; omega
theorem rs_length (l : List UInt8) : (rs l).length ≤ l.length := by rw [rs, List.length_map]; exact rw_len _ l (Nat.le_refl _)
theorem rs_val : ∀ (n : Nat) (l : List UInt8), l.length ≤ n → ∀ c ∈ rs l, Val c
  | 0, l, h => by have : l = [] := List.eq_nil_of_length_eq_zero (by omega); subst this; simp [rs_nil]
  | n + 1, l, h => by
    by_cases h0 : l = []
    · subst h0; simp [rs_nil]
    · rw [rs_cons h0]
      have hw := dec_width h0
      intro c hc
      rcases List.mem_cons.1 hc with rfl | hc
      · exact dec_val l
      · exact rs_val n _ (by simp; omega) c hc
theorem drop_ne {l : List UInt8} {p : Nat} (h : p < l.length) : l.drop p ≠ [] := by
  intro h0; have := congrArg List.length h0; simp at this; omega
theorem dec_at {l : List UInt8} {p : Nat} (h : p < l.length) : 1 ≤ (dec (l.drop p)).2 ∧ p + (dec (l.drop p)).2 ≤ l.length ∧ (dec (l.drop p)).2 ≤ 4 := by
  have := dec_width (drop_ne h)
  rw [List.length_drop] at this; omega
theorem rw_step {l : List UInt8} {p : Nat} (h : p < l.length) : rw (l.drop p) = dec (l.drop p) :: rw (l.drop (p + (dec (l.drop p)).2)) := by
  rw [rw_cons (drop_ne h), List.drop_drop]
theorem rs_step {l : List UInt8} {p : Nat} (h : p < l.length) : rs (l.drop p) = (dec (l.drop p)).1 :: rs (l.drop (p + (dec (l.drop p)).2)) := by
  rw [rs, rw_step h]; rfl
theorem rw_end {l : List UInt8} {p : Nat} (h : ¬ p < l.length) : rw (l.drop p) = [] := by rw [List.drop_of_length_le (by omega)]; rfl
theorem rs_end {l : List UInt8} {p : Nat} (h : ¬ p < l.length) : rs (l.drop p) = [] := by rw [rs, rw_end h]; rfl
theorem dec_le (l : List UInt8) : (dec l).1 ≤ 1114111 := by have := dec_val l; unfold Val at this; omega
/-- The places at which runes begin. -/
def starts : Nat → List (Nat × Nat) → List Nat
  | _, [] => []
  | p, x :: r => p :: starts (p + x.2) r
def places (l : List UInt8) : List Nat := starts 0 (rw l)
theorem starts_length : ∀ (r : List (Nat × Nat)) (p : Nat), (starts p r).length = r.length
  | [], _ => rfl
  | x :: r, p => by simp [starts, starts_length r]
theorem places_length (l : List UInt8) : (places l).length = (rs l).length := by rw [places, starts_length, rs, List.length_map]
/-- The bytes of a rune. -/
def enc (c : Nat) : List UInt8 := Lib.encodeRune (c : Int)
theorem enc_one {c : Nat} (h : c ≤ 127) : enc c = [UInt8.ofNat c] := by
  rw [enc, Lib.encodeRune, Lib.encodeRuneZ_one (by omega) (by omega)]; simp
theorem enc_two {c : Nat} (h : 128 ≤ c) (h2 : c ≤ 2047) : enc c = [UInt8.ofNat (192 + c / 64), UInt8.ofNat (128 + c % 64)] := by
  rw [enc, Lib.encodeRune, Lib.encodeRuneZ_two (by omega) (by omega)]
  have e1 : ((192 : Int) + (c : Int) / 64).toNat = 192 + c / 64 := by omega
  have e2 : ((128 : Int) + (c : Int) % 64).toNat = 128 + c % 64 := by omega
  simp [e1, e2]
theorem enc_three {c : Nat} (h : (2048 ≤ c ∧ c < 55296) ∨ (57343 < c ∧ c ≤ 65535)) : enc c = [UInt8.ofNat (224 + c / 4096), UInt8.ofNat (128 + c / 64 % 64), UInt8.ofNat (128 + c % 64)] := by
  rw [enc, Lib.encodeRune, Lib.encodeRuneZ_three (by omega)]
  have e1 : ((224 : Int) + (c : Int) / 4096).toNat = 224 + c / 4096 := by omega
  have e2 : ((128 : Int) + (c : Int) / 64 % 64).toNat = 128 + c / 64 % 64 := by omega
  have e3 : ((128 : Int) + (c : Int) % 64).toNat = 128 + c % 64 := by omega
  simp [e1, e2, e3]
theorem enc_four {c : Nat} (h : 65536 ≤ c) (h2 : c ≤ 1114111) : enc c = [UInt8.ofNat (240 + c / 262144), UInt8.ofNat (128 + c / 4096 % 64), UInt8.ofNat (128 + c / 64 % 64), UInt8.ofNat (128 + c % 64)] := by
  rw [enc, Lib.encodeRune, Lib.encodeRuneZ_four (by omega) (by omega)]
  have e1 : ((240 : Int) + (c : Int) / 262144).toNat = 240 + c / 262144 := by omega
  have e2 : ((128 : Int) + (c : Int) / 4096 % 64).toNat = 128 + c / 4096 % 64 := by omega
  have e3 : ((128 : Int) + (c : Int) / 64 % 64).toNat = 128 + c / 64 % 64 := by omega
  have e4 : ((128 : Int) + (c : Int) % 64).toNat = 128 + c % 64 := by omega
  simp [e1, e2, e3, e4]
theorem val_cases {c : Nat} (h : Val c) : c ≤ 127 ∨ (128 ≤ c ∧ c ≤ 2047) ∨ ((2048 ≤ c ∧ c < 55296) ∨ (57343 < c ∧ c ≤ 65535)) ∨ (65536 ≤ c ∧ c ≤ 1114111) := by unfold Val at h; omega
theorem enc_length (c : Nat) : 1 ≤ (enc c).length ∧ (enc c).length ≤ 4 := by
  have := Lib.encodeRuneZ_length (c : Int); simpa [enc, Lib.encodeRune] using this
theorem toNat_of {n : Nat} (h : n < 256) : (UInt8.ofNat n).toNat = n := by rw [UInt8.toNat_ofNat', Nat.mod_eq_of_lt h]
theorem dec_enc {c : Nat} (h : Val c) (r : List UInt8) : dec (enc c ++ r) = (c, (enc c).length) := by
  rcases val_cases h with h1 | ⟨h1, h2⟩ | h1 | ⟨h1, h2⟩
  · rw [enc_one h1]
    simp only [dec, nth, List.cons_append, List.getD_cons_zero]
    rw [toNat_of (by omega), Lib.decodeN, if_pos (by omega)]; rfl
  · rw [enc_two h1 h2]
    simp only [dec, nth, List.cons_append, List.nil_append, List.getD_cons_zero, List.getD_cons_succ, List.length_cons]
    rw [toNat_of (by omega), toNat_of (by omega), Lib.decodeN, if_neg (by omega), if_pos (by omega), if_pos (by omega)]
    apply Prod.ext <;> simp <;> omega
  · rw [enc_three h1]
    simp only [dec, nth, List.cons_append, List.nil_append, List.getD_cons_zero, List.getD_cons_succ, List.length_cons]
    rw [toNat_of (by omega), toNat_of (by omega), toNat_of (by omega), Lib.decodeN, if_neg (by omega), if_neg (by omega), if_pos (by omega), if_pos (by omega)]
    apply Prod.ext <;> simp <;> omega
  · rw [enc_four h1 h2]
    simp only [dec, nth, List.cons_append, List.nil_append, List.getD_cons_zero, List.getD_cons_succ, List.length_cons]
    rw [toNat_of (by omega), toNat_of (by omega), toNat_of (by omega), toNat_of (by omega), Lib.decodeN, if_neg (by omega), if_neg (by omega), if_neg (by omega), if_pos (by omega), if_pos (by omega)]
    apply Prod.ext <;> simp <;> omega
/-- Bytes that begin with a rune in form. -/
def Ok (l : List UInt8) : Prop := ¬ (dec l).2 = 1 ∨ ¬ (dec l).1 = 65533
instance (l : List UInt8) : Decidable (Ok l) := by unfold Ok; infer_instance
theorem take1 {l : List UInt8} (h : 0 < l.length) : l.take 1 = [UInt8.ofNat (nth l 0)] := by
  match l, h with
  | a :: l, _ => simp [nth]
theorem take2 {l : List UInt8} (h : 1 < l.length) : l.take 2 = [UInt8.ofNat (nth l 0), UInt8.ofNat (nth l 1)] := by
  match l, h with
  | a :: b :: l, _ => simp [nth]
theorem take3 {l : List UInt8} (h : 2 < l.length) : l.take 3 = [UInt8.ofNat (nth l 0), UInt8.ofNat (nth l 1), UInt8.ofNat (nth l 2)] := by
  match l, h with
  | a :: b :: c :: l, _ => simp [nth]
theorem take4 {l : List UInt8} (h : 3 < l.length) : l.take 4 = [UInt8.ofNat (nth l 0), UInt8.ofNat (nth l 1), UInt8.ofNat (nth l 2), UInt8.ofNat (nth l 3)] := by
  match l, h with
  | a :: b :: c :: d :: l, _ => simp [nth]
theorem enc_dec {l : List UInt8} (h : l ≠ []) (ho : Ok l) : enc (dec l).1 = l.take (dec l).2 := by
  have hl : 0 < l.length := List.length_pos_iff.2 h
  have h0 := nth_lt l 0
  have h1 := nth_lt l 1
  have h2 := nth_lt l 2
  have h3 := nth_lt l 3
  unfold Ok at ho
  unfold dec Lib.decodeN at ho ⊢
  split
  · rename_i c; rw [take1 hl, enc_one (by omega)]
  rename_i c1
  rw [if_neg c1] at ho
  split
  · rename_i c2
    rw [if_pos c2] at ho
    split
    · rename_i c3
      rw [take2 c2.2.1, enc_two c3 (by omega)]
      congr 2 <;> (try congr 1) <;> omega
    · rename_i c3; rw [if_neg c3] at ho; simp at ho
  rename_i c2
  rw [if_neg c2] at ho
  split
  · rename_i c3
    rw [if_pos c3] at ho
    split
    · rename_i c4
      rw [take3 c3.2.2.1, enc_three (by omega)]
      dsimp only
      rw [show 224 + (nth l 0 % 16 * 4096 + nth l 1 % 64 * 64 + nth l 2 % 64) / 4096 = nth l 0 by omega, show 128 + (nth l 0 % 16 * 4096 + nth l 1 % 64 * 64 + nth l 2 % 64) / 64 % 64 = nth l 1 by omega, show 128 + (nth l 0 % 16 * 4096 + nth l 1 % 64 * 64 + nth l 2 % 64) % 64 = nth l 2 by omega]
    · rename_i c4; rw [if_neg c4] at ho; simp at ho
  rename_i c3
  rw [if_neg c3] at ho
  split
  · rename_i c4
    rw [if_pos c4] at ho
    split
    · rename_i c5
      rw [take4 c4.2.2.2.1, enc_four (by omega) (by omega)]
      dsimp only
      rw [show 240 + (nth l 0 % 8 * 262144 + nth l 1 % 64 * 4096 + nth l 2 % 64 * 64 + nth l 3 % 64) / 262144 = nth l 0 by omega, show 128 + (nth l 0 % 8 * 262144 + nth l 1 % 64 * 4096 + nth l 2 % 64 * 64 + nth l 3 % 64) / 4096 % 64 = nth l 1 by omega, show 128 + (nth l 0 % 8 * 262144 + nth l 1 % 64 * 4096 + nth l 2 % 64 * 64 + nth l 3 % 64) / 64 % 64 = nth l 2 by omega, show 128 + (nth l 0 % 8 * 262144 + nth l 1 % 64 * 4096 + nth l 2 % 64 * 64 + nth l 3 % 64) % 64 = nth l 3 by omega]
    · rename_i c5; rw [if_neg c5] at ho; simp at ho
  rename_i c4
  rw [if_neg c4] at ho
  simp at ho
/-- Runes written behind one another. -/
def encs (cs : List Nat) : List UInt8 := cs.flatMap enc
theorem encs_cons (c : Nat) (cs : List Nat) : encs (c :: cs) = enc c ++ encs cs := rfl
theorem encs_append (a b : List Nat) : encs (a ++ b) = encs a ++ encs b := by simp [encs]
theorem encs_length (cs : List Nat) : (encs cs).length ≤ 4 * cs.length := by
  induction cs with
  | nil => simp [encs]
  | cons c cs ih => rw [encs_cons]; have := enc_length c; simp; omega
theorem rw_encs : ∀ (cs : List Nat), (∀ c ∈ cs, Val c) → rw (encs cs) = cs.map fun c => (c, (enc c).length)
  | [], _ => rfl
  | c :: cs, h => by
    have hne : encs (c :: cs) ≠ [] := by
      intro h0
      have h1 := congrArg List.length h0
      rw [encs_cons, List.length_append, List.length_nil] at h1
      have := enc_length c
      omega
    rw [rw_cons hne, encs_cons, dec_enc (h c (by simp)) (encs cs), List.drop_left, rw_encs cs fun d hd => h d (by simp [hd])]
    rfl
theorem rs_encs {cs : List Nat} (h : ∀ c ∈ cs, Val c) : rs (encs cs) = cs := by
  rw [rs, rw_encs cs h, List.map_map]; simp [Function.comp_def]
theorem rs_all (l : List UInt8) : ∀ c ∈ rs l, Val c := rs_val _ l (Nat.le_refl _)
/-- A rune, folded. -/
def lowN (c : Nat) : Nat := if c = 215 ∨ c = 930 then c else if (65 ≤ c ∧ c ≤ 90) ∨ (192 ≤ c ∧ c ≤ 222) ∨ (913 ≤ c ∧ c ≤ 937) ∨ (1040 ≤ c ∧ c ≤ 1071) then c + 32 else c
theorem lowN_low (c : Nat) : lowN (lowN c) = lowN c := by unfold lowN; repeat' split
                                                          all_goals omega
theorem lowN_val {c : Nat} (h : Val c) : Val (lowN c) := by unfold lowN; unfold Val at h ⊢; repeat' split
                                                            all_goals omega
def foldB (l : List UInt8) : List UInt8 := encs ((rs l).map lowN)
theorem rs_fold (l : List UInt8) : rs (foldB l) = (rs l).map lowN := rs_encs fun c hc => by
  obtain ⟨d, hd, rfl⟩ := List.mem_map.1 hc
  exact lowN_val (rs_all l d hd)
theorem fold_fold (l : List UInt8) : foldB (foldB l) = foldB l := by
  rw [foldB, rs_fold, List.map_map]
  rw [foldB]; congr 1
  exact List.map_congr_left fun c _ => lowN_low c
theorem foldB_length (l : List UInt8) : (foldB l).length ≤ 4 * l.length := by
  have h1 := encs_length ((rs l).map lowN)
  have h2 := rs_length l
  rw [List.length_map] at h1
  rw [foldB]; omega
/-- The first place that isn't in form. -/
def badF : Nat → Nat → List UInt8 → Option Nat
  | 0, _, _ => none
  | f + 1, p, l => if l.length = 0 then none else if Ok l then badF f (p + (dec l).2) (l.drop (dec l).2) else some p
def bad (l : List UInt8) : Option Nat := badF l.length 0 l
theorem badF_encs : ∀ (cs : List Nat) (f p : Nat), (∀ c ∈ cs, Val c) → badF f p (encs cs) = none
  | [], f, p, _ => by cases f <;> simp [badF, encs]
  | c :: cs, 0, p, _ => rfl
  | c :: cs, f + 1, p, h => by
    have hv := h c (by simp)
    have hd := dec_enc hv (encs cs)
    have ho : Ok (encs (c :: cs)) := by
      rw [Ok, encs_cons, hd]
      by_cases hc : c = 65533
      · left; subst hc; rw [enc_three (by omega)]; simp
      · right; exact hc
    have hne : ¬ (encs (c :: cs)).length = 0 := by rw [encs_cons, List.length_append]; have := enc_length c; omega
    rw [badF, if_neg hne, if_pos ho, encs_cons, hd]
    dsimp only
    rw [List.drop_left]
    exact badF_encs cs f _ fun d hd => h d (by simp [hd])
theorem bad_fold (l : List UInt8) : bad (foldB l) = none := badF_encs _ _ _ fun c hc => by
  obtain ⟨d, hd, rfl⟩ := List.mem_map.1 hc
  exact lowN_val (rs_all l d hd)
/-- What is in form is written back as it was. -/
theorem encs_rs : ∀ (f p : Nat) (l : List UInt8), l.length ≤ f → badF f p l = none → encs (rs l) = l
  | 0, p, l, h, _ => by have : l = [] := List.eq_nil_of_length_eq_zero (by omega); subst this; rfl
  | f + 1, p, l, h, hb => by
    by_cases h0 : l = []
    · subst h0; rfl
    · have hl : 0 < l.length := List.length_pos_iff.2 h0
      rw [badF, if_neg (by omega)] at hb
      split at hb
      · rename_i ho
        have hw := dec_width h0
        rw [rs_cons h0, encs_cons, enc_dec h0 ho, encs_rs f _ _ (by simp; omega) hb, List.take_append_drop]
      · cases hb
end Go.Proofs.Ytcjiecclmepboaa
