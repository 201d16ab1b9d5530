
/-
  Plain laws of words: what FieldsFunc cuts out of a folded text is what the document says, rune by rune. No program in sight but the kit's own word for FieldsFunc.
-/
import Derived.Test.YtcjiecclmepboaaStr
import Derived.Lib.FieldsP
namespace Go.Proofs.Ytcjiecclmepboaa

/-- Is a rune a letter or a digit? -/
def inW (c : Nat) : Bool := decide ((97 ≤ c ∧ c ≤ 122) ∨ (65 ≤ c ∧ c ≤ 90) ∨ (48 ≤ c ∧ c ≤ 57) ∨ (192 ≤ c ∧ ¬ c = 65533))
theorem inW_low (c : Nat) : inW (lowN c) = inW c := by
  unfold inW
  rw [decide_eq_decide]
  unfold lowN
  (repeat' split) <;> omega
/-- The words of runes; the first one is under way. -/
def wrd (now : List UInt8) : List Nat → List (List UInt8)
  | [] => if now = [] then [] else [now]
  | c :: cs => if inW c then wrd (now ++ enc (lowN c)) cs else if now = [] then wrd [] cs else now :: wrd [] cs
def wordsB (l : List UInt8) : List (List UInt8) := wrd [] (rs l)
/-- The pieces between runes that p tells. -/
def wf (p : Nat → Bool) : Option (List UInt8) → List Nat → List (List UInt8)
  | none, [] => []
  | some n, [] => [n]
  | none, c :: cs => if p c then wf p none cs else wf p (some (enc c)) cs
  | some n, c :: cs => if p c then n :: wf p none cs else wf p (some (n ++ enc c)) cs
theorem enc_ne (c : Nat) : enc c ≠ [] := by
  intro h; have := enc_length c; rw [h] at this; simp at this
def nowOf (n : List UInt8) : Option (List UInt8) := if n = [] then none else some n
theorem wf_wrd : ∀ (cs : List Nat) (n : List UInt8), wf (fun c => !inW c) (nowOf n) (cs.map lowN) = wrd n cs
  | [], n => by unfold nowOf; by_cases h : n = [] <;> simp [h, wf, wrd]
  | c :: cs, n => by
    have hl := inW_low c
    by_cases h : n = []
    · subst h
      have e1 : nowOf [] = none := rfl
      rw [e1, List.map_cons]
      simp only [wf, wrd, hl]
      by_cases hi : inW c = true
      · have e2 : nowOf (enc (lowN c)) = some (enc (lowN c)) := by simp [nowOf, enc_ne]
        have := wf_wrd cs (enc (lowN c))
        rw [e2] at this
        simp [hi, this]
      · have hi' : inW c = false := by simpa using hi
        have := wf_wrd cs []
        rw [e1] at this
        simp [hi', this]
    · have e1 : nowOf n = some n := by simp [nowOf, h]
      rw [e1, List.map_cons]
      simp only [wf, wrd, hl]
      by_cases hi : inW c = true
      · have e2 : nowOf (n ++ enc (lowN c)) = some (n ++ enc (lowN c)) := by simp [nowOf, enc_ne]
        have := wf_wrd cs (n ++ enc (lowN c))
        rw [e2] at this
        simp [hi, this]
      · have hi' : inW c = false := by simpa using hi
        have := wf_wrd cs []
        rw [show nowOf [] = none from rfl] at this
        simp [hi', h, this]
def ext (l : List UInt8) (x : Nat × Nat) : List UInt8 := (l.take x.2).drop x.1
theorem take_more {l : List UInt8} {pos : Nat} {a b : List UInt8} (h : l.drop pos = a ++ b) (hp : pos ≤ l.length) : l.take (pos + a.length) = l.take pos ++ a := by
  rw [List.take_add, h, List.take_left]
theorem spans_wf (p : Nat → Bool) (l : List UInt8) : ∀ (ds : List Nat) (f pos : Nat) (st : Option Nat) (acc : List (Nat × Nat)), (∀ c ∈ ds, Val c) → l.drop pos = encs ds → ds.length ≤ f → pos ≤ l.length → (∀ a, st = some a → a ≤ pos) →
    (Lib.closeSpans ⟨l.toArray⟩ (Lib.spansFromP p ⟨l.toArray⟩ f pos st acc)).map (ext l) = acc.map (ext l) ++ wf p (st.map fun a => (l.take pos).drop a) ds
  | [], f, pos, st, acc, hv, hd, hf, hp, ha => by
    have hpl : pos = l.length := by have := congrArg List.length hd; simp [encs] at this; omega
    rw [Lib.spansFromP_end _ _ _ _ _ _ (by show ¬ pos < l.length; omega)]
    cases st with
    | none => simp [Lib.closeSpans, wf]
    | some a => simp [Lib.closeSpans, wf, ext, hpl, size_list]
  | c :: ds, 0, pos, st, acc, hv, hd, hf, hp, ha => by simp at hf
  | c :: ds, f + 1, pos, st, acc, hv, hd, hf, hp, ha => by
    have hvc := hv c (by simp)
    have hel := enc_length c
    rw [encs_cons] at hd
    have hlen := congrArg List.length hd
    simp only [List.length_drop, List.length_append] at hlen
    have hlt : pos < (⟨l.toArray⟩ : ByteArray).size := by show pos < l.length; omega
    have hdec : Utf8.decode ⟨l.toArray⟩ pos = (c, (enc c).length) := by rw [decode_list, hd, dec_enc hvc]
    have hd2 : l.drop (pos + (enc c).length) = encs ds := by rw [← List.drop_drop, hd, List.drop_left]
    have hp2 : pos + (enc c).length ≤ l.length := by omega
    have ht := take_more hd hp
    have hv2 : ∀ c ∈ ds, Val c := fun c hc => hv c (by simp [hc])
    simp only [List.length_cons] at hf
    unfold Lib.spansFromP
    rw [if_pos hlt, hdec]
    dsimp only
    by_cases hpc : p c = true
    · rw [if_pos hpc]
      cases st with
      | none =>
        dsimp only
        rw [spans_wf p l ds f _ none acc hv2 hd2 (by omega) hp2 (by simp)]
        simp [wf, hpc]
      | some a =>
        dsimp only
        rw [spans_wf p l ds f _ none (acc ++ [(a, pos)]) hv2 hd2 (by omega) hp2 (by simp)]
        simp [wf, hpc, ext]
    · rw [if_neg hpc]
      have hpf : p c = false := by simpa using hpc
      cases st with
      | none =>
        dsimp only
        rw [spans_wf p l ds f _ (some pos) acc hv2 hd2 (by omega) hp2 (by simp)]
        simp only [Option.map_some, Option.map_none, wf, hpf]
        rw [ht, List.drop_left' (by simp; omega)]
        simp
      | some a =>
        have hap := ha a rfl
        dsimp only
        rw [spans_wf p l ds f _ (some a) acc hv2 hd2 (by omega) hp2 (fun b hb => by cases hb; omega)]
        simp only [Option.map_some, wf, hpf]
        rw [ht, List.drop_append_of_le_length (by simp; omega)]
        simp
/-- FieldsFunc on a folded text. -/
theorem fields_fold (l : List UInt8) : (Lib.goFieldsP (fun c => !inW c) ⟨(foldB l).toArray⟩).map Value.string = (wordsB l).map str := by
  have hcs : ∀ c ∈ (rs l).map lowN, Val c := fun c hc => by
    obtain ⟨d, hd, rfl⟩ := List.mem_map.1 hc
    exact lowN_val (rs_all l d hd)
  have hle : ((rs l).map lowN).length ≤ (foldB l).length := by rw [← rs_fold]; exact rs_length _
  have h := spans_wf (fun c => !inW c) (foldB l) ((rs l).map lowN) (foldB l).length 0 none [] hcs rfl hle (by omega) (by simp)
  simp only [Option.map_none, List.map_nil, List.nil_append] at h
  have e := wf_wrd (rs l) []
  rw [show nowOf [] = none from rfl] at e
  rw [e] at h
  unfold Lib.goFieldsP Lib.spansOfP wordsB
  rw [← h, List.map_map, List.map_map]
  apply List.map_congr_left
  intro x hx
  show Value.string ((⟨(foldB l).toArray⟩ : ByteArray).extract x.1 x.2) = str (ext (foldB l) x)
  rw [extract_any]; rfl
theorem wrd_length : ∀ (cs : List Nat) (n : List UInt8), (wrd n cs).length ≤ cs.length + 1
  | [], n => by unfold wrd; split <;> simp
  | c :: cs, n => by
    unfold wrd
    have h1 := wrd_length cs (n ++ enc (lowN c))
    have h2 := wrd_length cs []
    (repeat' split) <;> (try simp only [List.length_cons]) <;> (try simp only [List.length_cons] at *) <;> omega
end Go.Proofs.Ytcjiecclmepboaa
