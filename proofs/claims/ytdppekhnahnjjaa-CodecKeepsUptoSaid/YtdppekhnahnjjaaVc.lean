/-
  The fixed fact of layer 3's statements, and the walk over the law CrcSums.
-/
import Derived.Test.YtdppekhnahnjjaaVb
import Derived.Test.YtdppekhnahnjjaaWh
import Derived.Test.YtdppekhnahnjjaaHeld
namespace Go.Proofs.Ytdppekhnahnjjaa
open Go.RowKit

theorem RdBB.one {w : World} {A A1 : Option Addr} {c1 : Nat} {r : List UInt8} (h : Rd w A 1 [.slice A1 r.length c1]) (h1 : RdB w A1 r) (hc : r.length ≤ c1) : RdBB w A [r] :=
  ⟨_, h, fun i q hi => by
    cases i with
    | zero => simp only [List.getElem?_cons_zero, Option.some.injEq] at hi; subst hi; exact ⟨A1, c1, rfl, h1, hc⟩
    | succ i => simp at hi⟩
theorem RdBB.two {w : World} {A A1 A2 : Option Addr} {c1 c2 : Nat} {r s : List UInt8} (h : Rd w A 2 [.slice A1 r.length c1, .slice A2 s.length c2]) (h1 : RdB w A1 r) (hc : r.length ≤ c1) (h2 : RdB w A2 s) (hc2 : s.length ≤ c2) : RdBB w A [r, s] :=
  ⟨_, h, fun i q hi => by
    cases i with
    | zero => simp only [List.getElem?_cons_zero, Option.some.injEq] at hi; subst hi; exact ⟨A1, c1, rfl, h1, hc⟩
    | succ i => cases i with
      | zero => simp only [List.getElem?_cons_succ, List.getElem?_cons_zero, Option.some.injEq] at hi; subst hi; exact ⟨A2, c2, rfl, h2, hc2⟩
      | succ i => simp at hi⟩
theorem RdBB.three {w : World} {A A1 A2 A3 : Option Addr} {c1 c2 c3 : Nat} {r s t : List UInt8} (h : Rd w A 3 [.slice A1 r.length c1, .slice A2 s.length c2, .slice A3 t.length c3]) (h1 : RdB w A1 r) (hc : r.length ≤ c1) (h2 : RdB w A2 s) (hc2 : s.length ≤ c2) (h3 : RdB w A3 t) (hc3 : t.length ≤ c3) : RdBB w A [r, s, t] :=
  ⟨_, h, fun i q hi => by
    cases i with
    | zero => simp only [List.getElem?_cons_zero, Option.some.injEq] at hi; subst hi; exact ⟨A1, c1, rfl, h1, hc⟩
    | succ i => cases i with
      | zero => simp only [List.getElem?_cons_succ, List.getElem?_cons_zero, Option.some.injEq] at hi; subst hi; exact ⟨A2, c2, rfl, h2, hc2⟩
      | succ i => cases i with
        | zero => simp only [List.getElem?_cons_succ, List.getElem?_cons_zero, Option.some.injEq] at hi; subst hi; exact ⟨A3, c3, rfl, h3, hc3⟩
        | succ i => simp at hi⟩
theorem cell_freeze (w : World) (a : Addr) (n : Nat) (x : Addr) : (w.freeze a n).cell? x = w.cell? x := by
  unfold World.freeze
  split
  · rfl
  · simp only [World.cell?, Array.getElem?_modify]
    by_cases h : a.block = x.block
    · rw [if_pos h]
      cases w.heap[x.block]? with
      | none => rfl
      | some o => cases o <;> rfl
    · rw [if_neg h]
theorem below_freeze {B : Nat} (w : World) (a : Addr) (n : Nat) (h : B ≤ a.block) : Below B w (w.freeze a n) := by
  unfold World.freeze
  split
  · exact Below.refl _ _
  · refine ⟨rfl, rfl, rfl, by simp, fun j hj => ?_⟩
    simp only [Array.getElem?_modify]
    rw [if_neg (by omega)]
/-- The bytes of a constant string as a slice: its block is marked. -/
theorem wl_frz {P : Program} {N : Nat} {ops : Array Oper} {Q : Exit → Act → World → Prop} {rest : List Oper} {L : FL} {w : World} {d : Nat} {x : Operand} {t e ty : TypeId} {pos : String} {aft : Array Edge} {A : Option Addr} {n c : Nat} {xs : List Value}
    (hx : look L x = some (.slice A n c)) (ht : P.underlying t = some (.slice e)) (he : P.underlying e = some (.int .u8)) (hr : Rd w A n xs) (hn : 0 < n) (hd : Nat.blt d N = true)
    (h : ∀ w', Rd w' A n xs → (∀ B a, A = some a → B ≤ a.block → Below B w w') → w'.heap.size = w.heap.size → WL P N ops Q rest ((d, .slice A n c) :: L) w') :
    WL P N ops Q (⟨some d, .convert t t x, ty, pos, aft, none⟩ :: rest) L w := by
  obtain ⟨b, o, rfl, hb, hc⟩ := hr.2 hn
  have hlen : 0 < xs.length := by rw [hr.1]; exact hn
  have h0 := hc 0 xs[0] (List.getElem?_eq_getElem hlen)
  obtain ⟨k, hk⟩ : ∃ k, w.shape? b = some k := by
    unfold World.cell? at h0
    unfold World.shape?
    simp only at h0
    cases hh : w.heap[b]? with
    | none => rw [hh] at h0; cases h0
    | some ob => cases ob <;> first | exact ⟨_, rfl⟩ | (rw [hh] at h0; cases h0)
  refine wl_val (v := .slice (some ⟨b, o, none⟩) n c) (w' := w.freeze ⟨b, k.2, none⟩ 1) (fun ρ op hρ ho _ => ?_) hd (h _ ⟨hr.1, fun _ => ⟨b, o, rfl, ?_, fun j u hu => by rw [cell_freeze]; exact hc j u hu⟩⟩ (fun B a ha hB => ?_) ?_)
  · unfold execOp
    simp only [ho, hρ x _ hx, convert, Sem.run_bind, run_underlying ht, Result.andThen_ok]
    simp [run_underlying he, markStringish, hk]
  · unfold World.freeze; simp; exact hb
  · cases ha; exact below_freeze _ _ _ hB
  · unfold World.freeze; simp
theorem crc_fact : crcOf [49, 50, 51, 52, 53, 54, 55, 56, 57] = 3421780262 := by decide +kernel
theorem awake3_any (w : World) : CallsV Try.prog 20 #[] w (RetTrue w) := by
  have hb := Below.refl w.heap.size w
  refine calls_in (N := _) Try.func20 rfl Try.ntmps20 rfl ?_; show WC _ _ _ _ _ _
  refine wc_sr ?_; refine wl_as rfl rfl ?_; refine wl_ns ?_; refine wc_sr ?_
  refine wl_bs (vs := [_, _, _, _, _]) tyB ⟨rfl, rfl, rfl, rfl, rfl, rfl, rfl, rfl, rfl, rfl, rfl, rfl, rfl, rfl, rfl, trivial⟩ rfl (by decide) rfl fun A1 w1 o1 h1 _ => ?_
  refine wl_frz rfl Try.underlying24 Try.underlying5 o1.rd (by decide) rfl fun w2 p2 f2 s2 => ?_
  have h2 : Below w.heap.size w w2 := h1.trans (by cases A1 with
    | none => exact absurd (p2.2 (by decide)) (by rintro ⟨_, _, h, _⟩; cases h)
    | some a => exact f2 _ a rfl (o1.lt a rfl).1)
  have p2' : RdB w2 A1 [49, 50, 51, 52, 53] := p2
  refine wl_bs (vs := [_, _, _, _]) tyB ⟨rfl, rfl, rfl, rfl, rfl, rfl, rfl, rfl, rfl, rfl, rfl, rfl, trivial⟩ rfl (by decide) rfl fun A3 w3 o3 h3 _ => ?_
  refine wl_frz rfl Try.underlying24 Try.underlying5 o3.rd (by decide) rfl fun w4 p4 f4 s4 => ?_
  have h4 : Below w2.heap.size w2 w4 := h3.trans (by cases A3 with
    | none => exact absurd (p4.2 (by decide)) (by rintro ⟨_, _, h, _⟩; cases h)
    | some a => exact f4 _ a rfl (o3.lt a rfl).1)
  have p4' : RdB w4 A3 [54, 55, 56, 57] := p4
  replace p2' := RdB.below p2' h4
  have hb4 := h2.trans (h4.mono h2.size)
  refine wl_bs (vs := [_, _]) tyBB ⟨rfl, rfl, rfl, rfl, rfl, rfl, trivial⟩ rfl (by decide) rfl fun A5 w5 o5 h5 _ => ?_
  have hrows : RdBB w5 A5 [[49, 50, 51, 52, 53], [54, 55, 56, 57]] := RdBB.two o5.rd (RdB.below p2' h5) (by decide) (RdB.below p4' h5) (by decide)
  have hb5 := hb4.trans (h5.mono hb4.size)
  refine wl_call ok_crc_Sum (sum_any hrows rfl (by simp only [maxLen]; decide) (by simp only [maxLen]; decide)) ⟨rfl, trivial⟩ rfl ?_
  rintro _ w6 ⟨rfl, h6⟩
  rw [show crcOf [[49, 50, 51, 52, 53], [54, 55, 56, 57]].flatten = 3421780262 from crc_fact]
  refine wl_bin rfl rfl bin_eql rfl ?_; refine wl_as rfl rfl ?_; refine wl_ns ?_; refine wc_ret ?_
  exact we_ret1 rfl rfl ⟨_, rfl, rfl, hb5.trans (h6.mono hb5.size)⟩
end Go.Proofs.Ytdppekhnahnjjaa
