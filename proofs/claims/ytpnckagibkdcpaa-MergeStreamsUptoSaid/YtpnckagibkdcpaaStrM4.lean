/-
  The texts of this proof, joined: Jr, Jt, Ju, Iw, Ix, Iy, Iz, Ha, Hb, Zd, Jq, Hc, Hd, He.
-/
import Derived.Test.YtpnckagibkdcpaaStrM3
import Derived.Test.YtpnckagibkdcpaaStrM2
import Derived.Test.YtpnckagibkdcpaaStrM1

/-
  The plain law of MergeSame: a sorted list is in order and in form; what is kept of it looks the same at each moment that counts, and is kept again whole. No program in sight.
-/
namespace Go.Proofs.Ytpnckagibkdcpaa

theorem pos_spec (l : List En) (e : En) : ∀ n, n ≤ l.length → (∀ i x, posE l e n ≤ i → i < n → l[i]? = some x → lessE e x = true) ∧ (posE l e n = 0 ∨ ∃ x, l[posE l e n - 1]? = some x ∧ lessE e x = false ∧ 0 < posE l e n)
  | 0, _ => ⟨by omega, .inl rfl⟩
  | n + 1, h => by
    have hx : l[n]? = some (l[n]'(by omega)) := List.getElem?_eq_getElem (by omega)
    rw [posE, hx]
    simp only
    cases h2 : lessE e (l[n]'(by omega)) with
    | true =>
      rw [if_pos rfl]
      obtain ⟨h3, h4⟩ := pos_spec l e n (by omega)
      refine ⟨fun i x hi hin hxi => ?_, h4⟩
      rcases Nat.lt_or_ge i n with h5 | h5
      · exact h3 i x hi h5 hxi
      · obtain rfl : i = n := by omega
        rw [hx] at hxi; cases hxi; exact h2
    | false =>
      rw [if_neg (by decide)]
      exact ⟨by omega, .inr ⟨_, hx, h2, by omega⟩⟩
theorem inE_false {l : List En} {e : En} (h : inE l e = false) : ∀ x ∈ l, ¬ (x.key = e.key ∧ x.seq = e.seq) := fun x hx => by
  have := List.any_eq_false.1 h x hx
  simpa using this
theorem ins_ord {l : List En} {e : En} (ho : Ord l) (hn : inE l e = false) : Ord (insE l e) := by
  obtain ⟨h1, h2⟩ := pos_spec l e l.length (Nat.le_refl _)
  have hp := posE_le l e l.length
  obtain ⟨p, hpd⟩ : ∃ q, posE l e l.length = q := ⟨_, rfl⟩
  rw [hpd] at h1 h2 hp
  rw [insE, hpd]
  have hlow : ∀ x ∈ l.take p, lessE x e = true := fun x hx => by
    obtain ⟨i, hi, rfl⟩ := List.getElem_of_mem hx
    rw [List.length_take] at hi
    rcases h2 with h2 | ⟨y, hy, hye, hpos⟩
    · omega
    · have hyl : lessE y e = true := by
        rcases lessE_tri e y with h | h | h
        · rw [hye] at h; cases h
        · exact absurd ⟨h.1.symm, h.2.symm⟩ (inE_false hn y (List.mem_of_getElem? hy))
        · exact h
      obtain ⟨hj, hjy⟩ := List.getElem?_eq_some_iff.1 hy
      rw [List.getElem_take]
      rcases Nat.lt_or_ge i (p - 1) with h3 | h3
      · have := (List.pairwise_iff_getElem.1 ho) i (p - 1) (by omega) hj h3
        rw [hjy] at this
        exact lessE_trans this hyl
      · obtain rfl : i = p - 1 := by omega
        rw [hjy]; exact hyl
  have hhigh : ∀ x ∈ l.drop p, lessE e x = true := fun x hx => by
    obtain ⟨i, hi, rfl⟩ := List.getElem_of_mem hx
    rw [List.length_drop] at hi
    exact h1 (p + i) _ (by omega) (by omega) (by rw [List.getElem_drop]; exact List.getElem?_eq_getElem _)
  refine List.pairwise_append.2 ⟨List.pairwise_append.2 ⟨ho.sublist (List.take_sublist _ _), by simp, fun a ha b hb => ?_⟩, ho.sublist (List.drop_sublist _ _), fun a ha b hb => ?_⟩
  · simp at hb; subst hb; exact hlow a ha
  · rw [List.mem_append] at ha
    rcases ha with ha | ha
    · exact lessE_trans (hlow a ha) (hhigh b hb)
    · simp at ha; subst ha; exact hhigh b hb
theorem check_one {x : En} (h : checkE [x] = 0) : bigE x = false ∧ badE x = false := by
  unfold checkE at h
  simp only [List.any_cons, List.any_nil, Bool.or_false] at h
  cases hb : bigE x with
  | true => rw [hb] at h; simp at h
  | false => cases hd : badE x with
    | true => rw [hb, hd] at h; simp at h
    | false => exact ⟨rfl, rfl⟩
theorem check_of {l : List En} (h : ∀ x ∈ l, bigE x = false ∧ badE x = false) : checkE l = 0 := by
  have h1 : l.any bigE = false := List.any_eq_false.2 fun x hx => by rw [(h x hx).1]; simp
  have h2 : l.any badE = false := List.any_eq_false.2 fun x hx => by rw [(h x hx).2]; simp
  rw [checkE, h1, h2]; rfl
theorem worst_of {l : List En} (ho : Ord l) (h : ∀ x ∈ l, bigE x = false ∧ badE x = false) : worstE [l] = 0 := by
  show stepW 0 l = 0
  rw [stepW, errE, check_of h, ordE_of ho]; rfl
theorem sorted_ok (l : List En) : Ord (sortedE l) ∧ ∀ x ∈ sortedE l, bigE x = false ∧ badE x = false := by
  have key : ∀ (l out : List En), Ord out → (∀ x ∈ out, bigE x = false ∧ badE x = false) → Ord (l.foldl addE out) ∧ ∀ x ∈ l.foldl addE out, bigE x = false ∧ badE x = false := by
    intro l
    induction l with
    | nil => intro out h1 h2; exact ⟨h1, h2⟩
    | cons x l ih =>
      intro out h1 h2
      rw [List.foldl_cons]
      by_cases h : checkE [x] = 0 ∧ inE out x = false
      · have ha : addE out x = insE out x := by rw [addE, if_pos h]
        rw [ha]
        exact ih _ (ins_ord h1 h.2) fun y hy => by
          have := addE_ok (p := fun x => bigE x = false ∧ badE x = false) h2 (check_one h.1) y (by rw [ha]; exact hy)
          exact this
      · have ha : addE out x = out := by rw [addE, if_neg h]
        rw [ha]; exact ih _ h1 h2
  exact key l [] (by simp [Ord]) (by simp)
/-- What is kept of a run. -/
def keptR (bt : Bool) (ms : List Nat) (r : List En) : Nat := if bt then trimN (needE r ms) (needE r ms).length else (needE r ms).length
theorem keepR_eq (bt : Bool) (ms : List Nat) (r : List En) : keepR bt ms r = (needE r ms).take (keptR bt ms r) := rfl
theorem keepR_sub {r : List En} (hf : Fall r) (bt : Bool) (ms : List Nat) : (keepR bt ms r).Sublist r := by
  rw [keepR_eq, need_filter hf]
  exact (List.take_sublist _ _).trans List.filter_sublist
theorem kept_high {r : List En} (bt : Bool) (ms : List Nat) : ∀ x ∈ (needE r ms).drop (keptR bt ms r), x.kind = 2 := fun x hx => by
  obtain ⟨i, hi, rfl⟩ := List.getElem_of_mem hx
  rw [List.length_drop] at hi
  rw [List.getElem_drop]
  cases bt with
  | false => simp [keptR] at hi
  | true => exact (trim_spec (needE r ms) _ (Nat.le_refl _)).1 _ _ (Nat.le_add_right _ _) (by have hk : keptR true ms r = trimN (needE r ms) (needE r ms).length := rfl; omega) (List.getElem?_eq_getElem _)
theorem find_filter {α : Type} {p q : α → Bool} : ∀ {r : List α}, (∀ v, r.find? q = some v → p v = true) → (r.filter p).find? q = r.find? q
  | [], _ => rfl
  | x :: r, h => by
    rw [List.find?_cons]
    cases hq : q x with
    | true =>
      have hp : p x = true := h x (by rw [List.find?_cons, hq])
      rw [List.filter_cons, if_pos hp, List.find?_cons, hq]
    | false =>
      have ih := find_filter (r := r) fun v hv => h v (by rw [List.find?_cons, hq]; exact hv)
      simp only
      rw [List.filter_cons]
      split
      · rw [List.find?_cons, hq]; exact ih
      · exact ih
/-- At a moment that counts for it a run's part is seen as the run is. -/
def good (r : List En) (ms : List Nat) (m : Nat) : Prop := ∀ v, fstE r m = some v → nd r ms v = true
theorem good_mem {r : List En} {ms : List Nat} {m : Nat} (h : m ∈ ms) : good r ms m := fun v hv => by
  rw [nd, Bool.or_eq_true]; exact .inr (List.any_eq_true.2 ⟨m, h, decide_eq_true hv⟩)
theorem good_all {r : List En} {ms : List Nat} {m : Nat} (h : ∀ x ∈ r, x.seq ≤ m) : good r ms m := fun v hv => by
  cases r with
  | nil => cases hv
  | cons x r =>
    rw [fstE, List.find?_cons, decide_eq_true (h x List.mem_cons_self)] at hv
    cases hv
    rw [nd, Bool.or_eq_true]; exact .inl (by simp)
theorem fst_need {r : List En} (hf : Fall r) {ms : List Nat} {m : Nat} (hg : good r ms m) : fstE (needE r ms) m = fstE r m := by
  rw [need_filter hf]; exact find_filter hg
theorem fst_split (s : List En) (t m : Nat) : fstE s m = (fstE (s.take t) m).or (fstE (s.drop t) m) := by
  conv => lhs; rw [← List.take_append_drop t s]
  rw [fstE, List.find?_append]; rfl
theorem vis_kept {r : List En} (hf : Fall r) {bt : Bool} {ms : List Nat} {m : Nat} (hg : good r ms m) : visR m (keepR bt ms r) = visR m r := by
  rw [visR_eq, visR_eq, ← fst_need hf hg, fst_split (needE r ms) (keptR bt ms r), ← keepR_eq]
  cases hv : fstE (keepR bt ms r) m with
  | some v => rfl
  | none =>
    rw [Option.none_or]
    cases hw : fstE ((needE r ms).drop (keptR bt ms r)) m with
    | none => rfl
    | some w =>
      have hk := kept_high bt ms w (List.mem_of_find?_eq_some hw)
      rw [Option.filter_some_neg (by rw [hk]; decide)]; rfl
theorem fst_in {r : List En} {m : Nat} {v : En} (h : fstE r m = some v) : v.seq ≤ m := by
  have := List.find?_some h
  simpa using this
theorem kept_nd {r : List En} (hf : Fall r) (bt : Bool) (ms : List Nat) : ∀ x ∈ keepR bt ms r, nd (keepR bt ms r) ms x = true := fun x hx => by
  have hxs : x ∈ needE r ms := List.mem_of_mem_take hx
  have hnd : nd r ms x = true := by rw [need_filter hf] at hxs; exact (List.mem_filter.1 hxs).2
  rw [nd, Bool.or_eq_true] at hnd ⊢
  rcases hnd with h | h
  · refine .inl (decide_eq_true ?_)
    have h0 := of_decide_eq_true h
    cases r with
    | nil => simp at h0
    | cons y r =>
      simp at h0; subst h0
      have hny : nd (y :: r) ms y = true := by rw [nd, Bool.or_eq_true]; exact .inl (by simp)
      have hs : needE (y :: r) ms = y :: r.filter (nd (y :: r) ms) := by rw [need_filter hf, List.filter_cons, if_pos hny]
      rw [keepR_eq, hs] at hx ⊢
      cases ht : keptR bt ms (y :: r) with
      | zero => rw [ht] at hx; simp at hx
      | succ t => rfl
  · obtain ⟨m, hm, hv⟩ := List.any_eq_true.1 h
    have hv := of_decide_eq_true hv
    refine .inr (List.any_eq_true.2 ⟨m, hm, decide_eq_true ?_⟩)
    have h1 := fst_need hf (good_mem (r := r) hm)
    rw [hv, fst_split (needE r ms) (keptR bt ms r), ← keepR_eq] at h1
    cases hw : fstE (keepR bt ms r) m with
    | some w => rw [hw] at h1; simpa using h1
    | none =>
      have := List.find?_eq_none.1 hw x hx
      have hle := fst_in hv
      simp at this; omega
theorem kept_again {r : List En} (hf : Fall r) (bt : Bool) (ms : List Nat) : keepR bt ms (keepR bt ms r) = keepR bt ms r := by
  have hf2 : Fall (keepR bt ms r) := List.Pairwise.sublist (keepR_sub hf bt ms) hf
  have hn : needE (keepR bt ms r) ms = keepR bt ms r := by
    rw [need_filter hf2]; exact List.filter_eq_self.2 (kept_nd hf bt ms)
  rw [keepR_eq bt ms (keepR bt ms r), hn]
  refine List.take_of_length_le ?_
  unfold keptR
  rw [hn]
  cases bt with
  | false => simp
  | true =>
    rw [if_pos rfl]
    obtain ⟨_, h2⟩ := trim_spec (needE r ms) _ (Nat.le_refl _)
    have hk : keptR true ms r = trimN (needE r ms) (needE r ms).length := rfl
    rw [← hk] at h2
    have hle : keptR true ms r ≤ (needE r ms).length := trimN_le _ _
    have hl : (keepR true ms r).length = keptR true ms r := by rw [keepR_eq, List.length_take]; omega
    rcases h2 with h2 | ⟨x, hx, hx2, hpos⟩
    · rw [hl, h2]; exact Nat.zero_le _
    · obtain ⟨t, ht⟩ : ∃ t, keptR true ms r = t + 1 := ⟨keptR true ms r - 1, by omega⟩
      have hx' : (keepR true ms r)[t]? = some x := by
        rw [keepR_eq, List.getElem?_take, if_pos (by omega)]
        rw [ht] at hx; simpa using hx
      rw [hl, ht, trimN, hx']
      simp [hx2]
theorem runsF_cat : ∀ (r rest acc : List En), r ≠ [] → (∀ x ∈ r, ∀ y ∈ r, x.key = y.key) → (∀ x ∈ r, ∀ y ∈ rest, ¬ x.key = y.key) → runsF (r ++ rest) acc = (acc ++ r) :: runsF rest []
  | [], _, _, h, _, _ => absurd rfl h
  | [x], [], acc, _, _, _ => by simp [runsF]
  | [x], y :: rest, acc, _, _, h => by
    have := h x (by simp) y (by simp)
    simp [runsF, this]
  | x :: x2 :: r, rest, acc, _, hs, h => by
    have hk := hs x (by simp) x2 (by simp)
    have ih := runsF_cat (x2 :: r) rest (acc ++ [x]) (by simp) (fun a ha b hb => hs a (List.mem_cons_of_mem _ ha) b (List.mem_cons_of_mem _ hb)) (fun a ha => h a (List.mem_cons_of_mem _ ha))
    rw [List.cons_append, List.cons_append, runsF, if_pos hk, ← List.cons_append, ih]
    simp
theorem runs_cat : ∀ {rs : List (List En)}, Runs rs → runsE rs.flatten = rs
  | [], _ => rfl
  | r :: rs, hR => by
    obtain ⟨hd, hd2⟩ := List.pairwise_cons.1 hR.diff
    have hR2 : Runs rs := ⟨fun r h => hR.some r (List.mem_cons_of_mem _ h), fun r h => hR.same r (List.mem_cons_of_mem _ h), hd2⟩
    rw [List.flatten_cons, runsE, runsF_cat r rs.flatten [] (hR.some r List.mem_cons_self) (hR.same r List.mem_cons_self) fun x hx y hy => by
      obtain ⟨r', hr', hy'⟩ := List.mem_flatten.1 hy
      exact hd r' hr' x hx y hy', List.nil_append]
    have ih := runs_cat hR2
    rw [runsE] at ih
    rw [ih]
/-- What of each run is kept, without empty partsR. -/
def partsR (bt : Bool) (ms : List Nat) (rs : List (List En)) : List (List En) := (rs.map (keepR bt ms)).filter fun r => !r.isEmpty
theorem partsR_flat (bt : Bool) (ms : List Nat) : ∀ (rs : List (List En)), (partsR bt ms rs).flatten = rs.flatMap (keepR bt ms)
  | [] => rfl
  | r :: rs => by
    have ih := partsR_flat bt ms rs
    rw [partsR] at ih ⊢
    rw [List.map_cons, List.filter_cons, List.flatMap_cons, ← ih]
    cases h : keepR bt ms r with
    | nil => rfl
    | cons x l => rfl
theorem partsR_runs {bt : Bool} {ms : List Nat} {rs : List (List En)} (hR : Runs rs) (hf : ∀ r ∈ rs, Fall r) : Runs (partsR bt ms rs) := by
  refine ⟨fun r hr => ?_, fun r hr => ?_, ?_⟩
  · have := (List.mem_filter.1 hr).2
    rintro rfl; simp at this
  · obtain ⟨r0, hr0, rfl⟩ := List.mem_map.1 (List.mem_filter.1 hr).1
    have hs := keepR_sub (hf r0 hr0) bt ms
    exact fun x hx y hy => hR.same r0 hr0 x (hs.subset hx) y (hs.subset hy)
  · refine List.Pairwise.filter _ (List.pairwise_map.2 (hR.diff.imp_of_mem fun {a b} ha hb h => fun x hx y hy => h x ((keepR_sub (hf a ha) bt ms).subset hx) y ((keepR_sub (hf b hb) bt ms).subset hy)))
theorem vis_nil (m : Nat) : visR m [] = none := rfl
theorem vis_parts {m : Nat} {bt : Bool} {ms : List Nat} : ∀ {rs : List (List En)}, (∀ r ∈ rs, Fall r) → (∀ r ∈ rs, good r ms m) → (partsR bt ms rs).filterMap (visR m) = rs.filterMap (visR m)
  | [], _, _ => rfl
  | r :: rs, hf, hg => by
    have ih := vis_parts (bt := bt) (fun r h => hf r (List.mem_cons_of_mem _ h)) (fun r h => hg r (List.mem_cons_of_mem _ h))
    have hv := vis_kept (hf r List.mem_cons_self) (bt := bt) (hg r List.mem_cons_self)
    rw [partsR] at ih ⊢
    rw [List.map_cons, List.filter_cons, List.filterMap_cons, ← hv]
    cases h : keepR bt ms r with
    | nil => rw [vis_nil]; exact ih
    | cons x l =>
      rw [if_pos (by simp), List.filterMap_cons]
      cases visR m (x :: l) with
      | none => exact ih
      | some v => simp only; rw [ih]
/-- What is kept of a list in order. -/
theorem same_law {l : List En} (ho : Ord l) (hc : ∀ x ∈ l, bigE x = false ∧ badE x = false) (bt : Bool) (ms : List Nat) :
    (keepE l bt ms).Sublist l ∧ worstE [keepE l bt ms] = 0 ∧ keepE (keepE l bt ms) bt ms = keepE l bt ms ∧ ∀ m, (m ∈ ms ∨ ∀ x ∈ l, x.seq ≤ m) → visE (keepE l bt ms) m = visE l m := by
  obtain ⟨hf, hR⟩ := runs_spec ho
  have hfall := fun r hr => fall_of ho (r := r) hR hr
  have hmem : ∀ r ∈ runsE l, ∀ y ∈ r, y ∈ l := fun r hr y hy => by rw [← hf]; exact List.mem_flatten.2 ⟨r, hr, hy⟩
  have hP := partsR_runs (bt := bt) (ms := ms) hR hfall
  have hk : keepE l bt ms = (partsR bt ms (runsE l)).flatten := (partsR_flat bt ms _).symm
  have hrk : runsE (keepE l bt ms) = partsR bt ms (runsE l) := by rw [hk]; exact runs_cat hP
  have hsub : (keepE l bt ms).Sublist l := by
    have key : ∀ (rs : List (List En)), (∀ r ∈ rs, Fall r) → (rs.flatMap (keepR bt ms)).Sublist rs.flatten := by
      intro rs
      induction rs with
      | nil => intro _; exact List.Sublist.refl _
      | cons r rs ih =>
        intro h
        rw [List.flatMap_cons, List.flatten_cons]
        exact (keepR_sub (h r List.mem_cons_self) bt ms).append (ih fun r hr => h r (List.mem_cons_of_mem _ hr))
    have := key _ hfall
    rwa [hf] at this
  refine ⟨hsub, worst_of (ho.sublist hsub) fun x hx => hc x (hsub.subset hx), ?_, fun m hm => ?_⟩
  · show (runsE (keepE l bt ms)).flatMap (keepR bt ms) = _
    rw [hrk, hk, flatMap_congr (g := id) fun r hr => by
      obtain ⟨r0, hr0, rfl⟩ := List.mem_map.1 (List.mem_filter.1 hr).1
      exact kept_again (hfall r0 hr0) bt ms]
    simp [List.flatMap_id]
  · rw [visE, hrk, visE, vis_parts hfall fun r hr => hm.elim good_mem fun h => good_all fun x hx => h x (hmem r hr x hx)]
end Go.Proofs.Ytpnckagibkdcpaa


/-
  Plain laws of heaps in lists, and of lists of entries that are merged by one. No program in sight.
-/
namespace Go.Proofs.Ytpnckagibkdcpaa

section heap
variable {σ : Type} (less : σ → σ → Bool)
def lt2 (l : List σ) (i j : Nat) : Bool := match l[i]?, l[j]? with | some a, some b => less a b | _, _ => false
def swapL (l : List σ) (i j : Nat) : List σ := match l[i]?, l[j]? with | some a, some b => (l.set i b).set j a | _, _ => l
theorem swap_get {l : List σ} {i j : Nat} (hi : i < l.length) (hj : j < l.length) (k : Nat) : (swapL l i j)[k]? = if k = j then l[i]? else if k = i then l[j]? else l[k]? := by
  have h1 : l[i]? = some l[i] := List.getElem?_eq_getElem hi
  have h2 : l[j]? = some l[j] := List.getElem?_eq_getElem hj
  unfold swapL
  rw [h1, h2]
  by_cases e1 : k = j
  · subst e1; simp [hj]
  · rw [if_neg e1, List.getElem?_set_ne (fun h => e1 h.symm)]
    by_cases e2 : k = i
    · subst e2; simp [hi]
    · rw [if_neg e2, List.getElem?_set_ne (fun h => e2 h.symm)]
theorem swap_len (l : List σ) (i j : Nat) : (swapL l i j).length = l.length := by unfold swapL; split <;> simp
theorem swap_perm {l : List σ} {i j : Nat} (hi : i < l.length) (hj : j < l.length) : (swapL l i j).Perm l := by
  have h1 : l[i]? = some l[i] := List.getElem?_eq_getElem hi
  have h2 : l[j]? = some l[j] := List.getElem?_eq_getElem hj
  unfold swapL
  rw [h1, h2]
  exact List.set_set_perm hi hj
theorem lt2_swap {l : List σ} {i j : Nat} (hi : i < l.length) (hj : j < l.length) (a b : Nat) :
    lt2 less (swapL l i j) a b = lt2 less l (if a = j then i else if a = i then j else a) (if b = j then i else if b = i then j else b) := by
  have h : ∀ k, (swapL l i j)[k]? = l[(if k = j then i else if k = i then j else k)]? := fun k => by
    rw [swap_get hi hj]; split
    · rfl
    · split <;> rfl
  unfold lt2
  rw [h, h]
/-- From parent k on, among the first n, no child stands ahead of its parent. -/
def Hp (l : List σ) (k n : Nat) : Prop := ∀ p j, k ≤ p → (j = 2 * p + 1 ∨ j = 2 * p + 2) → j < n → lt2 less l j p = false
/-- The same but at i, on its way down. -/
structure HpD (l : List σ) (k n i : Nat) : Prop where
  len : n ≤ l.length
  low : k ≤ i
  other : ∀ p j, k ≤ p → p ≠ i → (j = 2 * p + 1 ∨ j = 2 * p + 2) → j < n → lt2 less l j p = false
  above : ∀ q j, k ≤ q → (i = 2 * q + 1 ∨ i = 2 * q + 2) → (j = 2 * i + 1 ∨ j = 2 * i + 2) → j < n → lt2 less l j q = false
variable {less}
variable (hasym : ∀ a b, less a b = true → less b a = false) (hneg : ∀ a b c, less a b = false → less b c = false → less a c = false)
include hasym
theorem lt2_asym {l : List σ} {i j : Nat} (h : lt2 less l i j = true) : lt2 less l j i = false := by
  unfold lt2 at h ⊢
  cases hi : l[i]? <;> cases hj : l[j]? <;> simp_all
theorem hp_step {l : List σ} {k n i j : Nat} (h : HpD less l k n i) (hij : j = 2 * i + 1 ∨ j = 2 * i + 2) (hj : j < n) (best : ∀ c, (c = 2 * i + 1 ∨ c = 2 * i + 2) → c < n → lt2 less l c j = false) (hlt : lt2 less l j i = true) : HpD less (swapL l i j) k n j := by
  have hl := h.len
  have hk := h.low
  have hi : i < l.length := by omega
  have hjl : j < l.length := by omega
  refine ⟨by rw [swap_len]; exact hl, by omega, fun p c hp hpj hc hcn => ?_, fun q c hq hqj hc hcn => ?_⟩
  · rw [lt2_swap less hi hjl, if_neg hpj]
    by_cases hpi : p = i
    · subst hpi
      rw [if_pos rfl]
      by_cases hcj : c = j
      · subst hcj; rw [if_pos rfl]; exact lt2_asym hasym hlt
      · rw [if_neg hcj, if_neg (by omega)]; exact best c hc hcn
    · rw [if_neg hpi]
      by_cases hcj : c = j
      · subst hcj; omega
      · rw [if_neg hcj]
        by_cases hci : c = i
        · subst hci; rw [if_pos rfl]; exact h.above p j hp hc hij hj
        · rw [if_neg hci]; exact h.other p c hp hpi hc hcn
  · obtain rfl : q = i := by omega
    rw [lt2_swap less hi hjl, if_neg (by omega), if_neg (by omega), if_neg (by omega), if_pos rfl]
    exact h.other j c (by omega) (by omega) hc hcn
omit hasym
include hneg
theorem lt2_neg {l : List σ} {a b c : Nat} (hb : b < l.length) (h1 : lt2 less l a b = false) (h2 : lt2 less l b c = false) : lt2 less l a c = false := by
  unfold lt2 at h1 h2 ⊢
  have hb' : l[b]? = some l[b] := List.getElem?_eq_getElem hb
  rw [hb'] at h1 h2
  cases ha : l[a]? <;> cases hc : l[c]? <;> simp_all
  exact hneg _ _ _ h1 h2
theorem hp_stop {l : List σ} {k n i j : Nat} (h : HpD less l k n i) (hj : j < n) (best : ∀ c, (c = 2 * i + 1 ∨ c = 2 * i + 2) → c < n → lt2 less l c j = false) (hlt : lt2 less l j i = false) : Hp less l k n := fun p c hp hc hcn => by
  by_cases hpi : p = i
  · subst hpi; have := h.len; exact lt2_neg hneg (by omega) (best c hc hcn) hlt
  · exact h.other p c hp hpi hc hcn
theorem hp_min {l : List σ} {n : Nat} (hn : n ≤ l.length) (h : Hp less l 0 n) (hirr : ∀ a, less a a = false) : ∀ i, i < n → lt2 less l i 0 = false := by
  intro i
  induction i using Nat.strongRecOn with
  | _ i ih =>
    intro hi
    rcases Nat.eq_zero_or_pos i with rfl | h0
    · unfold lt2; cases l[0]? <;> simp [hirr]
    · have hp : (i - 1) / 2 < i := by omega
      exact lt2_neg hneg (by omega) (h ((i - 1) / 2) i (by omega) (by omega) hi) (ih _ hp (by omega))
omit hneg
theorem hp_leaf {l : List σ} {k n i : Nat} (h : HpD less l k n i) (hn : n ≤ 2 * i + 1) : Hp less l k n := fun p c hp hc hcn => by
  by_cases hpi : p = i
  · subst hpi; omega
  · exact h.other p c hp hpi hc hcn
theorem hp_start {l : List σ} {n : Nat} : Hp less l (n / 2) n := fun p c hp hc hcn => by omega
theorem hp_next {l : List σ} {n i : Nat} (hn : n ≤ l.length) (h : Hp less l (i + 1) n) : HpD less l i n i := ⟨hn, Nat.le_refl _, fun p c hp hpi hc hcn => h p c (by omega) hc hcn, fun q c hq hi => by omega⟩
theorem hp_fix {l l' : List σ} {n : Nat} (hn : n ≤ l'.length) (h : Hp less l 0 n) (hs : ∀ k, 0 < k → k < n → l'[k]? = l[k]?) : HpD less l' 0 n 0 := ⟨hn, Nat.le_refl _, fun p c _ hpi hc hcn => by
  have := h p c (Nat.zero_le _) hc hcn
  unfold lt2 at this ⊢
  rw [hs c (by omega) hcn, hs p (by omega) (by omega)]; exact this, fun q c hq hi => by omega⟩
end heap

/-! ### Entries merged -/
abbrev Pr := En × Nat
def ltP (a b : Pr) : Bool := if lessE a.1 b.1 || lessE b.1 a.1 then lessE a.1 b.1 else decide (a.2 < b.2)
def sameC (x y : En) : Prop := x.key = y.key ∧ x.seq = y.seq
theorem lessE_asym {a b : En} (h : lessE a b = true) : lessE b a = false := by
  cases hb : lessE b a with
  | false => rfl
  | true => have := lessE_trans h hb; rw [lessE_irr] at this; cases this
theorem lessE_congr {a b c : En} (h : sameC a b) : lessE a c = lessE b c ∧ lessE c a = lessE c b := by
  obtain ⟨h1, h2⟩ := h
  constructor
  · rw [Bool.eq_iff_iff, lessE_iff, lessE_iff, h1, h2]
  · rw [Bool.eq_iff_iff, lessE_iff, lessE_iff, h1, h2]
theorem not_less {a b : En} : (lessE a b = false ∧ lessE b a = false) ↔ sameC a b := by
  constructor
  · rintro ⟨h1, h2⟩
    rcases lessE_tri a b with h | h | h
    · rw [h1] at h; cases h
    · exact h
    · rw [h2] at h; cases h
  · intro h
    rw [(lessE_congr h).1, lessE_irr]
    exact ⟨rfl, by rw [(lessE_congr h).2, lessE_irr]⟩
theorem ltP_same {a b : Pr} (h : sameC a.1 b.1) : ltP a b = decide (a.2 < b.2) := by
  obtain ⟨h1, h2⟩ := not_less.2 h
  rw [ltP, h1, h2]; rfl
theorem ltP_diff {a b : Pr} (h : ¬ sameC a.1 b.1) : ltP a b = lessE a.1 b.1 := by
  rw [ltP]; split
  · rfl
  · rename_i h1
    simp only [Bool.or_eq_true, not_or, Bool.not_eq_true] at h1
    exact absurd (not_less.1 h1) h
theorem sameC_dec (x y : En) : sameC x y ∨ ¬ sameC x y := Decidable.em (x.key = y.key ∧ x.seq = y.seq)
theorem sameC.symm {x y : En} (h : sameC x y) : sameC y x := ⟨h.1.symm, h.2.symm⟩
theorem sameC.trans {x y z : En} (h : sameC x y) (k : sameC y z) : sameC x z := ⟨h.1.trans k.1, h.2.trans k.2⟩
theorem ltP_asym (a b : Pr) (h : ltP a b = true) : ltP b a = false := by
  rcases sameC_dec a.1 b.1 with hs | hs
  · rw [ltP_same hs] at h; rw [ltP_same hs.symm]
    have := of_decide_eq_true h; exact decide_eq_false (by omega)
  · rw [ltP_diff hs] at h; rw [ltP_diff fun k => hs k.symm]; exact lessE_asym h
theorem le_trans' {a b c : En} (h1 : lessE a b = false) (h2 : lessE b c = false) : lessE a c = false := by
  cases h : lessE a c with
  | false => rfl
  | true =>
    rcases lessE_tri b a with h3 | h3 | h3
    · rw [lessE_trans h3 h] at h2; cases h2
    · rw [(lessE_congr h3).1] at h2; rw [h2] at h; cases h
    · rw [h3] at h1; cases h1
theorem ltP_neg (a b c : Pr) (h1 : ltP a b = false) (h2 : ltP b c = false) : ltP a c = false := by
  rcases sameC_dec a.1 b.1 with hs | hs
  · rw [ltP_same hs] at h1
    have h1' := of_decide_eq_false h1
    rcases sameC_dec b.1 c.1 with ht | ht
    · rw [ltP_same ht] at h2
      have h2' := of_decide_eq_false h2
      rw [ltP_same (hs.trans ht)]; exact decide_eq_false (by omega)
    · rw [ltP_diff ht] at h2
      rw [ltP_diff fun k => ht (hs.symm.trans k), (lessE_congr hs).1]; exact h2
  · rw [ltP_diff hs] at h1
    rcases sameC_dec b.1 c.1 with ht | ht
    · rw [ltP_diff fun k => hs (k.trans ht.symm), ← (lessE_congr ht).2]; exact h1
    · rw [ltP_diff ht] at h2
      rcases sameC_dec a.1 c.1 with hu | hu
      · have h3 : lessE b.1 a.1 = false := by rw [(lessE_congr hu).2]; exact h2
        exact absurd (not_less.1 ⟨h1, h3⟩) hs
      · rw [ltP_diff hu]; exact le_trans' h1 h2
theorem ltP_irr (a : Pr) : ltP a a = false := by rw [ltP_same ⟨rfl, rfl⟩]; exact decide_eq_false (by omega)
end Go.Proofs.Ytpnckagibkdcpaa


/-
  Sources of entries in a heap, popped one by one: what comes out is the document's merged list. No program in sight.
-/
namespace Go.Proofs.Ytpnckagibkdcpaa

/-- A source. -/
structure SrcA where
  es : List EnA
  Z : Option Addr
  cz : Nat
  place : Nat
def hdP (s : SrcA) : Pr := match s.es with | a :: _ => (a.x, s.place) | [] => (z0, s.place)
def lessS (s t : SrcA) : Bool := ltP (hdP s) (hdP t)
def prs (s : SrcA) : List Pr := s.es.map fun a => (a.x, s.place)
def pairs (srcs : List SrcA) : List Pr := srcs.flatMap prs
structure WfS (srcs : List SrcA) : Prop where
  some : ∀ s ∈ srcs, s.es ≠ []
  ord : ∀ s ∈ srcs, Ord (s.es.map (·.x))
  diff : srcs.Pairwise fun s t => s.place ≠ t.place
theorem WfS.perm {l l' : List SrcA} (h : WfS l) (p : l.Perm l') : WfS l' := ⟨fun s hs => h.some s (p.mem_iff.2 hs), fun s hs => h.ord s (p.mem_iff.2 hs), (p.pairwise_iff fun h => Ne.symm h).1 h.diff⟩
theorem mem_prs {s : SrcA} {y : Pr} : y ∈ prs s ↔ y.1 ∈ s.es.map (·.x) ∧ y.2 = s.place := by
  unfold prs
  constructor
  · intro h
    obtain ⟨a, ha, rfl⟩ := List.mem_map.1 h
    exact ⟨List.mem_map.2 ⟨a, ha, rfl⟩, rfl⟩
  · rintro ⟨h, h2⟩
    obtain ⟨a, ha, hx⟩ := List.mem_map.1 h
    exact List.mem_map.2 ⟨a, ha, by rw [hx, ← h2]⟩
theorem mem_pairs {srcs : List SrcA} {y : Pr} : y ∈ pairs srcs ↔ ∃ s ∈ srcs, y ∈ prs s := List.mem_flatMap
theorem pairs_perm {l l' : List SrcA} (p : l.Perm l') : (pairs l).Perm (pairs l') := p.flatMap_right prs
/-- The rest of a source behind its first entry. -/
def SrcA.tail (s : SrcA) (Z : Option Addr) (cz : Nat) : SrcA := ⟨s.es.tail, Z, cz, s.place⟩
/-- One entry is popped. -/
def PopR (srcs : List SrcA) (a : EnA) (p : Nat) (srcs' : List SrcA) : Prop :=
  ∃ s tl rest Z cz, srcs.Perm (s :: rest) ∧ s.es = a :: tl ∧ s.place = p ∧ (∀ t ∈ srcs, lessS t s = false) ∧ srcs'.Perm (if tl = [] then rest else ⟨tl, Z, cz, p⟩ :: rest)
theorem popR_pairs {srcs srcs' : List SrcA} {a : EnA} {p : Nat} (h : PopR srcs a p srcs') : (pairs srcs).Perm ((a.x, p) :: pairs srcs') := by
  obtain ⟨s, tl, rest, Z, cz, h1, h2, rfl, _, h4⟩ := h
  refine (pairs_perm h1).trans (List.Perm.trans ?_ ((pairs_perm h4).symm.cons _))
  show (prs s ++ pairs rest).Perm _
  have hp : prs s = (a.x, s.place) :: tl.map fun a => (a.x, s.place) := by rw [prs, h2]; rfl
  rw [hp]
  split
  · rename_i h; subst h; exact .refl _
  · exact .refl _
theorem popR_wf {srcs srcs' : List SrcA} {a : EnA} {p : Nat} (hw : WfS srcs) (h : PopR srcs a p srcs') : WfS srcs' := by
  obtain ⟨s, tl, rest, Z, cz, h1, h2, rfl, _, h4⟩ := h
  have hw1 := hw.perm h1
  obtain ⟨hd, hd2⟩ := List.pairwise_cons.1 hw1.diff
  refine WfS.perm ?_ h4.symm
  split
  · exact ⟨fun t ht => hw1.some t (List.mem_cons_of_mem _ ht), fun t ht => hw1.ord t (List.mem_cons_of_mem _ ht), hd2⟩
  · rename_i htl
    have ho := hw1.ord s List.mem_cons_self
    rw [h2, List.map_cons] at ho
    refine ⟨fun t ht => ?_, fun t ht => ?_, List.pairwise_cons.2 ⟨hd, hd2⟩⟩
    · rw [List.mem_cons] at ht
      rcases ht with rfl | ht
      · exact htl
      · exact hw1.some t (List.mem_cons_of_mem _ ht)
    · rw [List.mem_cons] at ht
      rcases ht with rfl | ht
      · exact (List.pairwise_cons.1 ho).2
      · exact hw1.ord t (List.mem_cons_of_mem _ ht)
theorem popR_min {srcs srcs' : List SrcA} {a : EnA} {p : Nat} (hw : WfS srcs) (h : PopR srcs a p srcs') : ∀ y ∈ pairs srcs, ltP y (a.x, p) = false := by
  obtain ⟨s, tl, rest, Z, cz, h1, h2, rfl, h3, _⟩ := h
  intro y hy
  obtain ⟨t, ht, hyt⟩ := mem_pairs.1 hy
  have hs : hdP s = (a.x, s.place) := by rw [hdP, h2]
  have hlt := h3 t ht
  rw [lessS, hs] at hlt
  refine ltP_neg _ _ _ ?_ hlt
  have ho := hw.ord t ht
  cases htes : t.es with
  | nil => exact absurd htes (hw.some t ht)
  | cons b tl2 =>
    have hhd : hdP t = (b.x, t.place) := by rw [hdP, htes]
    rw [hhd]
    rw [htes, List.map_cons] at ho
    obtain ⟨hm, h2'⟩ := mem_prs.1 hyt
    rw [htes, List.map_cons, List.mem_cons] at hm
    rcases hm with hm | hm
    · obtain ⟨y1, y2⟩ := y
      simp only at hm h2'
      subst hm h2'
      exact ltP_irr _
    · have hl := (List.pairwise_cons.1 ho).1 y.1 hm
      refine ltP_asym (b.x, t.place) y ?_
      rw [ltP_diff (a := (b.x, t.place)) (b := y) fun k => ?_]
      · exact hl
      · have := (not_less.2 k).1; rw [hl] at this; cases this
theorem ord_unique {l : List En} (ho : Ord l) {x y : En} (hx : x ∈ l) (hy : y ∈ l) (h : sameC x y) : x = y := by
  obtain ⟨i, hi, rfl⟩ := List.getElem_of_mem hx
  obtain ⟨j, hj, rfl⟩ := List.getElem_of_mem hy
  obtain ⟨n1, n2⟩ := not_less.2 h
  rcases Nat.lt_trichotomy i j with h1 | h1 | h1
  · have := (List.pairwise_iff_getElem.1 ho) i j hi hj h1; rw [n1] at this; cases this
  · subst h1; rfl
  · have := (List.pairwise_iff_getElem.1 ho) j i hj hi h1; rw [n2] at this; cases this
theorem place_unique : ∀ {srcs : List SrcA}, srcs.Pairwise (fun s t => s.place ≠ t.place) → ∀ {s t : SrcA}, s ∈ srcs → t ∈ srcs → s.place = t.place → s = t
  | [], _, _, _, h, _, _ => by simp at h
  | u :: srcs, hd, s, t, hs, ht, h => by
    obtain ⟨h1, h2⟩ := List.pairwise_cons.1 hd
    rw [List.mem_cons] at hs ht
    rcases hs with rfl | hs
    · rcases ht with rfl | ht
      · rfl
      · exact absurd h (h1 t ht)
    · rcases ht with rfl | ht
      · exact absurd h.symm (h1 s hs)
      · exact place_unique h2 hs ht h
theorem pair_unique {srcs : List SrcA} (hw : WfS srcs) {x y : En} {p : Nat} (hx : (x, p) ∈ pairs srcs) (hy : (y, p) ∈ pairs srcs) (h : sameC x y) : x = y := by
  obtain ⟨s, hs, hxs⟩ := mem_pairs.1 hx
  obtain ⟨t, ht, hyt⟩ := mem_pairs.1 hy
  obtain ⟨m1, e1⟩ := mem_prs.1 hxs
  obtain ⟨m2, e2⟩ := mem_prs.1 hyt
  have hst : s = t := place_unique hw.diff hs ht (e1.symm.trans e2)
  subst hst
  exact ord_unique (hw.ord s hs) m1 m2 h
/-- How a stream stands to what the document still awaits. -/
structure Str (srcs : List SrcA) (last : Option En) (left : List En) : Prop where
  wf : WfS srcs
  ord : Ord left
  gt : ∀ z ∈ left, ∀ l, last = some l → lessE l z = true
  low : ∀ y ∈ pairs srcs, ∀ l, last = some l → lessE y.1 l = false
  rep : ∀ z ∈ left, ∃ p, (z, p) ∈ pairs srcs ∧ ∀ y ∈ pairs srcs, sameC y.1 z → p ≤ y.2
  cov : ∀ y ∈ pairs srcs, (∃ z ∈ left, sameC z y.1) ∨ ∃ l, last = some l ∧ sameC l y.1
theorem Str.nil {last : Option En} {left : List En} (h : Str [] last left) : left = [] := by
  cases left with
  | nil => rfl
  | cons z left => obtain ⟨p, hp, _⟩ := h.rep z List.mem_cons_self; simp [pairs] at hp
theorem Str.skip {srcs srcs' : List SrcA} {last : Option En} {left : List En} {a : EnA} {p : Nat} (h : Str srcs last left) (hp : PopR srcs a p srcs') {l : En} (hl : last = some l) (hng : lessE l a.x = false) : Str srcs' last left := by
  have hpp := popR_pairs hp
  have hsub : ∀ y ∈ pairs srcs', y ∈ pairs srcs := fun y hy => hpp.mem_iff.2 (List.mem_cons_of_mem _ hy)
  have hsame : sameC l a.x := not_less.1 ⟨hng, h.low _ (hpp.mem_iff.2 List.mem_cons_self) l hl⟩
  refine ⟨popR_wf h.wf hp, h.ord, h.gt, fun y hy => h.low y (hsub y hy), fun z hz => ?_, fun y hy => h.cov y (hsub y hy)⟩
  obtain ⟨q, hq, hmin⟩ := h.rep z hz
  refine ⟨q, ?_, fun y hy => hmin y (hsub y hy)⟩
  have := hpp.mem_iff.1 hq
  rw [List.mem_cons] at this
  rcases this with he | he
  · exfalso
    have hz2 := h.gt z hz l hl
    have : z = a.x := congrArg Prod.fst he
    rw [this, hng] at hz2; cases hz2
  · exact he
theorem Str.take {srcs srcs' : List SrcA} {last : Option En} {left : List En} {a : EnA} {p : Nat} (h : Str srcs last left) (hp : PopR srcs a p srcs') (hg : ∀ l, last = some l → lessE l a.x = true) {l' : En} (hl' : sameC l' a.x) : ∃ left', left = a.x :: left' ∧ Str srcs' (some l') left' := by
  have hpp := popR_pairs hp
  have hsub : ∀ y ∈ pairs srcs', y ∈ pairs srcs := fun y hy => hpp.mem_iff.2 (List.mem_cons_of_mem _ hy)
  have hain : (a.x, p) ∈ pairs srcs := hpp.mem_iff.2 List.mem_cons_self
  have hmin := popR_min h.wf hp
  have hnl : ∀ l, last = some l → ¬ sameC l a.x := fun l hl hs => by have := hg l hl; rw [(not_less.2 hs).1] at this; cases this
  obtain ⟨z, hz, hzs⟩ : ∃ z ∈ left, sameC z a.x := (h.cov _ hain).resolve_right fun ⟨l, hl, hs⟩ => hnl l hl hs
  cases left with
  | nil => simp at hz
  | cons z0 left' =>
    obtain ⟨ho1, ho2⟩ := List.pairwise_cons.1 h.ord
    obtain ⟨p0, hp0, hm0⟩ := h.rep z0 List.mem_cons_self
    have hz0 : sameC z0 a.x := by
      rw [List.mem_cons] at hz
      rcases hz with rfl | hz
      · exact hzs
      · have hl := ho1 z hz
        rw [(lessE_congr hzs).2] at hl
        have := hmin _ hp0
        rw [ltP_diff (a := (z0, p0)) (b := (a.x, p)) fun k => by have := (not_less.2 k).1; rw [hl] at this; cases this] at this
        rw [hl] at this; cases this
    have hpe : p0 = p := by
      have h1 := hm0 _ hain hz0.symm
      have h2 := hmin _ hp0
      rw [ltP_same (a := (z0, p0)) (b := (a.x, p)) hz0] at h2
      have := of_decide_eq_false h2
      simp only at h1 this; omega
    subst hpe
    obtain rfl : z0 = a.x := pair_unique h.wf hp0 hain hz0
    refine ⟨left', rfl, popR_wf h.wf hp, ho2, fun z hz l hl => ?_, fun y hy l hl => ?_, fun z hz => ?_, fun y hy => ?_⟩
    · cases hl; rw [(lessE_congr hl').1]; exact ho1 z hz
    · cases hl
      rw [(lessE_congr hl').2]
      have := hmin y (hsub y hy)
      rcases sameC_dec y.1 a.x with hs | hs
      · exact (not_less.2 hs).1
      · rwa [ltP_diff (a := y) (b := (a.x, p0)) hs] at this
    · obtain ⟨q, hq, hqm⟩ := h.rep z (List.mem_cons_of_mem _ hz)
      refine ⟨q, ?_, fun y hy => hqm y (hsub y hy)⟩
      have := hpp.mem_iff.1 hq
      rw [List.mem_cons] at this
      rcases this with he | he
      · have : z = a.x := congrArg Prod.fst he
        subst this
        have := ho1 _ hz; rw [lessE_irr] at this; cases this
      · exact he
    · rcases h.cov y (hsub y hy) with ⟨z, hz, hs⟩ | ⟨l, hl, hs⟩
      · rw [List.mem_cons] at hz
        rcases hz with rfl | hz
        · exact .inr ⟨l', rfl, hl'.trans hs⟩
        · exact .inl ⟨z, hz, hs⟩
      · exfalso
        have h1 := hg l hl
        have h2 := hmin y (hsub y hy)
        rw [(lessE_congr hs).1] at h1
        rw [ltP_diff (a := y) (b := (a.x, p0)) fun k => by have := (not_less.2 k).1; rw [h1] at this; cases this] at h2
        rw [h1] at h2; cases h2
/-- The document's merged list. -/
def addM (out : List En) (x : En) : List En := if inE out x then out else insE out x
def mergeE (lists : List (List En)) : List En := lists.foldl (fun out l => l.foldl addM out) []
structure Mrg (done : List Pr) (out : List En) : Prop where
  ord : Ord out
  rep : ∀ z ∈ out, ∃ p, (z, p) ∈ done ∧ ∀ y ∈ done, sameC y.1 z → p ≤ y.2
  cov : ∀ y ∈ done, ∃ z ∈ out, sameC z y.1
theorem ins_mem {out : List En} {x y : En} : y ∈ insE out x ↔ y ∈ out ∨ y = x := by
  rw [insE, List.mem_append, List.mem_append, List.mem_singleton]
  have h : y ∈ out ↔ y ∈ out.take (posE out x out.length) ∨ y ∈ out.drop (posE out x out.length) := by
    rw [← List.mem_append, List.take_append_drop]
  rw [h]
  constructor
  · rintro ((h | h) | h)
    · exact .inl (.inl h)
    · exact .inr h
    · exact .inl (.inr h)
  · rintro ((h | h) | h)
    · exact .inl (.inl h)
    · exact .inr h
    · exact .inl (.inr h)
theorem Mrg.add {done : List Pr} {out : List En} {x : En} {p : Nat} (h : Mrg done out) (hp : ∀ y ∈ done, y.2 ≤ p) : Mrg (done ++ [(x, p)]) (addM out x) := by
  unfold addM
  cases hin : inE out x with
  | true =>
    rw [if_pos rfl]
    obtain ⟨z, hz, hzs⟩ := List.any_eq_true.1 hin
    have hzs : z.key = x.key ∧ z.seq = x.seq := of_decide_eq_true hzs
    have hzs : sameC z x := hzs
    refine ⟨h.ord, fun u hu => ?_, fun y hy => ?_⟩
    · obtain ⟨q, hq, hm⟩ := h.rep u hu
      refine ⟨q, List.mem_append.2 (.inl hq), fun y hy hs => ?_⟩
      rw [List.mem_append] at hy
      rcases hy with hy | hy
      · exact hm y hy hs
      · simp at hy; subst hy; exact hp _ hq
    · rw [List.mem_append] at hy
      rcases hy with hy | hy
      · exact h.cov y hy
      · simp at hy; subst hy; exact ⟨z, hz, hzs⟩
  | false =>
    rw [if_neg (by decide)]
    have hno := inE_false hin
    refine ⟨ins_ord h.ord hin, fun u hu => ?_, fun y hy => ?_⟩
    · rw [ins_mem] at hu
      rcases hu with hu | rfl
      · obtain ⟨q, hq, hm⟩ := h.rep u hu
        refine ⟨q, List.mem_append.2 (.inl hq), fun y hy hs => ?_⟩
        rw [List.mem_append] at hy
        rcases hy with hy | hy
        · exact hm y hy hs
        · simp at hy; subst hy; exact hp _ hq
      · refine ⟨p, List.mem_append.2 (.inr (by simp)), fun y hy hs => ?_⟩
        rw [List.mem_append] at hy
        rcases hy with hy | hy
        · obtain ⟨z, hz, hzs⟩ := h.cov y hy
          exact absurd (hzs.trans hs) (hno z hz)
        · simp at hy; subst hy; exact Nat.le_refl _
    · rw [List.mem_append] at hy
      rcases hy with hy | hy
      · obtain ⟨z, hz, hs⟩ := h.cov y hy
        exact ⟨z, ins_mem.2 (.inl hz), hs⟩
      · simp at hy; subst hy; exact ⟨x, ins_mem.2 (.inr rfl), rfl, rfl⟩
def lprs (l : List En) (p : Nat) : List Pr := l.map fun x => (x, p)
theorem Mrg.addAll {p : Nat} : ∀ {l : List En} {done : List Pr} {out : List En}, Mrg done out → (∀ y ∈ done, y.2 ≤ p) → Mrg (done ++ lprs l p) (l.foldl addM out)
  | [], done, out, h, _ => by simpa [lprs] using h
  | x :: l, done, out, h, hp => by
    have := Mrg.addAll (l := l) (h.add (x := x) hp) fun y hy => by
      rw [List.mem_append] at hy
      rcases hy with hy | hy
      · exact hp y hy
      · simp at hy; subst hy; exact Nat.le_refl _
    simpa [lprs] using this
def allP : List (List En) → Nat → List Pr
  | [], _ => []
  | l :: lists, k => lprs l k ++ allP lists (k + 1)
theorem merge_spec (lists : List (List En)) : Mrg (allP lists 0) (mergeE lists) := by
  have key : ∀ (lists : List (List En)) (k : Nat) (done : List Pr) (out : List En), Mrg done out → (∀ y ∈ done, y.2 ≤ k) → Mrg (done ++ allP lists k) (lists.foldl (fun out l => l.foldl addM out) out) := by
    intro lists
    induction lists with
    | nil => intro k done out h _; simpa [allP] using h
    | cons l lists ih =>
      intro k done out h hk
      have h2 := Mrg.addAll (l := l) h hk
      have := ih (k + 1) _ _ h2 fun y hy => by
        rw [List.mem_append] at hy
        rcases hy with hy | hy
        · exact Nat.le_succ_of_le (hk y hy)
        · obtain ⟨x, _, rfl⟩ := List.mem_map.1 hy; exact Nat.le_succ _
      rwa [List.append_assoc] at this
  have := key lists 0 [] [] ⟨by simp [Ord], by simp, by simp⟩ (by simp)
  rw [List.nil_append] at this
  exact this
theorem mem_allP : ∀ {lists : List (List En)} {k : Nat} {y : Pr}, y ∈ allP lists k ↔ ∃ i l, lists[i]? = some l ∧ y.1 ∈ l ∧ y.2 = k + i
  | [], k, y => by simp [allP]
  | l :: lists, k, y => by
    rw [allP, List.mem_append, mem_allP (lists := lists)]
    constructor
    · rintro (h | ⟨i, l', h1, h2, h3⟩)
      · obtain ⟨x, hx, rfl⟩ := List.mem_map.1 h
        exact ⟨0, l, rfl, hx, rfl⟩
      · exact ⟨i + 1, l', by simpa using h1, h2, by omega⟩
    · rintro ⟨i, l', h1, h2, h3⟩
      cases i with
      | zero =>
        simp at h1; subst h1
        exact .inl (List.mem_map.2 ⟨y.1, h2, by rw [show k = y.2 by omega]⟩)
      | succ i => exact .inr ⟨i, l', by simpa using h1, h2, by omega⟩
/-- A stream that has just been opened. -/
theorem Str.start {lists : List (List En)} {srcs : List SrcA} (hw : WfS srcs) (hp : ∀ y, y ∈ pairs srcs ↔ y ∈ allP lists 0) : Str srcs none (mergeE lists) := by
  have h := merge_spec lists
  refine { wf := hw, ord := h.ord, gt := (fun _ _ _ h => by cases h), low := (fun _ _ _ h => by cases h), rep := fun z hz => ?_, cov := fun y hy => Or.inl (h.cov y ((hp y).1 hy)) }
  obtain ⟨p, hp1, hm⟩ := h.rep z hz
  exact ⟨p, (hp _).2 hp1, fun y hy => hm y ((hp y).1 hy)⟩
/-- Whatever stands ahead of a key has been popped. -/
theorem Str.seek {srcs srcs' : List SrcA} {last : Option En} {left : List En} (h : Str srcs last left) (key : List UInt8) (hw : WfS srcs') (hp : ∀ y, y ∈ pairs srcs' ↔ y ∈ pairs srcs ∧ ¬ cmpB y.1.key key < 0) : Str srcs' last (left.filter fun z => decide (¬ cmpB z.key key < 0)) := by
  refine ⟨hw, h.ord.sublist List.filter_sublist, fun z hz => h.gt z (List.mem_filter.1 hz).1, fun y hy => h.low y ((hp y).1 hy).1, fun z hz => ?_, fun y hy => ?_⟩
  · obtain ⟨hz1, hz2⟩ := List.mem_filter.1 hz
    obtain ⟨p, hp1, hm⟩ := h.rep z hz1
    exact ⟨p, (hp _).2 ⟨hp1, of_decide_eq_true hz2⟩, fun y hy => hm y ((hp y).1 hy).1⟩
  · obtain ⟨hy1, hy2⟩ := (hp y).1 hy
    rcases h.cov y hy1 with ⟨z, hz, hs⟩ | h
    · exact .inl ⟨z, List.mem_filter.2 ⟨hz, decide_eq_true (by rw [hs.1]; exact hy2)⟩, hs⟩
    · exact .inr h
theorem seek_drop (key : List UInt8) : ∀ {left : List En}, Ord left → left.dropWhile (fun z => decide (cmpB z.key key < 0)) = left.filter fun z => decide (¬ cmpB z.key key < 0)
  | [], _ => rfl
  | z :: left, ho => by
    obtain ⟨h1, h2⟩ := List.pairwise_cons.1 ho
    by_cases hc : cmpB z.key key < 0
    · rw [List.dropWhile_cons, if_pos (decide_eq_true hc), List.filter_cons, if_neg (by simpa using hc)]
      exact seek_drop key h2
    · rw [List.dropWhile_cons, if_neg (by simpa using hc), List.filter_eq_self.2 fun y hy => ?_]
      rw [List.mem_cons] at hy
      rcases hy with rfl | hy
      · exact decide_eq_true hc
      · refine decide_eq_true fun hy2 => hc ?_
        have := h1 y hy
        rw [lessE_iff] at this
        rcases this with h | ⟨h, _⟩
        · exact cmp_trans h hy2
        · rw [h]; exact hy2
end Go.Proofs.Ytpnckagibkdcpaa


/-
  Sources of a stream: their types' facts, their memory, and walks over the methods of a heap of sources.
-/
namespace Go.Proofs.Ytpnckagibkdcpaa
open Go.RowKit

theorem sS : StT Try.prog 96 2 := ⟨by kernel_rfl, by kernel_rfl⟩
theorem fa_sS {k : Nat} (h : k < 2) : FieldAt Try.prog 96 k k := by
  match k, h with
  | 0, _ => exact fieldAt_mk Try.underlying96 rfl rfl (by kernel_rfl)
  | 1, _ => exact fieldAt_mk Try.underlying96 rfl rfl (by kernel_rfl)
theorem sM : StT Try.prog 62 2 := ⟨by kernel_rfl, by kernel_rfl⟩
theorem fa_sM {k : Nat} (h : k < 2) : FieldAt Try.prog 62 k k := by
  match k, h with
  | 0, _ => exact fieldAt_mk Try.underlying62 rfl rfl (by kernel_rfl)
  | 1, _ => exact fieldAt_mk Try.underlying62 rfl rfl (by kernel_rfl)
theorem e1_src : Cell1 Try.prog 59 := ⟨by kernel_rfl, by rw [Try.underlying59]⟩
theorem e1_pE : Cell1 Try.prog 60 := ⟨by kernel_rfl, by rw [Try.underlying60]⟩
theorem e1_int : Cell1 Try.prog 3 := ⟨by kernel_rfl, by rw [Try.underlying3]⟩
def zS : List Value := [.slice none 0 0, .int .i64 0]
theorem zeroS : (Try.prog.info? 96).map (·.zero) = some (some (.agg zS.toArray)) := by kernel_rfl
theorem tkS : RowK Try.prog 59 96 2 (.agg zS.toArray) 32 := ⟨Try.underlying59, by kernel_rfl, by simp [zS, Value.cells], by decide⟩

def srcV (s : SrcA) : List Value := [.slice s.Z s.es.length s.cz, .int .i64 (s.place : Int)]
def srcM (s : SrcA) : List Cd := .ce (rowEl 4 (s.es.map fun a => rawEl (eaV a))) [.slice s.Z s.es.length s.cz] :: s.es.flatMap fun a => enOw a.x a.A a.c a.B a.d
/-- The memory of sources. -/
def memC (srcs : List SrcA) : Ck := ⟨fun w S => Sat w (srcs.flatMap srcM) S, fun h hz hm => h.move hz hm⟩
/-- What one reads of a source. -/
structure SrcR (w : World) (s : SrcA) : Prop where
  row : RdR 4 w All s.Z (s.es.map fun a => rawEl (eaV a))
  cap : s.es.length ≤ s.cz
  key : ∀ a ∈ s.es, RdB w a.A a.x.key
  val : ∀ a ∈ s.es, RdB w a.B a.x.val
theorem SrcR.below {w w' : World} {s : SrcA} (h : SrcR w s) (hb : Below w.heap.size w w') : SrcR w' s := ⟨h.row.below hb, h.cap, fun a ha => (h.key a ha).below hb, fun a ha => (h.val a ha).below hb⟩
theorem srcR_of {w : World} {S : BS} {srcs : List SrcA} (h : (memC srcs).P w S) : ∀ s ∈ srcs, SrcR w s := fun s hs => by
  have hm : ∀ c ∈ srcM s, c ∈ srcs.flatMap srcM := fun c hc => List.mem_flatMap.2 ⟨s, hs, hc⟩
  have h : Sat w (srcs.flatMap srcM) S := h
  obtain ⟨T, _, h1⟩ := h.mem (hm _ List.mem_cons_self)
  obtain ⟨_, h3, h4⟩ := rowEl.rd h1
  refine ⟨h4.all, h3, fun a ha => ?_, fun a ha => ?_⟩
  · obtain ⟨T, _, h1⟩ := h.mem (hm (.ow 5 a.A a.x.key.length a.c (bvs a.x.key)) (List.mem_cons_of_mem _ (List.mem_flatMap.2 ⟨a, ha, List.mem_cons_self⟩)))
    exact h1.2.rd
  · obtain ⟨T, _, h1⟩ := h.mem (hm (.ow 5 a.B a.x.val.length a.d (bvs a.x.val)) (List.mem_cons_of_mem _ (List.mem_flatMap.2 ⟨a, ha, List.mem_cons_of_mem _ List.mem_cons_self⟩)))
    exact h1.2.rd
theorem St.mems {M : BS} {w0 w : World} {H : List Cd} {srcs : List SrcA} (hs : St M w0 w H) (i : Nat) (hi : nthC H i = some (.ck (memC srcs))) : ∀ s ∈ srcs, SrcR w s := by
  obtain ⟨T, hc, _⟩ := hs.get i hi
  exact srcR_of hc
abbrev srcEls (srcs : List SrcA) : List El := (srcs.map srcV).map rawEl

theorem lenS_any {Q : Option Addr} {n c : Nat} {w : World} : CallsV Try.prog 97 #[.slice Q n c] w fun v w' => v = .int .i64 (n : Int) ∧ w' = w := by
  refine calls_in (N := _) Try.func97 rfl Try.ntmps97 rfl ?_; show WC _ _ _ _ _ _
  refine wc_sr ?_; refine wl_as rfl rfl ?_; refine wl_ns ?_; refine wc_sr ?_; refine wl_mv rfl rfl ?_; apply wl_val; apply opv_len; exact rfl; exact tkS.sl; exact rfl; refine wl_as rfl rfl ?_; refine wl_ns ?_; refine wc_ret ?_
  exact we_ret1 rfl rfl ⟨_, rfl, rfl, rfl⟩
theorem lessS_any {Q : Option Addr} {n c i j : Nat} {srcs : List SrcA} {s t : SrcA} {w : World} (hQ : RdR 2 w All Q (srcEls srcs)) (hn : srcs.length = n) (hi : srcs[i]? = some s) (hj : srcs[j]? = some t) (hs1 : s.es ≠ []) (ht1 : t.es ≠ []) (rs : SrcR w s) (rt : SrcR w t) :
    CallsV Try.prog 98 #[.slice Q n c, .int .i64 (i : Int), .int .i64 (j : Int)] w fun v w' => v = .bool (lessS s t) ∧ Below w.heap.size w w' := by
  subst hn
  obtain ⟨a, ar, ha⟩ := List.exists_cons_of_ne_nil hs1
  obtain ⟨b, br, hb⟩ := List.exists_cons_of_ne_nil ht1
  have hli := (List.getElem?_eq_some_iff.1 hi).1
  have hlj := (List.getElem?_eq_some_iff.1 hj).1
  have hl0 : 0 < s.es.length := by rw [ha]; simp
  have hl1 : 0 < t.es.length := by rw [hb]; simp
  have ra := rs.key a (by rw [ha]; exact List.mem_cons_self)
  have rb := rt.key b (by rw [hb]; exact List.mem_cons_self)
  obtain ⟨q, o, cs, rfl, _, _, hp, i1⟩ := RdR.at (k := 2) (by decide) hQ (E := rawEl (srcV s)) (i := i) (by rw [List.getElem?_map, List.getElem?_map, hi]; rfl)
  obtain rfl : cs = srcV s := hp
  obtain ⟨_, _, cs, hqq, _, _, hp, i2⟩ := RdR.at (k := 2) (by decide) hQ (E := rawEl (srcV t)) (i := j) (by rw [List.getElem?_map, List.getElem?_map, hj]; rfl)
  cases hqq
  obtain rfl : cs = srcV t := hp
  obtain ⟨b1, o1, cs, hz1, _, _, hp, i3⟩ := RdR.at (k := 4) (by decide) rs.row (E := rawEl (eaV a)) (i := 0) (by rw [List.getElem?_map, ha]; rfl)
  obtain rfl : cs = eaV a := hp
  obtain ⟨b2, o2, cs, hz2, _, _, hp, i4⟩ := RdR.at (k := 4) (by decide) rt.row (E := rawEl (eaV b)) (i := 0) (by rw [List.getElem?_map, hb]; rfl)
  obtain rfl : cs = eaV b := hp
  unfold srcV at i1 i2
  rw [hz1] at i1
  rw [hz2] at i2
  have hs := St.init w
  refine calls_in (N := _) Try.func98 rfl Try.ntmps98 rfl ?_; show WC _ _ _ _ _ _
  refine wc_sr ?_; refine wl_as rfl rfl ?_; refine wl_ns ?_; refine wc_seq ?_
  refine wc_cutE (fun L' w' => ∃ g7 g8, L' = [(0, .slice (some ⟨q, o, none⟩) srcs.length c), (1, .int .i64 (i : Int)), (2, .int .i64 (j : Int)), (7, .pointer (some ⟨g7, 0, none⟩)), (8, .pointer (some ⟨g8, 0, none⟩))] ∧ St NoB w w' [.blk g7 56 (eaV a), .blk g8 56 (eaV b)]) ?_ ?_
  · refine wc_heldM 17 mixed fun w_ hS => ?_
    apply wm_take 0; exact rfl; intro _ hw_; apply opv_move; exact rfl; exact rfl; kernel_rfl; exact hS; apply wm_take 1; exact rfl; intro _ hw_; apply opv_move; exact rfl; exact rfl; kernel_rfl; exact hS; apply wm_take 2; exact rfl; intro _ hw_; apply opv_idxG tkS; exact rfl; exact rfl; exact rfl; omega; exact rfl; kernel_rfl; exact hS; apply wm_take 3; exact rfl; intro _ hw_; apply opv_fa; exact fa_sS (by decide); exact rfl; exact rfl; kernel_rfl; exact hS; apply wm_take 4; exact rfl; intro _ hw_; apply opv_ldW; exact rfl; exact Wi.below (by assumption) hw_; exact e1_row; exact rfl; exact rfl; kernel_rfl; exact hS; apply wm_take 5; exact rfl; intro _ hw_; apply opv_idxG tkE; exact rfl; exact rfl; exact rfl; omega; exact rfl; kernel_rfl; exact hS; apply wm_take 6; exact rfl; intro _ hw_; apply opv_ldG; exact rfl; exact Wi.below (by assumption) hw_; exact sE; exact rfl; kernel_rfl; exact hS; apply wm_take 7; exact rfl; intro _ hw_; apply opv_move; exact rfl; exact rfl; kernel_rfl; exact hS; apply wm_take 8; exact rfl; intro _ hw_; apply opv_move; exact rfl; exact rfl; kernel_rfl; exact hS; apply wm_take 9; exact rfl; intro _ hw_; apply opv_idxG tkS; exact rfl; exact rfl; exact rfl; omega; exact rfl; kernel_rfl; exact hS; apply wm_take 10; exact rfl; intro _ hw_; apply opv_fa; exact fa_sS (by decide); exact rfl; exact rfl; kernel_rfl; exact hS; apply wm_take 11; exact rfl; intro _ hw_; apply opv_ldW; exact rfl; exact Wi.below (by assumption) hw_; exact e1_row; exact rfl; exact rfl; kernel_rfl; exact hS; apply wm_take 12; exact rfl; intro _ hw_; apply opv_idxG tkE; exact rfl; exact rfl; exact rfl; omega; exact rfl; kernel_rfl; exact hS; apply wm_take 13; exact rfl; intro _ hw_; apply opv_ldG; exact rfl; exact Wi.below (by assumption) hw_; exact sE; exact rfl; kernel_rfl; exact hS
    replace hs := hs.below hS
    refine wm_two 14 15 (by kernel_rfl) rfl rfl ?_ ?_ <;> dsimp only [List.getElem_toArray, List.getElem_cons_succ, List.getElem_cons_zero]
    · refine ws_new hs zeroE rfl ?_; clear hs; intro g7 _ hs
      refine wl_nil ?_
      refine we_heldM (fun _ => hs.bel) ?_
      refine wm_one 15 (by kernel_rfl) rfl ?_; dsimp only [List.getElem_toArray, List.getElem_cons_succ, List.getElem_cons_zero]
      refine ws_new hs zeroE rfl ?_; clear hs; intro g8 _ hs
      refine wl_nil ?_
      refine we_heldM (fun _ => hs.bel) ?_
      refine wm_one 16 (by kernel_rfl) rfl ?_; dsimp only [List.getElem_toArray, List.getElem_cons_succ, List.getElem_cons_zero]
      apply ws_stS hs 1; exact rfl; exact rfl; exact rfl; exact sE; exact rfl; exact rfl; clear hs; intro _ hs; dsimp only [setC] at hs; refine wl_nil ?_
      refine we_heldM (fun _ => hs.bel) ?_
      refine wm_one 17 (by kernel_rfl) rfl ?_; dsimp only [List.getElem_toArray, List.getElem_cons_succ, List.getElem_cons_zero]
      apply ws_stS hs 0; exact rfl; exact rfl; exact rfl; exact sE; exact rfl; exact rfl; clear hs; intro _ hs; dsimp only [setC] at hs; refine wl_nil ?_
      refine we_heldM (fun h => absurd h (by decide)) ?_
      refine wm_done (by kernel_rfl) ?_
      exact we_cut _ ⟨g7, g8, rfl, hs.front 1 rfl⟩ ⟨rfl, rfl, rfl, rfl, rfl, trivial⟩
    · refine ws_new hs zeroE rfl ?_; clear hs; intro g8 _ hs
      refine wl_nil ?_
      refine we_heldM (fun _ => hs.bel) ?_
      refine wm_one 14 (by kernel_rfl) rfl ?_; dsimp only [List.getElem_toArray, List.getElem_cons_succ, List.getElem_cons_zero]
      refine ws_new hs zeroE rfl ?_; clear hs; intro g7 _ hs
      refine wl_nil ?_
      refine we_heldM (fun _ => hs.bel) ?_
      refine wm_one 16 (by kernel_rfl) rfl ?_; dsimp only [List.getElem_toArray, List.getElem_cons_succ, List.getElem_cons_zero]
      apply ws_stS hs 0; exact rfl; exact rfl; exact rfl; exact sE; exact rfl; exact rfl; clear hs; intro _ hs; dsimp only [setC] at hs; refine wl_nil ?_
      refine we_heldM (fun _ => hs.bel) ?_
      refine wm_one 17 (by kernel_rfl) rfl ?_; dsimp only [List.getElem_toArray, List.getElem_cons_succ, List.getElem_cons_zero]
      apply ws_stS hs 1; exact rfl; exact rfl; exact rfl; exact sE; exact rfl; exact rfl; clear hs; intro _ hs; dsimp only [setC] at hs; refine wl_nil ?_
      refine we_heldM (fun h => absurd h (by decide)) ?_
      refine wm_done (by kernel_rfl) ?_
      exact we_cut _ ⟨g7, g8, rfl, hs⟩ ⟨rfl, rfl, rfl, rfl, rfl, trivial⟩
  clear hs
  rintro _ w2 ⟨g7, g8, rfl, hs⟩
  have hls : lessS s t = (if lessE a.x b.x || lessE b.x a.x then lessE a.x b.x else decide (s.place < t.place)) := by rw [lessS, hdP, hdP, ha, hb]; rfl
  refine we_seq ?_; refine wc_seq ?_; refine wc_sr ?_; apply wl_val; apply opv_loadX; exact rfl; exact hs.ar 0 rfl; exact sE; exact rfl; apply wl_val; apply opv_loadX; exact rfl; exact hs.ar 1 rfl; exact sE; exact rfl
  refine wl_call ok_mem_Less (less_any (x := a.x) (y := b.x) (ra.below hs.bel) (rb.below hs.bel)) ⟨rfl, rfl, trivial⟩ rfl ?_; rintro _ _ ⟨rfl, hbx⟩; replace hs := hs.below hbx; try dsimp only [List.cons_append, List.nil_append, setC, delC] at hs
  cases h1 : lessE a.x b.x with
  | true =>
    rw [h1, Bool.true_or, if_pos rfl] at hls
    refine wl_mv rfl rfl ?_; apply wl_skip; exact rfl; exact rfl; exact rfl; exact bR1; exact rfl; apply wl_skip; exact rfl; exact rfl; exact rfl; exact bR1; exact rfl; apply wl_skip; exact rfl; exact rfl; exact rfl; exact bR1; exact rfl; apply wl_val; apply opv_pickT; exact rfl; exact rfl; exact rfl; exact rfl; refine wl_ns ?_; apply wc_condTb; exact rfl; exact rfl; refine wc_sr ?_; apply wl_val; apply opv_loadX; exact rfl; exact hs.ar 0 rfl; exact sE; exact rfl; apply wl_val; apply opv_loadX; exact rfl; exact hs.ar 1 rfl; exact sE; exact rfl
    refine wl_call ok_mem_Less (less_any (x := a.x) (y := b.x) (ra.below hs.bel) (rb.below hs.bel)) ⟨rfl, rfl, trivial⟩ rfl ?_; rintro _ _ ⟨rfl, hbx⟩; replace hs := hs.below hbx; try dsimp only [List.cons_append, List.nil_append, setC, delC] at hs
    refine wl_as rfl rfl ?_; refine wl_ns ?_; refine wc_ret ?_; refine we_seq_ret ?_
    exact we_ret1 rfl rfl ⟨_, rfl, by rw [hls, h1], hs.bel⟩
  | false =>
    rw [h1, Bool.false_or] at hls
    refine wl_mv rfl rfl ?_; apply wl_take; exact rfl; exact rfl; exact rfl; exact rfl; apply wl_val; apply opv_loadX; exact rfl; exact hs.ar 1 rfl; exact sE; exact rfl; apply wl_take; exact rfl; exact rfl; exact rfl; exact rfl; apply wl_val; apply opv_loadX; exact rfl; exact hs.ar 0 rfl; exact sE; exact rfl; apply wl_take; exact rfl; exact rfl; exact rfl; exact rfl
    refine wl_call ok_mem_Less (less_any (x := b.x) (y := a.x) (rb.below hs.bel) (ra.below hs.bel)) ⟨rfl, rfl, trivial⟩ rfl ?_; rintro _ _ ⟨rfl, hbx⟩; replace hs := hs.below hbx; try dsimp only [List.cons_append, List.nil_append, setC, delC] at hs
    cases h2 : lessE b.x a.x with
    | true =>
      rw [h2, if_pos rfl] at hls
      apply wl_val; apply opv_pickF; exact rfl; exact rfl; exact rfl; exact rfl; refine wl_ns ?_; apply wc_condTb; exact rfl; exact rfl; refine wc_sr ?_; apply wl_val; apply opv_loadX; exact rfl; exact hs.ar 0 rfl; exact sE; exact rfl; apply wl_val; apply opv_loadX; exact rfl; exact hs.ar 1 rfl; exact sE; exact rfl
      refine wl_call ok_mem_Less (less_any (x := a.x) (y := b.x) (ra.below hs.bel) (rb.below hs.bel)) ⟨rfl, rfl, trivial⟩ rfl ?_; rintro _ _ ⟨rfl, hbx⟩; replace hs := hs.below hbx; try dsimp only [List.cons_append, List.nil_append, setC, delC] at hs
      refine wl_as rfl rfl ?_; refine wl_ns ?_; refine wc_ret ?_; refine we_seq_ret ?_
      exact we_ret1 rfl rfl ⟨_, rfl, by rw [hls, h1], hs.bel⟩
    | false =>
      rw [h2, if_neg (by decide)] at hls
      replace i1 := i1.below hs.bel
      replace i2 := i2.below hs.bel
      apply wl_val; apply opv_pickF; exact rfl; exact rfl; exact rfl; exact rfl; refine wl_ns ?_; apply wc_condFb; exact rfl; exact rfl; refine wc_skip ?_; refine we_seq ?_; refine wc_seq ?_
      refine wc_drawB mixed (by kernel_rfl) ?_
      apply wq_val; intro _ hw_; apply opv_move; exact rfl; exact rfl; apply wq_val; intro _ hw_; apply opv_move; exact rfl; exact rfl; apply wq_val; intro _ hw_; apply opv_idxG tkS; exact rfl; exact rfl; exact rfl; omega; exact rfl; apply wq_val; intro _ hw_; apply opv_fa; exact fa_sS (by decide); exact rfl; exact rfl; apply wq_val; intro _ hw_; apply opv_ldW; exact rfl; exact Wi.below (by assumption) hw_; exact e1_int; exact rfl; exact rfl; apply wq_val; intro _ hw_; apply opv_move; exact rfl; exact rfl; apply wq_val; intro _ hw_; apply opv_move; exact rfl; exact rfl; apply wq_val; intro _ hw_; apply opv_idxG tkS; exact rfl; exact rfl; exact rfl; omega; exact rfl; apply wq_val; intro _ hw_; apply opv_fa; exact fa_sS (by decide); exact rfl; exact rfl; apply wq_val; intro _ hw_; apply opv_ldW; exact rfl; exact Wi.below (by assumption) hw_; exact e1_int; exact rfl; exact rfl; apply wq_val; intro _ hw_; apply opv_bin; exact rfl; exact rfl; exact bin_lss; exact rfl; apply wq_val; intro _ hw_; apply opv_assign; exact rfl; exact rfl; refine wq_nil fun w1 hw1 => ?_
      replace hs := hs.below hw1
      refine we_seq ?_; refine wc_ret ?_
      exact we_ret1 rfl rfl ⟨_, rfl, by rw [hls]; congr 1; exact decide_eq_decide.2 (by omega), hs.bel⟩
end Go.Proofs.Ytpnckagibkdcpaa


/-
  Walks over Swap and Pop of a heap of sources, and over the library's heap at such a heap.
-/
namespace Go.Proofs.Ytpnckagibkdcpaa
open Go.RowKit

theorem srcV_one (s : SrcA) : (srcV s).all (·.oneCell') = true := rfl
theorem srcEls_set {srcs : List SrcA} {i : Nat} {s : SrcA} : ((srcs.map srcV).set i (srcV s)).map rawEl = srcEls (srcs.set i s) := by simp only [srcEls, List.map_set]
theorem swapS_any {S : BS} {Q : Option Addr} {n c i j : Nat} {srcs : List SrcA} {w : World} (h0 : Sat w [.rg 2 96 Q c (srcEls srcs)] S) (hn : srcs.length = n) (hi : i < n) (hj : j < n) :
    CallsV Try.prog 99 #[.slice Q n c, .int .i64 (i : Int), .int .i64 (j : Int)] w fun v w' => v = .tuple #[] ∧ St S w w' [.rg 2 96 Q c (srcEls (swapL srcs i j))] := by
  subst hn
  have hs := St.start h0
  obtain ⟨s, hs1⟩ : ∃ s, srcs[i]? = some s := ⟨_, List.getElem?_eq_getElem hi⟩
  obtain ⟨t, ht1⟩ : ∃ s, srcs[j]? = some s := ⟨_, List.getElem?_eq_getElem hj⟩
  have hsw : swapL srcs i j = (srcs.set i t).set j s := by rw [swapL, hs1, ht1]
  obtain ⟨q, hq⟩ := (h0.front (i := 0) rfl).elim fun T h => OwR.form h.2.1.2 (by simp; omega)
  obtain ⟨_, _, cs, hqq, _, _, hp, i1⟩ := RdR.at (k := 2) (by decide) (OwR.rd (hs.rg 0 rfl)) (E := rawEl (srcV s)) (i := i) (by rw [List.getElem?_map, List.getElem?_map, hs1]; rfl)
  obtain rfl : cs = srcV s := hp
  rw [hq] at hqq; cases hqq
  obtain ⟨_, _, cs, hqq, _, _, hp, i2⟩ := RdR.at (k := 2) (by decide) (OwR.rd (hs.rg 0 rfl)) (E := rawEl (srcV t)) (i := j) (by rw [List.getElem?_map, List.getElem?_map, ht1]; rfl)
  obtain rfl : cs = srcV t := hp
  rw [hq] at hqq; cases hqq
  subst hq
  refine calls_in (N := _) Try.func99 rfl Try.ntmps99 rfl ?_; show WC _ _ _ _ _ _
  refine wc_heldM 13 mixed fun w_ hS => ?_
  apply wm_take 0; exact rfl; intro _ hw_; apply opv_move; exact rfl; exact rfl; kernel_rfl; exact hS; apply wm_take 1; exact rfl; intro _ hw_; apply opv_move; exact rfl; exact rfl; kernel_rfl; exact hS; apply wm_takeP 2; exact rfl; intro _; apply opv_move; exact rfl; exact rfl; kernel_rfl; exact fun _ => hS; apply wm_takeP 3; exact rfl; intro _; apply opv_move; exact rfl; exact rfl; kernel_rfl; exact fun _ => hS; apply wm_take 4; exact rfl; intro _ hw_; apply opv_move; exact rfl; exact rfl; kernel_rfl; exact hS; apply wm_take 5; exact rfl; intro _ hw_; apply opv_move; exact rfl; exact rfl; kernel_rfl; exact hS; apply wm_take 6; exact rfl; intro _ hw_; apply opv_idxG tkS; exact rfl; exact rfl; exact rfl; omega; exact rfl; kernel_rfl; exact hS; apply wm_take 7; exact rfl; intro _ hw_; apply opv_ldG; exact rfl; exact Wi.below (by assumption) hw_; exact sS; exact rfl; kernel_rfl; exact hS; apply wm_takeP 8; exact rfl; intro _; apply opv_move; exact rfl; exact rfl; kernel_rfl; exact fun _ => hS; apply wm_takeP 9; exact rfl; intro _; apply opv_move; exact rfl; exact rfl; kernel_rfl; exact fun _ => hS; apply wm_takeP 10; exact rfl; intro _; apply opv_idxG tkS; exact rfl; exact rfl; exact rfl; omega; exact rfl; kernel_rfl; exact fun _ => hS; apply wm_take 11; exact rfl; intro _ hw_; apply opv_ldG; exact rfl; exact Wi.below (by assumption) hw_; exact sS; exact rfl; kernel_rfl; exact hS; apply wm_take 12; exact rfl; intro _ hw_; apply opv_idxG tkS; exact rfl; exact rfl; exact rfl; omega; exact rfl; kernel_rfl; exact hS
  replace hs := hs.below hS
  refine wm_one 13 (by kernel_rfl) rfl ?_; dsimp only [List.getElem_toArray, List.getElem_cons_succ, List.getElem_cons_zero]
  refine ws_stRS (p := i) (cs' := srcV t) hs 0 rfl rfl rfl sS (by omega) (by simpa using hi) rfl rfl (srcV_one t) ?_
  clear hs; intro _ hs; dsimp only [setC] at hs; rw [srcEls_set] at hs
  refine wl_nil ?_
  refine we_heldM (fun h => absurd h (by decide)) ?_
  apply wm_takeP 14; exact rfl; intro _; apply opv_idxG tkS; exact rfl; exact rfl; exact rfl; omega; exact rfl; kernel_rfl; exact fun h => absurd h (by decide)
  refine wm_one 15 (by kernel_rfl) rfl ?_; dsimp only [List.getElem_toArray, List.getElem_cons_succ, List.getElem_cons_zero]
  refine ws_stRS (p := j) (cs' := srcV s) hs 0 rfl rfl rfl sS (by omega) (by simpa using hj) rfl rfl (srcV_one s) ?_
  clear hs; intro _ hs; dsimp only [setC] at hs; rw [srcEls_set] at hs
  refine wl_nil ?_
  refine we_heldM (fun h => absurd h (by decide)) ?_
  refine wm_done (by kernel_rfl) ?_
  skip
  exact we_end0 rfl ⟨_, rfl, rfl, by rw [hsw]; exact hs⟩

/-- The pieces of a heap of sources. -/
def hpP (g : Nat) (Q : Option Addr) (c : Nat) (last : Value) (mem srcs : List SrcA) : List Cd := [.rg 2 96 Q c (srcEls srcs), .blk g 62 [.slice Q srcs.length c, last], .ck (memC mem)]
def hpV (g : Nat) : Value := .iface 98 (.pointer (some ⟨g, 0, none⟩))
section
variable {w : World} {g : Nat} {u last : Value}
theorem hpLen (h : Ar w g 62 [u, last]) : MethV Try.prog w 98 (.pointer (some ⟨g, 0, none⟩)) "Len" 97 u := methV_val (by kernel_rfl) Try.underlying98 e1_src ((h.cell 0).trans rfl)
theorem hpLess (h : Ar w g 62 [u, last]) : MethV Try.prog w 98 (.pointer (some ⟨g, 0, none⟩)) "Less" 98 u := methV_val (by kernel_rfl) Try.underlying98 e1_src ((h.cell 0).trans rfl)
theorem hpSwap (h : Ar w g 62 [u, last]) : MethV Try.prog w 98 (.pointer (some ⟨g, 0, none⟩)) "Swap" 99 u := methV_val (by kernel_rfl) Try.underlying98 e1_src ((h.cell 0).trans rfl)
theorem hpPop (w : World) (v : Value) : MethV Try.prog w 98 v "Pop" 100 v := methV_ptr (by kernel_rfl) Try.underlying98
end
theorem popS_any {S : BS} {Q : Option Addr} {g c n : Nat} {last : Value} {mem srcs : List SrcA} {s : SrcA} {w : World} (h0 : Sat w (hpP g Q c last mem srcs) S) (hn : srcs.length = n + 1) (hl : srcs[n]? = some s) (hle : n ≤ 1000000) :
    CallsV Try.prog 100 #[.pointer (some ⟨g, 0, none⟩)] w fun v w' => v = .iface 96 (.agg (srcV s).toArray) ∧ St S w w' (hpP g Q c last mem (srcs.take n)) := by
  have hs := St.start h0
  have hcap : srcs.length ≤ c := by have := (h0.front (i := 0) rfl).elim fun T h => OwR.len_le h.2.1.2; simpa using this
  obtain ⟨q, hq⟩ := (h0.front (i := 0) rfl).elim fun T h => OwR.form h.2.1.2 (by simp; omega)
  obtain ⟨_, _, cs, hqq, _, _, hp, i1⟩ := RdR.at (k := 2) (by decide) (OwR.rd (hs.rg 0 rfl)) (E := rawEl (srcV s)) (i := n) (by rw [List.getElem?_map, List.getElem?_map, hl]; rfl)
  obtain rfl : cs = srcV s := hp
  rw [hq] at hqq; cases hqq
  subst hq
  unfold hpP at hs
  rw [hn] at hs hcap
  refine calls_in (N := _) Try.func100 rfl Try.ntmps100 rfl ?_; show WC _ _ _ _ _ _
  refine wc_sr ?_; refine wl_as rfl rfl ?_; refine wl_ns ?_; refine wc_sr ?_; refine wl_mv rfl rfl ?_; apply wl_val; apply opv_nilOk; exact rfl; exact rfl; apply wl_val; apply opv_ldX; exact rfl; exact hs.ar 1 rfl; exact e1_src; exact rfl; exact rfl; refine wl_as rfl rfl ?_; refine wl_ns ?_; refine wc_sr ?_; refine wl_mv rfl rfl ?_; refine wl_mv rfl rfl ?_; apply wl_val; apply opv_len; exact rfl; exact tkS.sl; exact rfl; apply wl_val; apply opv_bin; exact rfl; exact rfl; exact bin_sub64 (by omega); exact rfl
  refine wl_val (opv_idxG (kk := n) tkS rfl rfl (by omega) (by omega)) rfl ?_
  apply wl_val; apply opv_ldG; exact rfl; assumption; exact sS; exact rfl
  refine ws_new hs zeroS rfl ?_; clear hs; intro g4 _ hs
  apply ws_stS hs 0; exact rfl; exact rfl; exact rfl; exact sS; exact rfl; exact rfl; clear hs; intro _ hs; dsimp only [setC] at hs; refine wl_ns ?_; refine wc_sr ?_; refine wl_mv rfl rfl ?_; refine wl_mv rfl rfl ?_; refine wl_mv rfl rfl ?_; apply wl_val; apply opv_len; exact rfl; exact tkS.sl; exact rfl; apply wl_val; apply opv_bin; exact rfl; exact rfl; exact bin_sub64 (by omega); exact rfl
  refine wl_slK (l := 0) (h := n) tkS rfl rfl ⟨_, congrArg (fun q => some (Value.int .i64 q)) (natc_pred (k := n))⟩ (by omega) (by omega) rfl ?_
  rw [cutK_zero]
  apply wl_val; apply opv_nilOk; exact rfl; exact rfl; apply ws_st hs 2; exact rfl; exact rfl; exact e1_src; exact rfl; exact rfl; exact rfl; clear hs; intro _ hs; dsimp only [setC, List.set] at hs; refine wl_ns ?_; refine wc_sr ?_; apply wl_val; apply opv_loadX; exact rfl; exact hs.ar 0 rfl; exact sS; exact rfl; apply wl_val; apply opv_mkI; kernel_rfl; exact rfl; exact rfl; refine wl_as rfl rfl ?_; refine wl_ns ?_; refine wc_ret ?_
  have hs := hs.drop 0 rfl
  have hs := St.pre (m := n) hs (by simp; omega)
  have hl2 : (srcs.take n).length = n := by rw [List.length_take]; omega
  rw [show (srcEls srcs).take n = srcEls (srcs.take n) by simp [srcEls, List.map_take]] at hs
  exact we_ret1 rfl rfl ⟨_, rfl, rfl, by unfold hpP; rw [hl2]; exact hs⟩
theorem lessS_asym (a b : SrcA) (h : lessS a b = true) : lessS b a = false := ltP_asym _ _ h
theorem lessS_neg (a b c : SrcA) (h : lessS a b = false) (h2 : lessS b c = false) : lessS a c = false := ltP_neg _ _ _ h h2
theorem lessS_irr (a : SrcA) : lessS a a = false := ltP_irr _
theorem lt2_irr (l : List SrcA) (i : Nat) : lt2 lessS l i i = false := by unfold lt2; cases l[i]? <;> simp [lessS_irr]
set_option maxRecDepth 8000 in
theorem down_any {S : BS} {g c k i0 n : Nat} {Q : Option Addr} {last : Value} {mem srcs : List SrcA} {w : World} (h0 : Sat w (hpP g Q c last mem srcs) S) (hgood0 : ∀ j, j < n → ∃ s, srcs[j]? = some s ∧ s ∈ mem ∧ s.es ≠ []) (hD0 : HpD lessS srcs k n i0) (hlen : srcs.length ≤ 1000000) (hi0 : i0 ≤ 1000000) :
    CallsV Try.prog 74 #[hpV g, .int .i64 (i0 : Int), .int .i64 (n : Int)] w fun v w' => ∃ b srcs', v = .bool b ∧ St S w w' (hpP g Q c last mem srcs') ∧ srcs'.Perm srcs ∧ Hp lessS srcs' k n ∧ ∀ j, n ≤ j → srcs'[j]? = srcs[j]? := by
  have hs := St.start h0
  refine calls_in (N := _) Try.func74 rfl Try.ntmps74 rfl ?_; show WC _ _ _ _ _ _
  refine wc_sr ?_; refine wl_as rfl rfl ?_; refine wl_ns ?_; refine wc_sr ?_; refine wl_mv rfl rfl ?_; refine wl_as rfl rfl ?_; refine wl_ns ?_; refine wc_seq ?_; refine wc_block ?_
  refine wc_loop (fun L wr mm => ∃ (i : Nat) (cur : List SrcA), L = [(0, hpV g), (1, .int .i64 (i0 : Int)), (2, .int .i64 (n : Int)), (7, .int .i64 (i : Int))] ∧ St S w wr (hpP g Q c last mem cur) ∧ cur.Perm srcs ∧ HpD lessS cur k n i ∧ (∀ j, j < n → ∃ s, cur[j]? = some s ∧ s ∈ mem ∧ s.es ≠ []) ∧ (∀ j, n ≤ j → cur[j]? = srcs[j]?) ∧ i ≤ 1000000 ∧ mm = 1000001 - i)
    [(0, hpV g), (1, .int .i64 (i0 : Int)), (2, .int .i64 (n : Int)), (7, .int .i64 (i0 : Int))] (1000001 - i0) ⟨i0, srcs, rfl, hs, .refl _, hD0, hgood0, fun _ _ => rfl, hi0, rfl⟩ ⟨rfl, rfl, rfl, rfl, trivial⟩ ?_
  clear hs
  rintro _ w1 mm ⟨i, cur, rfl, hs, hp, hD, hgood, hsame, hi, rfl⟩
  have hlc := hp.length_eq
  have hnl := hD.len
  by_cases h1 : n ≤ 2 * i + 1
  · have h1' : (n : Int) ≤ ((2 * i + 1 : Nat) : Int) := by omega
    refine wc_block ?_; refine wc_sr ?_; refine wl_mv rfl rfl ?_; apply wl_val; apply opv_bin; exact rfl; exact rfl; exact bin_mulN2 (by omega); exact rfl; apply wl_val; apply opv_bin; exact rfl; exact rfl; exact bin_addN1 (by omega); exact rfl; refine wl_as rfl rfl ?_; refine wl_ns ?_; refine wc_seq ?_; refine wc_sr ?_; refine wl_mv rfl rfl ?_; refine wl_mv rfl rfl ?_; refine wl_bin rfl rfl bin_geq rfl ?_; refine wl_mv rfl rfl ?_; apply wl_skip; exact rfl; exact rfl; exact rfl; refine bTn ?_; (with_reducible assumption); exact rfl; apply wl_skip; exact rfl; exact rfl; exact rfl; refine bTn ?_; (with_reducible assumption); exact rfl; apply wl_val; apply opv_pickT; exact rfl; refine bT ?_; (with_reducible assumption); exact rfl; exact rfl; refine wl_ns ?_; apply wc_condTb; exact rfl; exact rfl; refine wc_exit ?_; refine we_seq_exit ?_; apply we_block_pass; exact rfl; refine we_loop_exit ?_; refine we_block_exit ?_; refine we_seq ?_; refine wc_sr ?_; refine wl_mv rfl rfl ?_; refine wl_mv rfl rfl ?_; refine wl_bin rfl rfl bin_gtr rfl ?_; refine wl_as rfl rfl ?_; refine wl_ns ?_; refine wc_ret ?_
    exact we_ret1 rfl rfl ⟨_, rfl, _, cur, rfl, hs, hp, hp_leaf hD h1, hsame⟩
  have h1' : ¬ (n : Int) ≤ ((2 * i + 1 : Nat) : Int) := by omega
  have h1'' : ¬ ((2 * i + 1 : Nat) : Int) < 0 := by omega
  obtain ⟨si, hsi, hmi, hei⟩ := hgood i (by omega)
  unfold hpV
  by_cases h2 : 2 * i + 1 + 1 < n
  · have h2' : ((2 * i + 1 + 1 : Nat) : Int) < (n : Int) := by omega
    obtain ⟨s1, hs1, hm1, he1⟩ := hgood (2 * i + 1) (by omega)
    obtain ⟨s2, hs2, hm2, he2⟩ := hgood (2 * i + 1 + 1) (by omega)
    refine wc_block ?_; refine wc_sr ?_; refine wl_mv rfl rfl ?_; apply wl_val; apply opv_bin; exact rfl; exact rfl; exact bin_mulN2 (by omega); exact rfl; apply wl_val; apply opv_bin; exact rfl; exact rfl; exact bin_addN1 (by omega); exact rfl; refine wl_as rfl rfl ?_; refine wl_ns ?_; refine wc_seq ?_; refine wc_sr ?_; refine wl_mv rfl rfl ?_; refine wl_mv rfl rfl ?_; refine wl_bin rfl rfl bin_geq rfl ?_; refine wl_mv rfl rfl ?_; apply wl_take; exact rfl; exact rfl; exact rfl; refine bF ?_; (with_reducible assumption); refine wl_mv rfl rfl ?_; apply wl_take; exact rfl; exact rfl; exact rfl; refine bF ?_; (with_reducible assumption); refine wl_bin rfl rfl bin_lss rfl ?_; apply wl_val; apply opv_pickF; exact rfl; refine bF ?_; (with_reducible assumption); exact rfl; exact rfl; refine wl_ns ?_; apply wc_condFb; exact rfl; exact rfl; refine wc_skip ?_; refine we_seq ?_; refine wc_sr ?_; refine wl_mv rfl rfl ?_; refine wl_as rfl rfl ?_; refine wl_ns ?_; refine wc_seq ?_; refine wc_sr ?_; refine wl_mv rfl rfl ?_; apply wl_val; apply opv_bin; exact rfl; exact rfl; exact bin_addN1 (by omega); exact rfl; refine wl_as rfl rfl ?_; refine wl_ns ?_; refine wc_sr ?_; refine wl_mv rfl rfl ?_; refine wl_mv rfl rfl ?_; refine wl_bin rfl rfl bin_lss rfl ?_; refine wl_mv rfl rfl ?_; apply wl_take; exact rfl; exact rfl; exact rfl; refine bT ?_; (with_reducible assumption); refine wl_mv rfl rfl ?_; apply wl_take; exact rfl; exact rfl; exact rfl; refine bT ?_; (with_reducible assumption); refine wl_mv rfl rfl ?_; apply wl_take; exact rfl; exact rfl; exact rfl; refine bT ?_; (with_reducible assumption); refine wl_mv rfl rfl ?_; apply wl_take; exact rfl; exact rfl; exact rfl; refine bT ?_; (with_reducible assumption)
    refine wl_inv ok_merge_sources_Less (hpLess (hs.ar 1 rfl)) (lessS_any (OwR.rd (hs.rg 0 rfl)) rfl hs2 hs1 he2 he1 (hs.mems 2 rfl _ hm2) (hs.mems 2 rfl _ hm1)) rfl ⟨rfl, rfl, trivial⟩ rfl ?_
    rintro _ w2 ⟨rfl, hbx⟩
    replace hs := hs.below hbx
    cases hl21 : lessS s2 s1 with
    | true =>
      have hjn : 2 * i + 1 + 1 < n := h2
      have best : ∀ x, (x = 2 * i + 1 ∨ x = 2 * i + 2) → x < n → lt2 lessS cur x (2 * i + 1 + 1) = false := fun x hx hxn => by
        rcases hx with rfl | rfl
        · rw [lt2, hs1, hs2]; exact lessS_asym _ _ hl21
        · exact lt2_irr _ _
      apply wl_val; apply opv_pickT; exact rfl; refine bT ?_; (with_reducible assumption); exact rfl; exact rfl; refine wl_ns ?_; apply wc_condTb; exact rfl; exact rfl; refine wc_region ?_; refine wl_mv rfl rfl ?_; refine wl_as rfl rfl ?_; refine wl_ns ?_; refine wc_seq ?_; refine wc_sr ?_; refine wl_mv rfl rfl ?_; refine wl_mv rfl rfl ?_; refine wl_mv rfl rfl ?_
      obtain ⟨sj, hsj, hmj, hej⟩ := hgood (2 * i + 1 + 1) hjn
      refine wl_inv ok_merge_sources_Less (hpLess (hs.ar 1 rfl)) (lessS_any (OwR.rd (hs.rg 0 rfl)) rfl hsj hsi hej hei (hs.mems 2 rfl _ hmj) (hs.mems 2 rfl _ hmi)) rfl ⟨rfl, rfl, trivial⟩ rfl ?_
      rintro _ w3 ⟨rfl, hbx⟩
      replace hs := hs.below hbx
      cases hlt : lessS sj si with
      | false =>
        apply wl_val; apply opv_not; exact rfl; exact rfl; refine wl_ns ?_; apply wc_condTb; exact rfl; exact Bool.not_false; refine wc_exit ?_; refine we_seq_exit ?_; apply we_block_pass; exact rfl; refine we_loop_exit ?_; refine we_block_exit ?_; refine we_seq ?_; refine wc_sr ?_; refine wl_mv rfl rfl ?_; refine wl_mv rfl rfl ?_; refine wl_bin rfl rfl bin_gtr rfl ?_; refine wl_as rfl rfl ?_; refine wl_ns ?_; refine wc_ret ?_
        exact we_ret1 rfl rfl ⟨_, rfl, _, cur, rfl, hs, hp, hp_stop lessS_neg hD hjn best (by rw [lt2, hsj, hsi]; exact hlt), hsame⟩
      | true =>
        apply wl_val; apply opv_not; exact rfl; exact rfl; refine wl_ns ?_; apply wc_condFb; exact rfl; exact Bool.not_true; refine wc_skip ?_; refine we_seq ?_; refine wc_sr ?_; refine wl_mv rfl rfl ?_; refine wl_mv rfl rfl ?_; refine wl_mv rfl rfl ?_
        obtain ⟨S2, hS2, _, _, _, hB⟩ := St.lend (H1 := [.rg 2 96 Q c (srcEls cur)]) (H2 := [.blk g 62 [.slice Q cur.length c, last], .ck (memC mem)]) hs
        refine wl_inv ok_merge_sources_Swap (hpSwap (hs.ar 1 rfl)) (swapS_any hS2 rfl (show i < cur.length by omega) (show 2 * i + 1 + 1 < cur.length by omega)) rfl ⟨rfl, rfl, trivial⟩ rfl ?_
        rintro _ w4 ⟨rfl, hsx⟩
        replace hs := hB _ _ hsx
        have hD2 := hp_step lessS_asym hD (by omega) hjn best (by rw [lt2, hsj, hsi]; exact hlt)
        have hl2 := swap_len cur i (2 * i + 1 + 1)
        have hp2 := (swap_perm (show i < cur.length by omega) (show 2 * i + 1 + 1 < cur.length by omega)).trans hp
        have hg2 : ∀ x, x < n → ∃ s, (swapL cur i (2 * i + 1 + 1))[x]? = some s ∧ s ∈ mem ∧ s.es ≠ [] := fun x hx => by
          rw [swap_get (by omega) (by omega)]
          split
          · exact hgood i (by omega)
          · split
            · exact hgood _ hjn
            · exact hgood x hx
        have hq2 : ∀ x, n ≤ x → (swapL cur i (2 * i + 1 + 1))[x]? = srcs[x]? := fun x hx => by
          rw [swap_get (by omega) (by omega), if_neg (by omega), if_neg (by omega)]; exact hsame x hx
        rw [← hl2] at hs
        refine wl_ns ?_; refine wc_region ?_; refine wl_mv rfl rfl ?_; refine wl_as rfl rfl ?_; refine wl_nil ?_; refine we_block_norm ?_
        refine we_loop _ (1000001 - (2 * i + 1 + 1)) ⟨2 * i + 1 + 1, swapL cur i (2 * i + 1 + 1), rfl, hs, hp2, hD2, hg2, hq2, by omega, rfl⟩ (by omega) ⟨rfl, rfl, rfl, by simp [lookT], trivial⟩
    | false =>
      have hjn : 2 * i + 1 < n := by omega
      have best : ∀ x, (x = 2 * i + 1 ∨ x = 2 * i + 2) → x < n → lt2 lessS cur x (2 * i + 1) = false := fun x hx hxn => by
        rcases hx with rfl | rfl
        · exact lt2_irr _ _
        · rw [lt2, hs2, hs1]; exact hl21
      apply wl_val; apply opv_pickT; exact rfl; refine bT ?_; (with_reducible assumption); exact rfl; exact rfl; refine wl_ns ?_; apply wc_condFb; exact rfl; exact rfl; refine wc_skip ?_; refine we_seq ?_; refine wc_seq ?_; refine wc_sr ?_; refine wl_mv rfl rfl ?_; refine wl_mv rfl rfl ?_; refine wl_mv rfl rfl ?_
      obtain ⟨sj, hsj, hmj, hej⟩ := hgood (2 * i + 1) hjn
      refine wl_inv ok_merge_sources_Less (hpLess (hs.ar 1 rfl)) (lessS_any (OwR.rd (hs.rg 0 rfl)) rfl hsj hsi hej hei (hs.mems 2 rfl _ hmj) (hs.mems 2 rfl _ hmi)) rfl ⟨rfl, rfl, trivial⟩ rfl ?_
      rintro _ w3 ⟨rfl, hbx⟩
      replace hs := hs.below hbx
      cases hlt : lessS sj si with
      | false =>
        apply wl_val; apply opv_not; exact rfl; exact rfl; refine wl_ns ?_; apply wc_condTb; exact rfl; exact Bool.not_false; refine wc_exit ?_; refine we_seq_exit ?_; apply we_block_pass; exact rfl; refine we_loop_exit ?_; refine we_block_exit ?_; refine we_seq ?_; refine wc_sr ?_; refine wl_mv rfl rfl ?_; refine wl_mv rfl rfl ?_; refine wl_bin rfl rfl bin_gtr rfl ?_; refine wl_as rfl rfl ?_; refine wl_ns ?_; refine wc_ret ?_
        exact we_ret1 rfl rfl ⟨_, rfl, _, cur, rfl, hs, hp, hp_stop lessS_neg hD hjn best (by rw [lt2, hsj, hsi]; exact hlt), hsame⟩
      | true =>
        apply wl_val; apply opv_not; exact rfl; exact rfl; refine wl_ns ?_; apply wc_condFb; exact rfl; exact Bool.not_true; refine wc_skip ?_; refine we_seq ?_; refine wc_sr ?_; refine wl_mv rfl rfl ?_; refine wl_mv rfl rfl ?_; refine wl_mv rfl rfl ?_
        obtain ⟨S2, hS2, _, _, _, hB⟩ := St.lend (H1 := [.rg 2 96 Q c (srcEls cur)]) (H2 := [.blk g 62 [.slice Q cur.length c, last], .ck (memC mem)]) hs
        refine wl_inv ok_merge_sources_Swap (hpSwap (hs.ar 1 rfl)) (swapS_any hS2 rfl (show i < cur.length by omega) (show 2 * i + 1 < cur.length by omega)) rfl ⟨rfl, rfl, trivial⟩ rfl ?_
        rintro _ w4 ⟨rfl, hsx⟩
        replace hs := hB _ _ hsx
        have hD2 := hp_step lessS_asym hD (by omega) hjn best (by rw [lt2, hsj, hsi]; exact hlt)
        have hl2 := swap_len cur i (2 * i + 1)
        have hp2 := (swap_perm (show i < cur.length by omega) (show 2 * i + 1 < cur.length by omega)).trans hp
        have hg2 : ∀ x, x < n → ∃ s, (swapL cur i (2 * i + 1))[x]? = some s ∧ s ∈ mem ∧ s.es ≠ [] := fun x hx => by
          rw [swap_get (by omega) (by omega)]
          split
          · exact hgood i (by omega)
          · split
            · exact hgood _ hjn
            · exact hgood x hx
        have hq2 : ∀ x, n ≤ x → (swapL cur i (2 * i + 1))[x]? = srcs[x]? := fun x hx => by
          rw [swap_get (by omega) (by omega), if_neg (by omega), if_neg (by omega)]; exact hsame x hx
        rw [← hl2] at hs
        refine wl_ns ?_; refine wc_region ?_; refine wl_mv rfl rfl ?_; refine wl_as rfl rfl ?_; refine wl_nil ?_; refine we_block_norm ?_
        refine we_loop _ (1000001 - (2 * i + 1)) ⟨2 * i + 1, swapL cur i (2 * i + 1), rfl, hs, hp2, hD2, hg2, hq2, by omega, rfl⟩ (by omega) ⟨rfl, rfl, rfl, by simp [lookT], trivial⟩
  · have h2' : ¬ ((2 * i + 1 + 1 : Nat) : Int) < (n : Int) := by omega
    have hjn : 2 * i + 1 < n := by omega
    have best : ∀ x, (x = 2 * i + 1 ∨ x = 2 * i + 2) → x < n → lt2 lessS cur x (2 * i + 1) = false := fun x hx hxn => by
      rcases hx with rfl | rfl
      · exact lt2_irr _ _
      · omega
    refine wc_block ?_; refine wc_sr ?_; refine wl_mv rfl rfl ?_; apply wl_val; apply opv_bin; exact rfl; exact rfl; exact bin_mulN2 (by omega); exact rfl; apply wl_val; apply opv_bin; exact rfl; exact rfl; exact bin_addN1 (by omega); exact rfl; refine wl_as rfl rfl ?_; refine wl_ns ?_; refine wc_seq ?_; refine wc_sr ?_; refine wl_mv rfl rfl ?_; refine wl_mv rfl rfl ?_; refine wl_bin rfl rfl bin_geq rfl ?_; refine wl_mv rfl rfl ?_; apply wl_take; exact rfl; exact rfl; exact rfl; refine bF ?_; (with_reducible assumption); refine wl_mv rfl rfl ?_; apply wl_take; exact rfl; exact rfl; exact rfl; refine bF ?_; (with_reducible assumption); refine wl_bin rfl rfl bin_lss rfl ?_; apply wl_val; apply opv_pickF; exact rfl; refine bF ?_; (with_reducible assumption); exact rfl; exact rfl; refine wl_ns ?_; apply wc_condFb; exact rfl; exact rfl; refine wc_skip ?_; refine we_seq ?_; refine wc_sr ?_; refine wl_mv rfl rfl ?_; refine wl_as rfl rfl ?_; refine wl_ns ?_; refine wc_seq ?_; refine wc_sr ?_; refine wl_mv rfl rfl ?_; apply wl_val; apply opv_bin; exact rfl; exact rfl; exact bin_addN1 (by omega); exact rfl; refine wl_as rfl rfl ?_; refine wl_ns ?_; refine wc_sr ?_; refine wl_mv rfl rfl ?_; refine wl_mv rfl rfl ?_; refine wl_bin rfl rfl bin_lss rfl ?_; refine wl_mv rfl rfl ?_; apply wl_skip; exact rfl; exact rfl; exact rfl; refine bFn ?_; (with_reducible assumption); exact rfl; apply wl_skip; exact rfl; exact rfl; exact rfl; refine bFn ?_; (with_reducible assumption); exact rfl; apply wl_skip; exact rfl; exact rfl; exact rfl; refine bFn ?_; (with_reducible assumption); exact rfl; apply wl_skip; exact rfl; exact rfl; exact rfl; refine bFn ?_; (with_reducible assumption); exact rfl; apply wl_val; apply opv_pickF; exact rfl; refine bF ?_; (with_reducible assumption); exact rfl; exact rfl; refine wl_ns ?_; apply wc_condFb; exact rfl; exact rfl; refine wc_skip ?_; refine we_seq ?_; refine wc_seq ?_; refine wc_sr ?_; refine wl_mv rfl rfl ?_; refine wl_mv rfl rfl ?_; refine wl_mv rfl rfl ?_
    obtain ⟨sj, hsj, hmj, hej⟩ := hgood (2 * i + 1) hjn
    refine wl_inv ok_merge_sources_Less (hpLess (hs.ar 1 rfl)) (lessS_any (OwR.rd (hs.rg 0 rfl)) rfl hsj hsi hej hei (hs.mems 2 rfl _ hmj) (hs.mems 2 rfl _ hmi)) rfl ⟨rfl, rfl, trivial⟩ rfl ?_
    rintro _ w3 ⟨rfl, hbx⟩
    replace hs := hs.below hbx
    cases hlt : lessS sj si with
    | false =>
      apply wl_val; apply opv_not; exact rfl; exact rfl; refine wl_ns ?_; apply wc_condTb; exact rfl; exact Bool.not_false; refine wc_exit ?_; refine we_seq_exit ?_; apply we_block_pass; exact rfl; refine we_loop_exit ?_; refine we_block_exit ?_; refine we_seq ?_; refine wc_sr ?_; refine wl_mv rfl rfl ?_; refine wl_mv rfl rfl ?_; refine wl_bin rfl rfl bin_gtr rfl ?_; refine wl_as rfl rfl ?_; refine wl_ns ?_; refine wc_ret ?_
      exact we_ret1 rfl rfl ⟨_, rfl, _, cur, rfl, hs, hp, hp_stop lessS_neg hD hjn best (by rw [lt2, hsj, hsi]; exact hlt), hsame⟩
    | true =>
      apply wl_val; apply opv_not; exact rfl; exact rfl; refine wl_ns ?_; apply wc_condFb; exact rfl; exact Bool.not_true; refine wc_skip ?_; refine we_seq ?_; refine wc_sr ?_; refine wl_mv rfl rfl ?_; refine wl_mv rfl rfl ?_; refine wl_mv rfl rfl ?_
      obtain ⟨S2, hS2, _, _, _, hB⟩ := St.lend (H1 := [.rg 2 96 Q c (srcEls cur)]) (H2 := [.blk g 62 [.slice Q cur.length c, last], .ck (memC mem)]) hs
      refine wl_inv ok_merge_sources_Swap (hpSwap (hs.ar 1 rfl)) (swapS_any hS2 rfl (show i < cur.length by omega) (show 2 * i + 1 < cur.length by omega)) rfl ⟨rfl, rfl, trivial⟩ rfl ?_
      rintro _ w4 ⟨rfl, hsx⟩
      replace hs := hB _ _ hsx
      have hD2 := hp_step lessS_asym hD (by omega) hjn best (by rw [lt2, hsj, hsi]; exact hlt)
      have hl2 := swap_len cur i (2 * i + 1)
      have hp2 := (swap_perm (show i < cur.length by omega) (show 2 * i + 1 < cur.length by omega)).trans hp
      have hg2 : ∀ x, x < n → ∃ s, (swapL cur i (2 * i + 1))[x]? = some s ∧ s ∈ mem ∧ s.es ≠ [] := fun x hx => by
        rw [swap_get (by omega) (by omega)]
        split
        · exact hgood i (by omega)
        · split
          · exact hgood _ hjn
          · exact hgood x hx
      have hq2 : ∀ x, n ≤ x → (swapL cur i (2 * i + 1))[x]? = srcs[x]? := fun x hx => by
        rw [swap_get (by omega) (by omega), if_neg (by omega), if_neg (by omega)]; exact hsame x hx
      rw [← hl2] at hs
      refine wl_ns ?_; refine wc_region ?_; refine wl_mv rfl rfl ?_; refine wl_as rfl rfl ?_; refine wl_nil ?_; refine we_block_norm ?_
      refine we_loop _ (1000001 - (2 * i + 1)) ⟨2 * i + 1, swapL cur i (2 * i + 1), rfl, hs, hp2, hD2, hg2, hq2, by omega, rfl⟩ (by omega) ⟨rfl, rfl, rfl, by simp [lookT], trivial⟩
end Go.Proofs.Ytpnckagibkdcpaa


/-
  Walks over the library's Init, Pop and Fix at a heap of sources.
-/
namespace Go.Proofs.Ytpnckagibkdcpaa
open Go.RowKit

theorem init_any {S : BS} {g c : Nat} {Q : Option Addr} {last : Value} {mem srcs : List SrcA} {w : World} (h0 : Sat w (hpP g Q c last mem srcs) S) (hgood0 : ∀ s ∈ srcs, s ∈ mem ∧ s.es ≠ []) (hlen : srcs.length ≤ 1000000) :
    CallsV Try.prog 62 #[hpV g] w fun v w' => v = .tuple #[] ∧ ∃ srcs', St S w w' (hpP g Q c last mem srcs') ∧ srcs'.Perm srcs ∧ Hp lessS srcs' 0 srcs.length := by
  have hs := St.start h0
  refine calls_in (N := _) Try.func62 rfl Try.ntmps62 rfl ?_; show WC _ _ _ _ _ _
  unfold hpV
  refine wc_sr ?_; refine wl_mv rfl rfl ?_
  refine wl_inv ok_merge_sources_Len (hpLen (hs.ar 1 rfl)) lenS_any rfl trivial rfl ?_
  rintro _ w' ⟨rfl, hw⟩
  rw [hw]
  clear hw w'
  refine wl_as rfl rfl ?_; refine wl_ns ?_; refine wc_sr ?_; refine wl_mv rfl rfl ?_; apply wl_val; apply opv_bin; exact rfl; exact rfl; exact bin_quoN2 (by omega); exact rfl; apply wl_val; apply opv_bin; exact rfl; exact rfl; exact bin_sub64 (by omega); exact rfl; refine wl_as rfl rfl ?_; refine wl_ns ?_; refine wc_block ?_
  refine wc_loop (fun L wr mm => ∃ (m : Nat) (cur : List SrcA), L = [(0, hpV g), (2, .int .i64 (srcs.length : Int)), (3, .int .i64 ((m : Int) - 1))] ∧ St S w wr (hpP g Q c last mem cur) ∧ cur.Perm srcs ∧ Hp lessS cur m srcs.length ∧ m ≤ srcs.length ∧ mm = m)
    [(0, hpV g), (2, .int .i64 (srcs.length : Int)), (3, .int .i64 (((srcs.length / 2 : Nat) : Int) - 1))] (srcs.length / 2) ⟨srcs.length / 2, srcs, rfl, hs, .refl _, hp_start, by omega, rfl⟩ ⟨rfl, rfl, rfl, trivial⟩ ?_
  clear hs
  rintro _ w1 mm ⟨m, cur, rfl, hs, hp, hH, hm, rfl⟩
  have hlc := hp.length_eq
  cases mm with
  | zero =>
    have h1 : ¬ (0 : Int) ≤ ((0 : Nat) : Int) - 1 := by omega
    refine wc_seq ?_; refine wc_sr ?_; refine wl_mv rfl rfl ?_; refine wl_bin rfl rfl bin_geq rfl ?_; refine wl_ns ?_; apply wc_condFb; exact rfl; exact rfl; refine wc_exit ?_; refine we_seq_exit ?_; refine we_loop_exit ?_; refine we_block_exit ?_
    exact we_end0 rfl ⟨_, rfl, rfl, cur, hs, hp, hH⟩
  | succ m =>
    rw [natc_pred]
    have h1 : (0 : Int) ≤ (m : Int) := by omega
    refine wc_seq ?_; refine wc_sr ?_; refine wl_mv rfl rfl ?_; refine wl_bin rfl rfl bin_geq rfl ?_; refine wl_ns ?_; apply wc_condTb; exact rfl; exact rfl; refine wc_skip ?_; refine we_seq ?_; refine wc_seq ?_; refine wc_block ?_; refine wc_region ?_; refine wl_mv rfl rfl ?_; refine wl_mv rfl rfl ?_; refine wl_mv rfl rfl ?_
    obtain ⟨S2, hS2, _, _, _, hB⟩ := St.lend (H1 := hpP g Q c last mem cur) (H2 := []) (by rw [List.append_nil]; exact hs)
    refine wl_call ok_container_heap_down (down_any (k := m) (i0 := m) (n := srcs.length) hS2 (fun j hj => ⟨_, List.getElem?_eq_getElem (by omega), hgood0 _ (hp.mem_iff.1 (List.getElem_mem (by omega)))⟩) (hp_next (by omega) hH) (by omega) (by omega)) ⟨rfl, rfl, rfl, trivial⟩ rfl ?_
    rintro _ w2 ⟨b, cur2, rfl, hsx, hp2, hH2, _⟩
    replace hs := hB _ _ hsx
    rw [List.append_nil] at hs
    refine wl_nil ?_; refine we_block_norm ?_; refine we_seq ?_; refine wc_region ?_; refine wl_mv rfl rfl ?_; apply wl_val; apply opv_bin; exact rfl; exact rfl; exact bin_sub64 (by omega); exact rfl; refine wl_as rfl rfl ?_; refine wl_nil ?_
    refine we_loop _ m ⟨m, cur2, rfl, hs, hp2.trans hp, hH2, by omega, rfl⟩ (by omega) ⟨rfl, rfl, by simp [lookT], trivial⟩
theorem bin_quoM {P : Program} {t : TypeId} : BinV P .quo t (.int .i64 (0 - 1)) (.int .i64 2) (.int .i64 0) := .mk fun x y w => rfl
theorem up_any {g : Nat} {w : World} : CallsV Try.prog 78 #[hpV g, .int .i64 0] w fun v w' => v = .tuple #[] ∧ w' = w := by
  refine calls_in (N := _) Try.func78 rfl Try.ntmps78 rfl ?_; show WC _ _ _ _ _ _
  refine wc_block ?_
  refine wc_loop (fun L wr mm => L = [(0, hpV g), (1, .int .i64 0)] ∧ wr = w ∧ mm = 0) [(0, hpV g), (1, .int .i64 0)] 0 ⟨rfl, rfl, rfl⟩ ⟨rfl, rfl, trivial⟩ ?_
  rintro _ _ _ ⟨rfl, rfl, rfl⟩
  refine wc_block ?_; refine wc_sr ?_; refine wl_mv rfl rfl ?_; apply wl_val; apply opv_bin; exact rfl; exact rfl; exact bin_sub64 (by omega); exact rfl
  refine wl_bin rfl rfl bin_quoM rfl ?_
  refine wl_as rfl rfl ?_; refine wl_ns ?_; refine wc_seq ?_; refine wc_sr ?_; refine wl_mv rfl rfl ?_; refine wl_mv rfl rfl ?_; refine wl_bin rfl rfl bin_eql rfl ?_; refine wl_mv rfl rfl ?_; apply wl_skip; exact rfl; exact rfl; exact rfl; refine bTn ?_; (with_reducible rfl); exact rfl; apply wl_skip; exact rfl; exact rfl; exact rfl; refine bTn ?_; (with_reducible rfl); exact rfl; apply wl_skip; exact rfl; exact rfl; exact rfl; refine bTn ?_; (with_reducible rfl); exact rfl; apply wl_skip; exact rfl; exact rfl; exact rfl; refine bTn ?_; (with_reducible rfl); exact rfl; apply wl_skip; exact rfl; exact rfl; exact rfl; refine bTn ?_; (with_reducible rfl); exact rfl; apply wl_val; apply opv_pickT; exact rfl; refine bT ?_; (with_reducible rfl); exact rfl; exact rfl; refine wl_ns ?_; apply wc_condTb; exact rfl; exact rfl; refine wc_exit ?_; refine we_seq_exit ?_; apply we_block_pass; exact rfl; refine we_loop_exit ?_; refine we_block_exit ?_
  exact we_end0 rfl ⟨_, rfl, rfl, rfl⟩
theorem fix_any {S : BS} {g c : Nat} {Q : Option Addr} {last : Value} {mem srcs l : List SrcA} {w : World} (h0 : Sat w (hpP g Q c last mem srcs) S) (hgood0 : ∀ s ∈ srcs, s ∈ mem ∧ s.es ≠ []) (hlen : srcs.length ≤ 1000000) (hH : Hp lessS l 0 srcs.length) (hll : ∀ k, 0 < k → k < srcs.length → srcs[k]? = l[k]?) :
    CallsV Try.prog 72 #[hpV g, .int .i64 0] w fun v w' => v = .tuple #[] ∧ ∃ srcs', St S w w' (hpP g Q c last mem srcs') ∧ srcs'.Perm srcs ∧ Hp lessS srcs' 0 srcs.length := by
  have hs := St.start h0
  refine calls_in (N := _) Try.func72 rfl Try.ntmps72 rfl ?_; show WC _ _ _ _ _ _
  unfold hpV
  refine wc_sr ?_; refine wl_mv rfl rfl ?_; refine wl_mv rfl rfl ?_; refine wl_mv rfl rfl ?_
  refine wl_inv ok_merge_sources_Len (hpLen (hs.ar 1 rfl)) lenS_any rfl trivial rfl ?_
  rintro _ w' ⟨rfl, hw⟩
  rw [hw]
  clear hw w'
  skip
  obtain ⟨S2, hS2, _, _, _, hB⟩ := St.lend (H1 := hpP g Q c last mem srcs) (H2 := []) (by rw [List.append_nil]; exact hs)
  refine wl_call ok_container_heap_down (down_any (k := 0) (i0 := 0) (n := srcs.length) hS2 (fun j hj => ⟨_, List.getElem?_eq_getElem hj, hgood0 _ (List.getElem_mem hj)⟩) (hp_fix (Nat.le_refl _) hH hll) (by omega) (by omega)) ⟨rfl, rfl, rfl, trivial⟩ rfl ?_
  rintro _ w2 ⟨b, cur2, rfl, hsx, hp2, hH2, _⟩
  replace hs := hB _ _ hsx
  rw [List.append_nil] at hs
  cases b with
  | true =>
    apply wl_val; apply opv_not; exact rfl; exact rfl; refine wl_ns ?_; apply wc_condFb; exact rfl; exact Bool.not_true; refine wc_skip ?_
    exact we_end0 rfl ⟨_, rfl, rfl, cur2, hs, hp2, hH2⟩
  | false =>
    apply wl_val; apply opv_not; exact rfl; exact rfl; refine wl_ns ?_; apply wc_condTb; exact rfl; exact Bool.not_false; refine wc_region ?_; refine wl_mv rfl rfl ?_; refine wl_mv rfl rfl ?_
    refine wl_call ok_container_heap_up up_any ⟨rfl, rfl, trivial⟩ rfl ?_
    rintro _ w' ⟨rfl, hw⟩
    rw [hw]
    refine wl_nil ?_
    exact we_end0 rfl ⟨_, rfl, rfl, cur2, hs, hp2, hH2⟩
theorem lt2_take {l : List SrcA} {n i j : Nat} (hi : i < n) (hj : j < n) : lt2 lessS (l.take n) i j = lt2 lessS l i j := by
  unfold lt2
  rw [List.getElem?_take, List.getElem?_take, if_pos hi, if_pos hj]
theorem hpop_any {S : BS} {g c n : Nat} {Q : Option Addr} {last : Value} {mem srcs l : List SrcA} {s : SrcA} {w : World} (h0 : Sat w (hpP g Q c last mem srcs) S) (hn : srcs.length = n + 1) (h1 : srcs[0]? = some s) (hgood0 : ∀ j, 0 < j → j < n + 1 → ∃ s, srcs[j]? = some s ∧ s ∈ mem ∧ s.es ≠ []) (hlen : n ≤ 100000) (hH : Hp lessS l 0 (n + 1)) (hll : ∀ k, 0 < k → k < n + 1 → srcs[k]? = l[k]?) :
    CallsV Try.prog 71 #[hpV g] w fun v w' => v = .iface 96 (.agg (srcV s).toArray) ∧ ∃ srcs', St S w w' (hpP g Q c last mem srcs') ∧ srcs.Perm (s :: srcs') ∧ Hp lessS srcs' 0 n := by
  have hs := St.start h0
  refine calls_in (N := _) Try.func71 rfl Try.ntmps71 rfl ?_; show WC _ _ _ _ _ _
  unfold hpV
  refine wc_sr ?_; refine wl_as rfl rfl ?_; refine wl_ns ?_; refine wc_sr ?_; refine wl_mv rfl rfl ?_
  refine wl_inv ok_merge_sources_Len (hpLen (hs.ar 1 rfl)) lenS_any rfl trivial rfl ?_
  rintro _ w' ⟨rfl, hw⟩
  rw [hw]
  clear hw w'
  rw [hn]
  refine wl_bin rfl rfl (bin_sub64 (by omega)) rfl ?_
  rw [natc_pred]
  refine wl_as rfl rfl ?_; refine wl_ns ?_; refine wc_sr ?_; refine wl_mv rfl rfl ?_; refine wl_mv rfl rfl ?_
  obtain ⟨S2, hS2, _, _, _, hB⟩ := St.lend (H1 := [.rg 2 96 Q c (srcEls srcs)]) (H2 := [.blk g 62 [.slice Q srcs.length c, last], .ck (memC mem)]) hs
  refine wl_inv ok_merge_sources_Swap (hpSwap (hs.ar 1 rfl)) (swapS_any hS2 rfl (show 0 < srcs.length by omega) (show n < srcs.length by omega)) rfl ⟨rfl, rfl, trivial⟩ rfl ?_
  rintro _ w4 ⟨rfl, hsx⟩
  replace hs := hB _ _ hsx
  have hl2 := swap_len srcs 0 n
  have hget := fun k => swap_get (l := srcs) (i := 0) (j := n) (by omega) (by omega) k
  have hp2 := swap_perm (l := srcs) (i := 0) (j := n) (by omega) (by omega)
  obtain ⟨cur, hcur⟩ : ∃ q, swapL srcs 0 n = q := ⟨_, rfl⟩
  rw [hcur] at hl2 hget hp2 hs
  rw [← hl2] at hs
  clear hB hsx hS2
  refine wl_ns ?_; refine wc_sr ?_; refine wl_mv rfl rfl ?_; refine wl_mv rfl rfl ?_
  obtain ⟨S2, hS2, _, _, _, hB⟩ := St.lend (H1 := hpP g Q c last mem cur) (H2 := []) (by rw [List.append_nil]; exact hs)
  refine wl_call ok_container_heap_down (down_any (k := 0) (i0 := 0) (n := n) hS2 (fun j hj => ?_) (hp_fix (l := l) (by omega) (fun p j hp hc hj => hH p j hp hc (by omega)) fun k hk hkn => ?_) (by omega) (by omega)) ⟨rfl, rfl, rfl, trivial⟩ rfl ?_
  · rw [hget, if_neg (by omega)]
    split
    · exact hgood0 n (by omega) (by omega)
    · exact hgood0 j (by omega) (by omega)
  · rw [hget, if_neg (by omega), if_neg (by omega)]; exact hll k hk (by omega)
  rintro _ w2 ⟨b, cur2, rfl, hsx, hp3, hH2, hsame⟩
  replace hs := hB _ _ hsx
  rw [List.append_nil] at hs
  have hl3 := hp3.length_eq
  have hlast : cur2[n]? = some s := by rw [hsame n (Nat.le_refl _), hget, if_pos rfl]; exact h1
  clear hB hsx hS2
  refine wl_ns ?_; refine wc_sr ?_; refine wl_mv rfl rfl ?_
  obtain ⟨S2, hS2, _, _, _, hB⟩ := St.lend (H1 := hpP g Q c last mem cur2) (H2 := []) (by rw [List.append_nil]; exact hs)
  refine wl_inv ok_merge_sources_Pop (hpPop _ _) (popS_any hS2 (by omega) hlast (by omega)) rfl trivial rfl ?_
  rintro _ w5 ⟨rfl, hsx⟩
  replace hs := hB _ _ hsx
  rw [List.append_nil] at hs
  refine wl_as rfl rfl ?_; refine wl_ns ?_; refine wc_ret ?_
  refine we_ret1 rfl rfl ⟨_, rfl, rfl, cur2.take n, hs, ?_, fun p j hp hc hj => by rw [lt2_take (by omega) (by omega)]; exact hH2 p j hp hc hj⟩
  have h4 : cur2 = cur2.take n ++ [s] := by
    have h5 := List.take_append_drop n cur2
    have h6 : cur2.drop n = [s] := by
      have hlt : n < cur2.length := by omega
      rw [List.drop_eq_getElem_cons hlt, List.drop_of_length_le (by omega)]
      congr 1
      rw [List.getElem?_eq_getElem hlt] at hlast
      exact Option.some.inj hlast
    rw [h6] at h5; exact h5.symm
  have h7 : cur2.Perm (s :: cur2.take n) := by
    conv => lhs; rw [h4]
    exact List.perm_append_singleton _ _
  exact (hp3.trans hp2).symm.trans h7
end Go.Proofs.Ytpnckagibkdcpaa


/-
  Walks over a stream's pop, Next and Seek.
-/
namespace Go.Proofs.Ytpnckagibkdcpaa
open Go.RowKit

theorem wi_of {M : BS} {w0 w : World} {H : List Cd} {q c j : Nat} {srcs : List SrcA} {s : SrcA} (hs : St M w0 w H) (i : Nat) (hi : nthC H i = some (.rg 2 96 (some ⟨q, 0, none⟩) c (srcEls srcs))) (hj : srcs[j]? = some s) : Wi w q (0 + j * 2) (srcV s) := by
  obtain ⟨_, _, cs, hqq, _, _, hp, i1⟩ := RdR.at (k := 2) (by decide) (OwR.rd (hs.rg i hi)) (E := rawEl (srcV s)) (i := j) (by rw [List.getElem?_map, List.getElem?_map, hj]; rfl)
  obtain rfl : cs = srcV s := hp
  cases hqq
  exact i1
/-- The source behind its first entry. -/
def tailS (s : SrcA) (tl : List EnA) : SrcA := ⟨tl, cutK s.Z s.cz 1 4, s.cz - 1, s.place⟩
theorem mem_split {w : World} {S : BS} {mem rest : List SrcA} {s : SrcA} {a : EnA} {tl : List EnA} (h : (memC mem).P w S) (hp : mem.Perm (s :: rest)) (ha : s.es = a :: tl) : Sat w (enOw a.x a.A a.c a.B a.d ++ [.ck (memC (tailS s tl :: rest))]) S ∧ Sat w (enOw a.x a.A a.c a.B a.d ++ [.ck (memC rest)]) S := by
  have h : Sat w (mem.flatMap srcM) S := h
  have h1 : Sat w (srcM s ++ rest.flatMap srcM) S := Sat.permL (hp.flatMap_right srcM) h
  have e1 : srcM s = .ce (rowEl 4 (s.es.map fun a => rawEl (eaV a))) [.slice s.Z s.es.length s.cz] :: (enOw a.x a.A a.c a.B a.d ++ tl.flatMap fun a => enOw a.x a.A a.c a.B a.d) := by rw [srcM, ha]; rfl
  rw [e1, List.cons_append] at h1
  have h2 : Sat w (.ce (rowEl 4 (tl.map fun a => rawEl (eaV a))) [.slice (cutK s.Z s.cz 1 4) tl.length (s.cz - 1)] :: ((enOw a.x a.A a.c a.B a.d ++ tl.flatMap fun a => enOw a.x a.A a.c a.B a.d) ++ rest.flatMap srcM)) S := by
    refine h1.mapC fun T hT => ?_
    obtain ⟨_, hc, hr⟩ := rowEl.rd hT
    have hl : s.es.length = tl.length + 1 := by rw [ha]; rfl
    have hr2 := RdR.cut (n := tl.length + 1) (l := 1) (h := tl.length + 1) hr (by rw [List.length_map]; exact hl) (by omega) (Nat.le_refl _) (by omega : tl.length + 1 ≤ s.cz)
    have e2 : ((s.es.map fun a => rawEl (eaV a)).take (tl.length + 1)).drop 1 = tl.map fun a => rawEl (eaV a) := by
      rw [List.take_of_length_le (by rw [List.length_map]; omega), ha]; rfl
    rw [e2] at hr2
    have := rowEl.mk (k := 4) (c := s.cz - 1) hr2 (by rw [List.length_map]; omega) (by decide)
    rwa [List.length_map] at this
  have key : ∀ {X Y : List Cd} {c : Cd}, Sat w (c :: (X ++ Y)) S → Sat w (X ++ (c :: Y)) S := fun {X Y c} h => Sat.permL List.perm_middle.symm h
  have pack : ∀ {X Y : List Cd} {c : Ck}, (∀ T, Sat w Y T → c.P w T) → Sat w (X ++ Y) S → Sat w (X ++ [.ck c]) S := fun {X Y c} hc h => by
    obtain ⟨T, hT, h1, h2⟩ := h.append
    exact Sat.join hT h1 ⟨_, fun _ h => h, hc _ h2, trivial⟩
  constructor
  · rw [List.append_assoc] at h2
    exact pack (fun T h => h) (key h2)
  · have h3 := h1.dropC
    rw [List.append_assoc] at h3
    refine pack (Y := (tl.flatMap fun a => enOw a.x a.A a.c a.B a.d) ++ rest.flatMap srcM) (fun T h => ?_) h3
    obtain ⟨U, hU, _, hr⟩ := h.append
    exact hr.mono fun _ _ h => h.1
set_option maxRecDepth 8000 in
theorem pop_any {S : BS} {g c : Nat} {Q : Option Addr} {last : Value} {mem srcs : List SrcA} {w : World} (h0 : Sat w (hpP g Q c last mem srcs) S) (hm : mem.Perm srcs) (hw : ∀ s ∈ srcs, s.es ≠ []) (hH : Hp lessS srcs 0 srcs.length) (hne : srcs ≠ []) (hlen : srcs.length ≤ 100000) :
    CallsV Try.prog 58 #[.pointer (some ⟨g, 0, none⟩)] w fun v w' => ∃ a p srcs' mem', v = .agg (eaV a).toArray ∧ St S w w' (enOw a.x a.A a.c a.B a.d ++ hpP g Q c last mem' srcs') ∧ mem'.Perm srcs' ∧ PopR srcs a p srcs' ∧ Hp lessS srcs' 0 srcs'.length := by
  have hs := St.start h0
  obtain ⟨s, rest, rfl⟩ := List.exists_cons_of_ne_nil hne
  have hl0 : 0 < (s :: rest).length := by simp
  obtain ⟨a, tl, ha⟩ := List.exists_cons_of_ne_nil (hw s List.mem_cons_self)
  have hsl : s.es.length = tl.length + 1 := by rw [ha]; rfl
  have hl1 : 0 < s.es.length := by omega
  obtain ⟨q, hq⟩ := (h0.front (i := 0) rfl).elim fun T h => OwR.form h.2.1.2 (by simp)
  obtain ⟨_, _, cs, hqq, _, _, hp, i1⟩ := RdR.at (k := 2) (by decide) (OwR.rd (hs.rg 0 rfl)) (E := rawEl (srcV s)) (i := 0) rfl
  obtain rfl : cs = srcV s := hp
  rw [hq] at hqq; cases hqq
  subst hq
  have rs := hs.mems 2 rfl s (hm.mem_iff.2 List.mem_cons_self)
  have hcz := rs.cap
  obtain ⟨b1, o1, cs, hz1, _, _, hp, i3⟩ := RdR.at (k := 4) (by decide) rs.row (E := rawEl (eaV a)) (i := 0) (by rw [List.getElem?_map, ha]; rfl)
  obtain rfl : cs = eaV a := hp
  unfold srcV at i1
  have hz1' := hz1
  rw [hz1] at i1
  refine calls_in (N := _) Try.func58 rfl Try.ntmps58 rfl ?_; show WC _ _ _ _ _ _
  refine wc_sr ?_
  refine ws_new hs zeroE rfl ?_; clear hs; intro g2 _ hs
  have hb0 : Below w.heap.size w w := Below.refl _ _
  have rs2 := hs.mems 3 rfl s (hm.mem_iff.2 List.mem_cons_self)
  obtain ⟨_, _, cs, hqq, _, _, hp, i1⟩ := RdR.at (k := 2) (by decide) (OwR.rd (hs.rg 1 rfl)) (E := rawEl (srcV s)) (i := 0) rfl
  obtain rfl : cs = srcV s := hp
  cases hqq
  obtain ⟨_, _, cs, hqq, _, _, hp, i3⟩ := RdR.at (k := 4) (by decide) rs2.row (E := rawEl (eaV a)) (i := 0) (by rw [List.getElem?_map, ha]; rfl)
  obtain rfl : cs = eaV a := hp
  rw [hz1'] at hqq; cases hqq
  unfold srcV at i1
  rw [hz1] at i1
  refine wl_ns ?_; refine wc_sr ?_; refine wl_mv rfl rfl ?_; apply wl_val; apply opv_nilOk; exact rfl; exact rfl; apply wl_val; apply opv_fa; exact fa_sM (by decide); exact rfl; exact rfl; apply wl_val; apply opv_ldX; exact rfl; exact hs.ar 2 rfl; exact e1_src; exact rfl; exact rfl; apply wl_val; apply opv_idxG tkS; exact rfl; exact rfl; exact rfl; omega; exact rfl; refine wl_as rfl rfl ?_; refine wl_ns ?_; refine wc_sr ?_; refine wl_mv rfl rfl ?_; apply wl_val; apply opv_nilOk; exact rfl; exact rfl; apply wl_val; apply opv_fa; exact fa_sS (by decide); exact rfl; exact rfl; apply wl_val; apply opv_ldW; exact rfl; assumption; exact e1_row; exact rfl; exact rfl; apply wl_val; apply opv_idxG tkE; exact rfl; exact rfl; exact rfl; omega; exact rfl; apply wl_val; apply opv_ldG; exact rfl; assumption; exact sE; exact rfl
  refine ws_new hs zeroE rfl ?_; clear hs; intro g4 _ hs
  unfold hpP at hs
  apply ws_stS hs 0; exact rfl; exact rfl; exact rfl; exact sE; exact rfl; exact rfl; clear hs; intro _ hs; dsimp only [setC] at hs; refine wl_ns ?_; refine wc_sr ?_; refine wl_mv rfl rfl ?_; refine wl_mv rfl rfl ?_; apply wl_val; apply opv_nilOk; exact rfl; exact rfl; apply wl_val; apply opv_fa; exact fa_sS (by decide); exact rfl; exact rfl
  have i1 := wi_of hs 2 rfl (j := 0) rfl
  unfold srcV at i1
  apply wl_val; apply opv_ldW; exact rfl; assumption; exact e1_row; exact rfl; exact rfl
  refine wl_slK (l := 1) (h := s.es.length) tkE rfl ⟨_, rfl⟩ rfl (by omega) hcz rfl ?_
  apply wl_val; apply opv_nilOk; exact rfl; exact rfl; apply wl_val; apply opv_fa; exact fa_sS (by decide); exact rfl; exact rfl
  refine ws_stR (p := 0) (j := 0) hs 2 rfl rfl rfl e1_row rfl rfl (by decide) rfl rfl ?_
  clear hs; intro _ hs; dsimp only [setC] at hs
  have e3 : (((s :: rest).map srcV).set 0 ((srcV s).set 0 (.slice (cutK s.Z s.cz 1 4) (s.es.length - 1) (s.cz - 1)))).map rawEl = srcEls (tailS s tl :: rest) := by rw [hsl]; rfl
  rw [e3] at hs
  have i1 := wi_of hs 2 rfl (j := 0) rfl
  unfold srcV at i1
  have hmin : ∀ t ∈ s :: rest, lessS t s = false := fun t ht => by
    obtain ⟨j, hj, rfl⟩ := List.getElem_of_mem ht
    have := hp_min lessS_neg (Nat.le_refl _) hH lessS_irr j hj
    rw [lt2, List.getElem?_eq_getElem hj] at this
    exact this
  have htlen : (tailS s tl).es.length = tl.length := rfl
  rw [htlen] at i1
  by_cases htl : tl = []
  · have h1 : (tl.length : Int) = 0 := by rw [htl]; rfl
    replace hs := (((hs.front 4 rfl).unpack (H1 := enOw a.x a.A a.c a.B a.d ++ [.ck (memC rest)]) fun T h => (mem_split h hm ha).2).front 2 rfl)
    replace hs := (hs.front 6 rfl).front 6 rfl
    dsimp only [delC, List.cons_append, List.nil_append, enOw] at hs
    refine wl_ns ?_; refine wc_seq ?_; refine wc_sr ?_; refine wl_mv rfl rfl ?_; apply wl_val; apply opv_nilOk; exact rfl; exact rfl; apply wl_val; apply opv_fa; exact fa_sS (by decide); exact rfl; exact rfl; apply wl_val; apply opv_ldW; exact rfl; assumption; exact e1_row; exact rfl; exact rfl; apply wl_val; apply opv_len; exact rfl; exact tkE.sl; exact rfl; refine wl_bin rfl rfl bin_eql rfl ?_; refine wl_ns ?_; apply wc_decT; exact rfl; (with_reducible assumption); refine wc_region ?_; refine wl_mv rfl rfl ?_; apply wl_val; apply opv_nilOk; exact rfl; exact rfl; apply wl_val; apply opv_fa; exact fa_sM (by decide); exact rfl; exact rfl; apply wl_val; apply opv_mkI; kernel_rfl; exact rfl; exact rfl
    obtain ⟨S2, hS2, _, _, _, hB⟩ := St.lend (H1 := hpP g (some ⟨q, 0, none⟩) c last rest (tailS s tl :: rest)) (H2 := [.ow 5 a.A a.x.key.length a.c (bvs a.x.key), .ow 5 a.B a.x.val.length a.d (bvs a.x.val), .blk g4 56 (eaV a), .blk g2 56 zE]) hs
    refine wl_call ok_container_heap_Pop (hpop_any (n := rest.length) hS2 rfl rfl (fun j hj hjn => ?_) (by simp at hlen; omega) hH fun k hk hkn => ?_) ⟨rfl, trivial⟩ rfl ?_
    · cases j with
      | zero => omega
      | succ j =>
        have hj2 : j < rest.length := by omega
        exact ⟨rest[j], List.getElem?_eq_getElem hj2, List.getElem_mem hj2, hw _ (List.mem_cons_of_mem _ (List.getElem_mem hj2))⟩
    · cases k with
      | zero => omega
      | succ k => rfl
    rintro _ w2 ⟨rfl, srcs', hsx, hp2, hH2⟩
    have hp3 : rest.Perm srcs' := hp2.cons_inv
    have hl3 := hp3.length_eq
    rw [hl3] at hH2
    replace hs := hB _ _ hsx
    unfold hpP at hs
    dsimp only [List.cons_append, List.nil_append] at hs
    clear hB hsx hS2
    refine wl_ns ?_; refine wc_sr ?_; apply wl_val; apply opv_loadX; exact rfl; exact hs.ar 5 rfl; exact sE; exact rfl; apply ws_stS hs 6; exact rfl; exact rfl; exact rfl; exact sE; exact rfl; exact rfl; clear hs; intro _ hs; dsimp only [setC] at hs; refine wl_ns ?_; refine wc_ret ?_
    have hra := hs.ar 6 rfl
    replace hs := (((hs.drop 6 rfl).drop 5 rfl).front 4 rfl).front 4 rfl
    exact we_retC rfl rfl hra sE ⟨_, rfl, a, s.place, srcs', rest, rfl, hs, hp3, ⟨s, tl, rest, cutK s.Z s.cz 1 4, s.cz - 1, .refl _, ha, rfl, hmin, by rw [if_pos htl]; exact hp3.symm⟩, hH2⟩
  · have h1 : ¬ (tl.length : Int) = 0 := by have := List.length_pos_iff.2 htl; omega
    replace hs := (((hs.front 4 rfl).unpack (H1 := enOw a.x a.A a.c a.B a.d ++ [.ck (memC (tailS s tl :: rest))]) fun T h => (mem_split h hm ha).1).front 2 rfl)
    replace hs := (hs.front 6 rfl).front 6 rfl
    dsimp only [delC, List.cons_append, List.nil_append, enOw] at hs
    refine wl_ns ?_; refine wc_seq ?_; refine wc_sr ?_; refine wl_mv rfl rfl ?_; apply wl_val; apply opv_nilOk; exact rfl; exact rfl; apply wl_val; apply opv_fa; exact fa_sS (by decide); exact rfl; exact rfl; apply wl_val; apply opv_ldW; exact rfl; assumption; exact e1_row; exact rfl; exact rfl; apply wl_val; apply opv_len; exact rfl; exact tkE.sl; exact rfl; refine wl_bin rfl rfl bin_eql rfl ?_; refine wl_ns ?_; apply wc_decF; exact rfl; (with_reducible assumption); refine wc_region ?_; refine wl_mv rfl rfl ?_; apply wl_val; apply opv_nilOk; exact rfl; exact rfl; apply wl_val; apply opv_fa; exact fa_sM (by decide); exact rfl; exact rfl; apply wl_val; apply opv_mkI; kernel_rfl; exact rfl; exact rfl
    obtain ⟨S2, hS2, _, _, _, hB⟩ := St.lend (H1 := hpP g (some ⟨q, 0, none⟩) c last (tailS s tl :: rest) (tailS s tl :: rest)) (H2 := [.ow 5 a.A a.x.key.length a.c (bvs a.x.key), .ow 5 a.B a.x.val.length a.d (bvs a.x.val), .blk g4 56 (eaV a), .blk g2 56 zE]) hs
    refine wl_call ok_container_heap_Fix (fix_any (l := s :: rest) hS2 (fun t ht => ⟨ht, ?_⟩) (by simp at hlen ⊢; omega) hH fun k hk hkn => ?_) ⟨rfl, rfl, trivial⟩ rfl ?_
    · rw [List.mem_cons] at ht
      rcases ht with rfl | ht
      · exact htl
      · exact hw t (List.mem_cons_of_mem _ ht)
    · cases k with
      | zero => omega
      | succ k => rfl
    rintro _ w2 ⟨rfl, srcs', hsx, hp2, hH2⟩
    have hp3 : (tailS s tl :: rest).Perm srcs' := hp2.symm
    have hl3 := hp3.length_eq
    rw [hl3] at hH2
    replace hs := hB _ _ hsx
    unfold hpP at hs
    dsimp only [List.cons_append, List.nil_append] at hs
    clear hB hsx hS2
    refine wl_ns ?_; refine wc_sr ?_; apply wl_val; apply opv_loadX; exact rfl; exact hs.ar 5 rfl; exact sE; exact rfl; apply ws_stS hs 6; exact rfl; exact rfl; exact rfl; exact sE; exact rfl; exact rfl; clear hs; intro _ hs; dsimp only [setC] at hs; refine wl_ns ?_; refine wc_ret ?_
    have hra := hs.ar 6 rfl
    replace hs := (((hs.drop 6 rfl).drop 5 rfl).front 4 rfl).front 4 rfl
    exact we_retC rfl rfl hra sE ⟨_, rfl, a, s.place, srcs', (tailS s tl :: rest), rfl, hs, hp3, ⟨s, tl, rest, cutK s.Z s.cz 1 4, s.cz - 1, .refl _, ha, rfl, hmin, by rw [if_neg htl]; exact hp2⟩, hH2⟩
end Go.Proofs.Ytpnckagibkdcpaa


/-
  Walks over a stream's Next and Seek.
-/
namespace Go.Proofs.Ytpnckagibkdcpaa
open Go.RowKit

theorem tyPE : ∃ te, Try.prog.underlying 60 = some (.pointer te) := ⟨_, Try.underlying60⟩
theorem bin_neqPtrNil {P : Program} {t : TypeId} {a : Addr} (ht : ∃ te, P.underlying t = some (.pointer te)) : BinV P .neq t (.pointer (some a)) (.pointer none) (.bool true) := .mk fun x y w => by
  obtain ⟨te, ht⟩ := ht
  have h : ∀ d : Nat, (Op.equalIn (d + 1) t (.pointer (some a)) (.pointer none)).run P w = .ok false w := fun d => by simp [Op.equalIn, run_underlying ht]
  simp [eqGuard, binOp, Op.equal, Op.maxDepth, h 9999]
theorem bin_neqNilNil {P : Program} {t : TypeId} (ht : ∃ te, P.underlying t = some (.pointer te)) : BinV P .neq t (.pointer none) (.pointer none) (.bool false) := .mk fun x y w => by
  obtain ⟨te, ht⟩ := ht
  have h : ∀ d : Nat, (Op.equalIn (d + 1) t (.pointer none) (.pointer none)).run P w = .ok true w := fun d => by simp [Op.equalIn, run_underlying ht]
  simp [eqGuard, binOp, Op.equal, Op.maxDepth, h 9999]
/-- What a stream remembers of the entry that it told last. -/
structure LastA where
  gl : Nat
  key : List UInt8
  seq : Nat
  A : Option Addr
  c : Nat
def LastA.en (a : LastA) : En := ⟨a.key, a.seq, 0, []⟩
def lastV : Option LastA → Value
  | none => .pointer none
  | some a => .pointer (some ⟨a.gl, 0, none⟩)
def lastC : Option LastA → List Cd
  | none => []
  | some a => [.blk a.gl 56 (enV a.en a.A a.c none 0), .ow 5 a.A a.key.length a.c (bvs a.key)]
theorem buildE (A : Option Addr) (n c : Nat) (s : Int) : Try.prog.built 56 [(0, .slice A n c), (1, .int .u64 s)] = some #[.slice A n c, .int .u64 s, .int .u8 0, .slice none 0 0] := by kernel_rfl
theorem buildE0 : Try.prog.built 56 [] = some zE.toArray := by kernel_rfl
/-- What holds of a stream's sources, its last entry and what it has still to tell. -/
structure StrOk (mem srcs : List SrcA) (last : Option LastA) (left : List En) : Prop where
  perm : mem.Perm srcs
  wf : WfS srcs
  heap : Hp lessS srcs 0 srcs.length
  len : srcs.length ≤ 100000
  small : ∀ y ∈ pairs srcs, y.1.key.length ≤ 1048576
  str : Str srcs (last.map (·.en)) left
/-- A stream in memory. -/
def strC (g : Nat) (left : List En) : Ck := ⟨fun w S => ∃ Q c mem srcs last, Sat w (hpP g Q c (lastV last) mem srcs ++ lastC last) S ∧ StrOk mem srcs last left, fun ⟨Q, c, mem, srcs, last, h, ho⟩ hz hm => ⟨Q, c, mem, srcs, last, h.move hz hm, ho⟩⟩
/-- One entry has been popped. -/
theorem StrOk.small2 {mem srcs srcs' : List SrcA} {last : Option LastA} {left : List En} {a : EnA} {p : Nat} (h : StrOk mem srcs last left) (hp : PopR srcs a p srcs') : a.x.key.length ≤ 1048576 ∧ (∀ y ∈ pairs srcs', y.1.key.length ≤ 1048576) ∧ srcs'.length ≤ srcs.length ∧ (pairs srcs').length + 1 = (pairs srcs).length := by
  have hq := popR_pairs hp
  refine ⟨h.small _ (hq.mem_iff.2 List.mem_cons_self), fun y hy => h.small y (hq.mem_iff.2 (List.mem_cons_of_mem _ hy)), ?_, by have := hq.length_eq; simpa using this.symm⟩
  obtain ⟨s, tl, rest, Z, cz, h1, _, _, _, h4⟩ := hp
  rw [h1.length_eq, h4.length_eq]
  split <;> simp
theorem wf_some {srcs : List SrcA} (h : WfS srcs) : ∀ s ∈ srcs, s.es ≠ [] := h.some
def RetNext (S : BS) (w : World) (g : Nat) : List En → Value → World → Prop
  | [], v, w' => v = .tuple #[.agg zE.toArray, .bool false] ∧ St S w w' [.ck (strC g [])]
  | x :: left, v, w' => ∃ A c B d, v = .tuple #[.agg (enV x A c B d).toArray, .bool true] ∧ St S w w' (enOw x A c B d ++ [.ck (strC g left)])
set_option maxRecDepth 8000 in
theorem next_any {S : BS} {g : Nat} {left : List En} {w : World} (h0 : Sat w [.ck (strC g left)] S) :
    CallsV Try.prog 31 #[.pointer (some ⟨g, 0, none⟩)] w (RetNext S w g left) := by
  obtain ⟨Q, c, mem, srcs, last, hs, hok⟩ : ∃ Q c mem srcs last, St S w w (hpP g Q c (lastV last) mem srcs ++ lastC last) ∧ StrOk mem srcs last left := by
    obtain ⟨T, hT, ⟨Q, c, mem, srcs, last, h, ho⟩, _⟩ := h0
    exact ⟨Q, c, mem, srcs, last, St.start (h.mono fun b _ hb => hT b hb), ho⟩
  refine calls_in (N := _) Try.func31 rfl Try.ntmps31 rfl ?_; show WC _ _ _ _ _ _
  refine wc_sr ?_
  refine ws_new hs zeroE rfl ?_; clear hs; intro g2 _ hs
  replace hs : St S w _ (hpP g Q c (lastV last) mem srcs ++ (.blk g2 56 zE :: lastC last)) := hs.map fun S h => Sat.permL (List.perm_middle.symm) h
  refine wl_as rfl rfl ?_; refine wl_ns ?_; refine wc_seq ?_; refine wc_block ?_
  refine wc_loop (fun L wr mm => ∃ Q c mem srcs last, L = [(0, .pointer (some ⟨g, 0, none⟩)), (2, .pointer (some ⟨g2, 0, none⟩)), (3, .bool false)] ∧ St S w wr (hpP g Q c (lastV last) mem srcs ++ (.blk g2 56 zE :: lastC last)) ∧ StrOk mem srcs last left ∧ mm = (pairs srcs).length)
    [(0, .pointer (some ⟨g, 0, none⟩)), (2, .pointer (some ⟨g2, 0, none⟩)), (3, .bool false)] (pairs srcs).length ⟨Q, c, mem, srcs, last, rfl, hs, hok, rfl⟩ ⟨rfl, rfl, rfl, trivial⟩ ?_
  clear hs hok Q c mem srcs last
  rintro _ w1 mm ⟨Q, c, mem, srcs, last, rfl, hs, hok, rfl⟩
  by_cases hne : srcs = []
  · subst hne
    obtain rfl := hok.str.nil
    unfold hpP at hs
    dsimp only [List.cons_append, List.nil_append] at hs
    have h1 : ¬ (0 : Int) < ((([] : List SrcA).length : Nat) : Int) := by decide
    refine wc_seq ?_; refine wc_sr ?_; refine wl_mv rfl rfl ?_; apply wl_val; apply opv_nilOk; exact rfl; exact rfl; apply wl_val; apply opv_fa; exact fa_sM (by decide); exact rfl; exact rfl; apply wl_val; apply opv_ldX; exact rfl; exact hs.ar 1 rfl; exact e1_src; exact rfl; exact rfl; apply wl_val; apply opv_len; exact rfl; exact tkS.sl; exact rfl; refine wl_bin rfl rfl bin_gtr rfl ?_; refine wl_ns ?_; apply wc_condFb; exact rfl; exact rfl; refine wc_exit ?_; refine we_seq_exit ?_; refine we_loop_exit ?_; refine we_block_exit ?_; refine we_seq ?_; refine wc_sr ?_; apply wl_val; apply opv_build (vs := []) (cs := zE); exact trivial; exact buildE0; exact rfl; apply ws_stS hs 3; exact rfl; exact rfl; exact rfl; exact sE; exact rfl; exact rfl; clear hs; intro _ hs; dsimp only [setC] at hs; refine wl_as rfl rfl ?_; refine wl_ns ?_; refine wc_ret ?_
    have hra := hs.ar 3 rfl
    replace hs := (hs.drop 3 rfl)
    refine we_retC1 rfl rfl rfl hra sE ⟨_, rfl, rfl, ?_⟩
    exact hs.map fun T h => ⟨T, fun _ h => h, ⟨Q, c, mem, [], last, h, hok⟩, trivial⟩
  have h1 : (0 : Int) < (srcs.length : Int) := by have := List.length_pos_iff.2 hne; omega
  unfold hpP at hs
  dsimp only [List.cons_append, List.nil_append] at hs
  refine wc_seq ?_; refine wc_sr ?_; refine wl_mv rfl rfl ?_; apply wl_val; apply opv_nilOk; exact rfl; exact rfl; apply wl_val; apply opv_fa; exact fa_sM (by decide); exact rfl; exact rfl; apply wl_val; apply opv_ldX; exact rfl; exact hs.ar 1 rfl; exact e1_src; exact rfl; exact rfl; apply wl_val; apply opv_len; exact rfl; exact tkS.sl; exact rfl; refine wl_bin rfl rfl bin_gtr rfl ?_; refine wl_ns ?_; apply wc_decT; exact rfl; (with_reducible assumption); refine wc_skip ?_; refine we_seq ?_; refine wc_block ?_; refine wc_sr ?_; refine wl_mv rfl rfl ?_
  obtain ⟨S2, hS2, _, _, _, hB⟩ := St.lend (H1 := hpP g Q c (lastV last) mem srcs) (H2 := .blk g2 56 zE :: lastC last) hs
  refine wl_call ok_merge_Stream_pop (pop_any hS2 hok.perm (wf_some hok.wf) hok.heap hne hok.len) ⟨rfl, trivial⟩ rfl ?_
  rintro _ w2 ⟨a, p, srcs', mem', rfl, hsx, hperm', hpop, hH'⟩
  replace hs := hB _ _ hsx
  obtain ⟨hkl, hsm', hlen', hpl⟩ := hok.small2 hpop
  unfold hpP enOw at hs
  dsimp only [List.cons_append, List.nil_append] at hs
  clear hB hsx hS2
  refine ws_new hs zeroE rfl ?_; clear hs; intro g4 _ hs
  apply ws_stS hs 0; exact rfl; exact rfl; exact rfl; exact sE; exact rfl; exact rfl; clear hs; intro _ hs; dsimp only [setC] at hs; refine wl_ns ?_; refine wc_seq ?_; refine wc_seq ?_
  cases last with
  | none =>
    dsimp only [lastV, lastC] at hs
    refine wc_drawB mixed (by kernel_rfl) ?_
    apply wq_val; intro _ hw_; apply opv_move; exact rfl; exact rfl; apply wq_val; intro _ hw_; apply opv_nilOk; exact rfl; exact rfl; apply wq_val; intro _ hw_; apply opv_fa; exact fa_sM (by decide); exact rfl; exact rfl; apply wq_val; intro _ hw_; apply opv_ldX; exact rfl; exact Ar.bel (hs.ar 4 rfl) hw_; exact e1_pE; exact rfl; exact rfl; apply wq_val; intro _ hw_; apply opv_bin; exact rfl; exact rfl; exact bin_neqNilNil tyPE; exact rfl; apply wq_val; intro _ hw_; apply opv_move; exact rfl; exact rfl; apply wq_skip; exact rfl; exact rfl; exact rfl; exact bR2; exact rfl; apply wq_skip; exact rfl; exact rfl; exact rfl; exact bR2; exact rfl; apply wq_skip; exact rfl; exact rfl; exact rfl; exact bR2; exact rfl; apply wq_skip; exact rfl; exact rfl; exact rfl; exact bR2; exact rfl; apply wq_skip; exact rfl; exact rfl; exact rfl; exact bR2; exact rfl; apply wq_skip; exact rfl; exact rfl; exact rfl; exact bR2; exact rfl; apply wq_skip; exact rfl; exact rfl; exact rfl; exact bR2; exact rfl; apply wq_skip; exact rfl; exact rfl; exact rfl; exact bR2; exact rfl; apply wq_skip; exact rfl; exact rfl; exact rfl; exact bR2; exact rfl; apply wq_val; intro _ hw_; apply opv_pickF; exact rfl; exact rfl; exact rfl; exact rfl; refine wq_nil fun w1 hw1 => ?_
    replace hs := hs.below hw1
    refine we_seq ?_; apply wc_condFb; exact rfl; exact rfl; refine wc_skip ?_; refine we_seq ?_; refine wc_seq ?_
    refine wc_heldM 10 mixed fun w_ hS => ?_
    apply wm_take 0; exact rfl; intro _ hw_; apply opv_move; exact rfl; exact rfl; kernel_rfl; exact hS; apply wm_take 1; exact rfl; intro _ hw_; apply opv_fa; exact fa_sE (by decide); exact rfl; exact rfl; kernel_rfl; exact hS; apply wm_take 2; exact rfl; intro _ hw_; apply opv_ldX; exact rfl; exact Ar.bel (hs.ar 0 rfl) hw_; exact e1_by; exact rfl; exact rfl; kernel_rfl; exact hS; apply wm_take 4; exact rfl; intro _ hw_; apply opv_fa; exact fa_sE (by decide); exact rfl; exact rfl; kernel_rfl; exact hS; apply wm_take 5; exact rfl; intro _ hw_; apply opv_ldX; exact rfl; exact Ar.bel (hs.ar 0 rfl) hw_; exact e1_u64; exact rfl; exact rfl; kernel_rfl; exact hS
    replace hs := hs.below hS
    refine wm_one 3 (by kernel_rfl) rfl ?_; dsimp only [List.getElem_toArray, List.getElem_cons_succ, List.getElem_cons_zero]
    refine wl_call ok_bytes_Clone (clone_any (hs.ow 1 rfl).rd rfl (by omega)) ⟨rfl, trivial⟩ rfl ?_; rintro _ _ ⟨C, e, rfl, o_, hbx⟩; replace hs := hs.newO hbx o_ (Nat.le_refl _); try dsimp only [List.cons_append, List.nil_append, setC, delC] at hs
    replace hS := hS.trans (hbx.mono hS.size)
    refine wl_nil ?_
    refine we_heldM (fun _ => hS) ?_
    apply wm_takeP 6; exact rfl; intro _; apply opv_build (vs := [(0, _), (1, _)]) (cs := [_, _, _, _]); exact ⟨rfl, rfl, rfl, rfl, trivial⟩; exact buildE _ _ _ _; exact rfl; kernel_rfl; exact fun _ => hS
    refine wm_one 7 (by kernel_rfl) rfl ?_; dsimp only [List.getElem_toArray, List.getElem_cons_succ, List.getElem_cons_zero]
    refine wl_box (cs := enV ⟨a.x.key, a.x.seq, 0, []⟩ C e none 0) rfl rfl fun gb _ hgb ab hbx => ?_
    replace hs := hs.newA hbx hgb ab
    replace hS := hS.trans (hbx.mono hS.size)
    refine wl_nil ?_
    refine we_heldM (fun _ => hS) ?_
    apply wm_takeP 8; exact rfl; intro _; apply opv_nilOk; exact rfl; exact rfl; kernel_rfl; exact fun _ => hS; apply wm_takeP 9; exact rfl; intro _; apply opv_fa; exact fa_sM (by decide); exact rfl; exact rfl; kernel_rfl; exact fun _ => hS
    refine wm_one 10 (by kernel_rfl) rfl ?_; dsimp only [List.getElem_toArray, List.getElem_cons_succ, List.getElem_cons_zero]
    apply ws_st hs 6; exact rfl; exact rfl; exact e1_pE; exact rfl; exact rfl; exact rfl; clear hs; intro _ hs; dsimp only [setC, List.set] at hs; refine wl_nil ?_
    refine we_heldM (fun h => absurd h (by decide)) ?_
    refine wm_done (by kernel_rfl) ?_
    refine we_seq ?_; refine wc_sr ?_; apply wl_val; apply opv_loadX; exact rfl; exact hs.ar 2 rfl; exact sE; exact rfl; apply ws_stS hs 8; exact rfl; exact rfl; exact rfl; exact sE; exact rfl; exact rfl; clear hs; intro _ hs; dsimp only [setC] at hs; refine wl_as rfl rfl ?_; refine wl_ns ?_; refine wc_ret ?_; refine we_block_ret ?_; refine we_loop_ret ?_; refine we_block_ret ?_; refine we_seq_ret ?_
    obtain ⟨left', rfl, hstr'⟩ := hok.str.take hpop (fun l h => by cases h) (l' := LastA.en ⟨gb, a.x.key, a.x.seq, C, e⟩) ⟨rfl, rfl⟩
    have hra := hs.ar 8 rfl
    replace hs := (hs.drop 8 rfl).drop 2 rfl
    dsimp only [delC, setC] at hs
    refine we_retC1 rfl rfl rfl hra sE ⟨_, rfl, a.A, a.c, a.B, a.d, rfl, hs.map fun T h => ?_⟩
    exact Sat.packR (Sat.swap (H1 := [.blk gb 56 (enV ⟨a.x.key, a.x.seq, 0, []⟩ C e none 0), .ow 5 C a.x.key.length e (bvs a.x.key)]) (H2 := .ow 5 a.A a.x.key.length a.c (bvs a.x.key) :: .ow 5 a.B a.x.val.length a.d (bvs a.x.val) :: hpP g Q c (.pointer (some ⟨gb, 0, none⟩)) mem' srcs') h) fun T h => ⟨Q, c, mem', srcs', some ⟨gb, a.x.key, a.x.seq, C, e⟩, h, hperm', popR_wf hok.wf hpop, hH', by have := hok.len; omega, hsm', hstr'⟩
  | some la =>
    dsimp only [lastV, lastC] at hs
    have rk : RdB _ la.A la.en.key := (hs.ow 8 rfl).rd
    have ra : RdB _ a.A a.x.key := (hs.ow 1 rfl).rd
    cases hlt : lessE la.en a.x with
    | true =>
      refine wc_drawB mixed (by kernel_rfl) ?_
      apply wq_val; intro _ hw_; apply opv_move; exact rfl; exact rfl; apply wq_val; intro _ hw_; apply opv_nilOk; exact rfl; exact rfl; apply wq_val; intro _ hw_; apply opv_fa; exact fa_sM (by decide); exact rfl; exact rfl; apply wq_val; intro _ hw_; apply opv_ldX; exact rfl; exact Ar.bel (hs.ar 4 rfl) hw_; exact e1_pE; exact rfl; exact rfl; apply wq_val; intro _ hw_; apply opv_bin; exact rfl; exact rfl; exact bin_neqPtrNil tyPE; exact rfl; apply wq_val; intro _ hw_; apply opv_move; exact rfl; exact rfl; apply wq_take; exact rfl; exact rfl; exact rfl; exact rfl; apply wq_val; intro _ hw_; apply opv_move; exact rfl; exact rfl; apply wq_take; exact rfl; exact rfl; exact rfl; exact rfl; apply wq_val; intro _ hw_; apply opv_nilOk; exact rfl; exact rfl; apply wq_take; exact rfl; exact rfl; exact rfl; exact rfl; apply wq_val; intro _ hw_; apply opv_fa; exact fa_sM (by decide); exact rfl; exact rfl; apply wq_take; exact rfl; exact rfl; exact rfl; exact rfl; apply wq_val; intro _ hw_; apply opv_ldX; exact rfl; exact Ar.bel (hs.ar 4 rfl) hw_; exact e1_pE; exact rfl; exact rfl; apply wq_take; exact rfl; exact rfl; exact rfl; exact rfl; apply wq_val; intro _ hw_; apply opv_nilOk; exact rfl; exact rfl; apply wq_take; exact rfl; exact rfl; exact rfl; exact rfl; apply wq_val; intro _ hw_; apply opv_loadX; exact rfl; exact Ar.bel (hs.ar 7 rfl) hw_; exact sE; exact rfl; apply wq_take; exact rfl; exact rfl; exact rfl; exact rfl; apply wq_val; intro _ hw_; apply opv_loadX; exact rfl; exact Ar.bel (hs.ar 0 rfl) hw_; exact sE; exact rfl; apply wq_take; exact rfl; exact rfl; exact rfl; exact rfl
      refine wq_call (v := .bool true) ok_mem_Less (fun w' hw => (less_any (x := la.en) (y := a.x) (rk.below hw) (ra.below hw)).mono (fun v w2 ⟨hv, h2⟩ => ⟨by rw [hv, hlt], hw.trans (h2.mono hw.size)⟩)) ⟨rfl, rfl, trivial⟩ rfl ?_
      apply wq_take; exact rfl; exact rfl; exact rfl; exact rfl; apply wq_val; intro _ hw_; apply opv_not; exact rfl; exact rfl; apply wq_val; intro _ hw_; apply opv_pickT; exact rfl; exact rfl; exact rfl; exact rfl; refine wq_nil fun w1 hw1 => ?_
      replace hs := hs.below hw1
      clear rk ra
      refine we_seq ?_; apply wc_condFb; exact rfl; exact Bool.not_true; refine wc_skip ?_; refine we_seq ?_; refine wc_seq ?_
      refine wc_heldM 10 mixed fun w_ hS => ?_
      apply wm_take 0; exact rfl; intro _ hw_; apply opv_move; exact rfl; exact rfl; kernel_rfl; exact hS; apply wm_take 1; exact rfl; intro _ hw_; apply opv_fa; exact fa_sE (by decide); exact rfl; exact rfl; kernel_rfl; exact hS; apply wm_take 2; exact rfl; intro _ hw_; apply opv_ldX; exact rfl; exact Ar.bel (hs.ar 0 rfl) hw_; exact e1_by; exact rfl; exact rfl; kernel_rfl; exact hS; apply wm_take 4; exact rfl; intro _ hw_; apply opv_fa; exact fa_sE (by decide); exact rfl; exact rfl; kernel_rfl; exact hS; apply wm_take 5; exact rfl; intro _ hw_; apply opv_ldX; exact rfl; exact Ar.bel (hs.ar 0 rfl) hw_; exact e1_u64; exact rfl; exact rfl; kernel_rfl; exact hS
      replace hs := hs.below hS
      refine wm_one 3 (by kernel_rfl) rfl ?_; dsimp only [List.getElem_toArray, List.getElem_cons_succ, List.getElem_cons_zero]
      refine wl_call ok_bytes_Clone (clone_any (hs.ow 1 rfl).rd rfl (by omega)) ⟨rfl, trivial⟩ rfl ?_; rintro _ _ ⟨C, e, rfl, o_, hbx⟩; replace hs := hs.newO hbx o_ (Nat.le_refl _); try dsimp only [List.cons_append, List.nil_append, setC, delC] at hs
      replace hS := hS.trans (hbx.mono hS.size)
      refine wl_nil ?_
      refine we_heldM (fun _ => hS) ?_
      apply wm_takeP 6; exact rfl; intro _; apply opv_build (vs := [(0, _), (1, _)]) (cs := [_, _, _, _]); exact ⟨rfl, rfl, rfl, rfl, trivial⟩; exact buildE _ _ _ _; exact rfl; kernel_rfl; exact fun _ => hS
      refine wm_one 7 (by kernel_rfl) rfl ?_; dsimp only [List.getElem_toArray, List.getElem_cons_succ, List.getElem_cons_zero]
      refine wl_box (cs := enV ⟨a.x.key, a.x.seq, 0, []⟩ C e none 0) rfl rfl fun gb _ hgb ab hbx => ?_
      replace hs := hs.newA hbx hgb ab
      replace hS := hS.trans (hbx.mono hS.size)
      refine wl_nil ?_
      refine we_heldM (fun _ => hS) ?_
      apply wm_takeP 8; exact rfl; intro _; apply opv_nilOk; exact rfl; exact rfl; kernel_rfl; exact fun _ => hS; apply wm_takeP 9; exact rfl; intro _; apply opv_fa; exact fa_sM (by decide); exact rfl; exact rfl; kernel_rfl; exact fun _ => hS
      refine wm_one 10 (by kernel_rfl) rfl ?_; dsimp only [List.getElem_toArray, List.getElem_cons_succ, List.getElem_cons_zero]
      apply ws_st hs 6; exact rfl; exact rfl; exact e1_pE; exact rfl; exact rfl; exact rfl; clear hs; intro _ hs; dsimp only [setC, List.set] at hs; refine wl_nil ?_
      refine we_heldM (fun h => absurd h (by decide)) ?_
      refine wm_done (by kernel_rfl) ?_
      refine we_seq ?_; refine wc_sr ?_; apply wl_val; apply opv_loadX; exact rfl; exact hs.ar 2 rfl; exact sE; exact rfl; apply ws_stS hs 8; exact rfl; exact rfl; exact rfl; exact sE; exact rfl; exact rfl; clear hs; intro _ hs; dsimp only [setC] at hs; refine wl_as rfl rfl ?_; refine wl_ns ?_; refine wc_ret ?_; refine we_block_ret ?_; refine we_loop_ret ?_; refine we_block_ret ?_; refine we_seq_ret ?_
      obtain ⟨left', rfl, hstr'⟩ := hok.str.take hpop (fun l h => by cases h; exact hlt) (l' := LastA.en ⟨gb, a.x.key, a.x.seq, C, e⟩) ⟨rfl, rfl⟩
      have hra := hs.ar 8 rfl
      replace hs := (hs.drop 8 rfl).drop 2 rfl
      replace hs := (hs.drop 7 rfl).drop 7 rfl
      dsimp only [delC, setC] at hs
      refine we_retC1 rfl rfl rfl hra sE ⟨_, rfl, a.A, a.c, a.B, a.d, rfl, hs.map fun T h => ?_⟩
      exact Sat.packR (Sat.swap (H1 := [.blk gb 56 (enV ⟨a.x.key, a.x.seq, 0, []⟩ C e none 0), .ow 5 C a.x.key.length e (bvs a.x.key)]) (H2 := .ow 5 a.A a.x.key.length a.c (bvs a.x.key) :: .ow 5 a.B a.x.val.length a.d (bvs a.x.val) :: hpP g Q c (.pointer (some ⟨gb, 0, none⟩)) mem' srcs') h) fun T h => ⟨Q, c, mem', srcs', some ⟨gb, a.x.key, a.x.seq, C, e⟩, h, hperm', popR_wf hok.wf hpop, hH', by have := hok.len; omega, hsm', hstr'⟩
    | false =>
      refine wc_drawB mixed (by kernel_rfl) ?_
      apply wq_val; intro _ hw_; apply opv_move; exact rfl; exact rfl; apply wq_val; intro _ hw_; apply opv_nilOk; exact rfl; exact rfl; apply wq_val; intro _ hw_; apply opv_fa; exact fa_sM (by decide); exact rfl; exact rfl; apply wq_val; intro _ hw_; apply opv_ldX; exact rfl; exact Ar.bel (hs.ar 4 rfl) hw_; exact e1_pE; exact rfl; exact rfl; apply wq_val; intro _ hw_; apply opv_bin; exact rfl; exact rfl; exact bin_neqPtrNil tyPE; exact rfl; apply wq_val; intro _ hw_; apply opv_move; exact rfl; exact rfl; apply wq_take; exact rfl; exact rfl; exact rfl; exact rfl; apply wq_val; intro _ hw_; apply opv_move; exact rfl; exact rfl; apply wq_take; exact rfl; exact rfl; exact rfl; exact rfl; apply wq_val; intro _ hw_; apply opv_nilOk; exact rfl; exact rfl; apply wq_take; exact rfl; exact rfl; exact rfl; exact rfl; apply wq_val; intro _ hw_; apply opv_fa; exact fa_sM (by decide); exact rfl; exact rfl; apply wq_take; exact rfl; exact rfl; exact rfl; exact rfl; apply wq_val; intro _ hw_; apply opv_ldX; exact rfl; exact Ar.bel (hs.ar 4 rfl) hw_; exact e1_pE; exact rfl; exact rfl; apply wq_take; exact rfl; exact rfl; exact rfl; exact rfl; apply wq_val; intro _ hw_; apply opv_nilOk; exact rfl; exact rfl; apply wq_take; exact rfl; exact rfl; exact rfl; exact rfl; apply wq_val; intro _ hw_; apply opv_loadX; exact rfl; exact Ar.bel (hs.ar 7 rfl) hw_; exact sE; exact rfl; apply wq_take; exact rfl; exact rfl; exact rfl; exact rfl; apply wq_val; intro _ hw_; apply opv_loadX; exact rfl; exact Ar.bel (hs.ar 0 rfl) hw_; exact sE; exact rfl; apply wq_take; exact rfl; exact rfl; exact rfl; exact rfl
      refine wq_call (v := .bool false) ok_mem_Less (fun w' hw => (less_any (x := la.en) (y := a.x) (rk.below hw) (ra.below hw)).mono (fun v w2 ⟨hv, h2⟩ => ⟨by rw [hv, hlt], hw.trans (h2.mono hw.size)⟩)) ⟨rfl, rfl, trivial⟩ rfl ?_
      apply wq_take; exact rfl; exact rfl; exact rfl; exact rfl; apply wq_val; intro _ hw_; apply opv_not; exact rfl; exact rfl; apply wq_val; intro _ hw_; apply opv_pickT; exact rfl; exact rfl; exact rfl; exact rfl; refine wq_nil fun w1 hw1 => ?_
      replace hs := ((((hs.below hw1).drop 0 rfl).drop 0 rfl).drop 0 rfl)
      refine we_seq ?_; apply wc_condTb; exact rfl; exact Bool.not_false; refine wc_exit ?_; refine we_seq_exit ?_; refine we_block_exit ?_
      refine we_loop _ (pairs srcs').length ⟨Q, c, mem', srcs', some la, rfl, hs, ⟨hperm', popR_wf hok.wf hpop, hH', by have := hok.len; omega, hsm', hok.str.skip hpop rfl hlt⟩, rfl⟩ (by omega) ⟨rfl, rfl, rfl, trivial⟩
end Go.Proofs.Ytpnckagibkdcpaa


/-
  Walks over twins, Open, Seek and Merge of the program.
-/
namespace Go.Proofs.Ytpnckagibkdcpaa
open Go.RowKit

theorem buildM0 : Try.prog.built 62 [] = some #[.slice none 0 0, .pointer none] := by kernel_rfl
/-- Entries in memory of their own. -/
def esC (es : List EnA) : Ck := ⟨fun w S => Sat w (es.flatMap enM) S, fun h hz hm => h.move hz hm⟩
theorem rg_ce {k : Nat} {e : TypeId} {A : Option Addr} {c : Nat} {els : List El} {w : World} {T : BS} (hk : 0 < k) (h : (Cd.rg k e A c els).P w T) : (Cd.ce (rowEl k els) [.slice A els.length c]).P w T := by
  have hl := OwR.len_le h.2
  obtain ⟨css, g1, g2⟩ := h.2
  exact rowEl.mk ⟨css, g1.mono fun b _ h => h.1, own_rd g2, fun a ha _ => h.1 a ha⟩ hl hk
/-- A row of entries and their memory are a source's memory. -/
theorem src_of {es : List EnA} {P : Option Addr} {cp : Nat} (place : Nat) {w : World} {T : BS} (h : Sat w [.rg 4 56 P cp (es.map fun a => rawEl (eaV a)), .ck (esC es)] T) : (memC [⟨es, P, cp, place⟩]).P w T := by
  have h1 := Sat.mapC h (c' := .ce (rowEl 4 (es.map fun a => rawEl (eaV a))) [.slice P es.length cp]) fun T hT => by have := rg_ce (by decide) hT; rwa [List.length_map] at this
  have h2 : Sat w ([.ck (esC es)] ++ [.ce (rowEl 4 (es.map fun a => rawEl (eaV a))) [.slice P es.length cp]]) T := h1.swap (H1 := [_])
  have h3 := (Sat.split (H1 := es.flatMap enM) (H := [.ce (rowEl 4 (es.map fun a => rawEl (eaV a))) [.slice P es.length cp]]) h2 fun T h => h).swap
  show Sat w (srcM ⟨es, P, cp, place⟩ ++ []) T
  rw [List.append_nil]
  exact h3
theorem mtwins_any {A : Option Addr} {n c : Nat} {l : List En} {w : World} (hr : RdR 4 w All A (l.map enEl)) (hn : l.length = n) (hok : ∀ x ∈ l, x.key.length ≤ 140737488355328 ∧ x.val.length ≤ 140737488355328) (hl : l.length ≤ 1099511627776) :
    CallsV Try.prog 61 #[.slice A n c] w fun v w' => ∃ es Z cz, v = .slice Z es.length cz ∧ es.map (·.x) = l ∧ ∀ place, St NoB w w' [.ck (memC [⟨es, Z, cz, place⟩])] := by
  subst hn
  have hmax : maxLen = 9223372036854775807 := rfl
  have hs : St NoB w w [.rg 4 56 none 0 (([] : List EnA).map fun a => rawEl (eaV a)), .ck (esC [])] := ⟨Mod.refl _ _, by
    have := ((St.init w).nilG 4 56).2
    exact Sat.join (H1 := [.rg 4 56 none 0 []]) (T := Fr NoB w) (fun _ h => h) this ⟨NoB, fun _ h => h.elim, (trivial : Sat w [] _), trivial⟩⟩
  refine calls_in (N := _) Try.func61 rfl Try.ntmps61 rfl ?_; show WC _ _ _ _ _ _
  refine wc_sr ?_; refine wl_as rfl rfl ?_; refine wl_ns ?_; refine wc_sr ?_; refine wl_as rfl rfl ?_; refine wl_ns ?_; refine wc_seq ?_; refine wc_sr ?_; refine wl_mv rfl rfl ?_; apply wl_val; apply opv_len; exact rfl; exact tkE.sl; exact rfl; refine wl_mv rfl rfl ?_; refine wl_ns ?_; refine wc_block ?_
  refine wc_loop (fun L wr mm => ∃ (k : Nat) (P : Option Addr) (cp : Nat) (es : List EnA), L = [(3, .slice P k cp), (6, .slice A l.length c), (7, .int .i64 (l.length : Int)), (8, .int .i64 (k : Int))] ∧ k ≤ l.length ∧ es.map (·.x) = l.take k ∧ St NoB w wr [.rg 4 56 P cp (es.map fun a => rawEl (eaV a)), .ck (esC es)] ∧ mm = l.length - k)
    [(3, .slice none 0 0), (6, .slice A l.length c), (7, .int .i64 (l.length : Int)), (8, .int .i64 (0 : Nat))] l.length ⟨0, none, 0, [], rfl, by omega, rfl, hs, rfl⟩ ⟨rfl, rfl, rfl, rfl, trivial⟩ ?_
  clear hs
  rintro _ w1 mm ⟨k, P, cp, es, rfl, hk, hes, hs, rfl⟩
  have hel : es.length = k := by have := congrArg List.length hes; simp at this; omega
  refine wc_sr ?_; refine wl_bin rfl rfl bin_lss rfl ?_; refine wl_ns ?_; refine wc_seq ?_
  refine wc_cond rfl (fun h1 => ?_) (fun h1 => ?_)
  · obtain ⟨x, hx⟩ : ∃ x, l[k]? = some x := ⟨_, List.getElem?_eq_getElem (by omega)⟩
    have hox := hok x (List.mem_of_getElem? hx)
    obtain ⟨b, o, cs, rfl, _, _, hp, i1⟩ := RdR.at (k := 4) (by decide) hr (E := enEl x) (i := k) (by rw [List.getElem?_map, hx]; rfl)
    obtain ⟨X, cx, Y, cy, rfl, rx, _, ry, _⟩ := enEl.rd hp
    replace i1 := i1.below hs.bel
    refine wc_skip ?_; refine we_seq ?_; refine wc_seq ?_; refine wc_block ?_; refine wc_sr ?_; apply wl_val; apply opv_idxG tkE; exact rfl; exact rfl; exact rfl; omega; exact rfl; apply wl_val; apply opv_ldG; exact rfl; assumption; exact sE; exact rfl
    refine ws_new hs zeroE rfl ?_; clear hs; intro g5 _ hs
    apply ws_stS hs 0; exact rfl; exact rfl; exact rfl; exact sE; exact rfl; exact rfl; clear hs; intro _ hs; dsimp only [setC] at hs; refine wl_ns ?_; refine wc_region ?_; refine wl_mv rfl rfl ?_; apply wl_val; apply opv_loadX; exact rfl; exact hs.ar 0 rfl; exact sE; exact rfl
    refine wl_call ok_merge_twin (mtwin_any (x := x) (rx.below hs.bel) (ry.below hs.bel) hox.1 hox.2) ⟨rfl, trivial⟩ rfl ?_
    rintro _ w2 ⟨C, e, D, f, rfl, hsx⟩
    replace hs := (hs.drop 0 rfl).call hsx
    dsimp only [delC, enOw, List.cons_append, List.nil_append] at hs
    refine ws_pushR (cs := enV x C e D f) hs 2 (fun _ => rfl) rfl tkE (by simpa using hel) ⟨_, rfl, rfl⟩ rfl rfl (by decide) (by omega) (by omega) rfl rfl ?_
    clear hs; intro _ P2 cp2 w5 hs; dsimp only [setC] at hs
    refine wl_as rfl rfl ?_; refine wl_nil ?_; refine we_block_norm ?_; refine we_seq ?_; refine wc_region ?_; apply wl_val; apply opv_bin; exact rfl; exact rfl; exact bin_add64 (by omega); exact rfl; refine wl_mv rfl rfl ?_; refine wl_nil ?_
    refine we_loop _ (l.length - (k + 1)) ⟨k + 1, P2, cp2, es ++ [⟨x, C, e, D, f⟩], rfl, by omega, by rw [List.map_append, hes, take_getR hx]; rfl, ?_, rfl⟩ (by omega) ⟨rfl, rfl, rfl, by simp [lookT], trivial⟩
    replace hs := hs.front 2 rfl
    dsimp only [delC] at hs
    refine hs.map fun T h => ?_
    rw [List.map_append]
    refine Sat.packR (X := [.rg 4 56 P2 cp2 (es.map (fun a => rawEl (eaV a)) ++ [rawEl (enV x C e D f)])]) h fun T h => ?_
    have h2 := Sat.split (H1 := es.flatMap enM) (Sat.swap (H1 := enOw x C e D f) (H2 := [.ck (esC es)]) h) fun T h => h
    show Sat _ ((es ++ [(⟨x, C, e, D, f⟩ : EnA)]).flatMap enM) T
    rw [List.flatMap_append, List.flatMap_singleton]
    exact h2
  · obtain rfl : k = l.length := by omega
    rw [List.take_length] at hes
    refine wc_exit ?_; refine we_seq_exit ?_; refine we_loop_exit ?_; refine we_block_exit ?_; refine we_seq ?_; refine wc_sr ?_; refine wl_mv rfl rfl ?_; refine wl_as rfl rfl ?_; refine wl_ns ?_; refine wc_ret ?_
    exact we_ret1 rfl rfl ⟨_, rfl, es, P, cp, by rw [hel], hes, fun place => hs.map fun T h => Sat.packR (X := []) h fun T h => src_of place h⟩

/-! ### Seek -/
theorem head_min {srcs : List SrcA} {s : SrcA} {rest : List SrcA} {a : EnA} {tl : List EnA} {key : List UInt8} (hw : WfS srcs) (hH : Hp lessS srcs 0 srcs.length) (hs : srcs = s :: rest) (ha : s.es = a :: tl) (hk : ¬ cmpB a.x.key key < 0) : ∀ y ∈ pairs srcs, ¬ cmpB y.1.key key < 0 := by
  subst hs
  have hmin : ∀ t ∈ s :: rest, lessS t s = false := fun t ht => by
    obtain ⟨j, hj, rfl⟩ := List.getElem_of_mem ht
    have := hp_min lessS_neg (Nat.le_refl _) hH lessS_irr j hj
    rw [lt2, List.getElem?_eq_getElem hj] at this
    exact this
  have hp := popR_min (a := a) (p := s.place) (srcs' := if tl = [] then rest else ⟨tl, none, 0, s.place⟩ :: rest) hw ⟨s, tl, rest, none, 0, .refl _, ha, rfl, hmin, .refl _⟩
  intro y hy hyk
  have h1 := hp y hy
  have h2 : cmpB y.1.key a.x.key < 0 := by
    by_cases h0 : cmpB a.x.key key = 0
    · rw [cmp_zero h0]; exact hyk
    · exact cmp_trans hyk (by rw [cmp_neg]; omega)
  have h3 : lessE y.1 a.x = true := lessE_iff.2 (.inl h2)
  rw [ltP, h3] at h1
  simp at h1
set_option maxRecDepth 8000 in
theorem seek_any {S : BS} {g n e : Nat} {left : List En} {K : Option Addr} {key : List UInt8} {w : World} (h0 : Sat w [.ck (strC g left)] S) (hn : key.length = n) (hkey : ∀ w', Mod S w w' → RdB w' K key) :
    CallsV Try.prog 32 #[.pointer (some ⟨g, 0, none⟩), .slice K n e] w fun v w' => v = .tuple #[] ∧ St S w w' [.ck (strC g (left.dropWhile fun z => decide (cmpB z.key key < 0)))] := by
  subst hn
  obtain ⟨Q, c, mem, srcs0, last, hs, hok⟩ : ∃ Q c mem srcs last, St S w w (hpP g Q c (lastV last) mem srcs ++ lastC last) ∧ StrOk mem srcs last left := by
    obtain ⟨T, hT, ⟨Q, c, mem, srcs, last, h, ho⟩, _⟩ := h0
    exact ⟨Q, c, mem, srcs, last, St.start (h.mono fun b _ hb => hT b hb), ho⟩
  refine calls_in (N := _) Try.func32 rfl Try.ntmps32 rfl ?_; show WC _ _ _ _ _ _
  refine wc_block ?_
  refine wc_loop (fun L wr mm => ∃ mem srcs, L = [(0, .pointer (some ⟨g, 0, none⟩)), (1, .slice K key.length e)] ∧ St S w wr (hpP g Q c (lastV last) mem srcs ++ lastC last) ∧ mem.Perm srcs ∧ WfS srcs ∧ Hp lessS srcs 0 srcs.length ∧ srcs.length ≤ 100000 ∧ (∀ y ∈ pairs srcs, y ∈ pairs srcs0) ∧ (∀ y ∈ pairs srcs0, y ∈ pairs srcs ∨ cmpB y.1.key key < 0) ∧ mm = (pairs srcs).length)
    [(0, .pointer (some ⟨g, 0, none⟩)), (1, .slice K key.length e)] (pairs srcs0).length ⟨mem, srcs0, rfl, hs, hok.perm, hok.wf, hok.heap, hok.len, fun _ h => h, fun _ h => .inl h, rfl⟩ ⟨rfl, rfl, trivial⟩ ?_
  clear hs
  rintro _ w1 mm ⟨mem2, srcs, rfl, hs, hperm, hwf, hH, hlen, hsub, hcov, rfl⟩
  have hdone : ∀ (hend : ∀ y ∈ pairs srcs, ¬ cmpB y.1.key key < 0), StrOk mem2 srcs last (left.dropWhile fun z => decide (cmpB z.key key < 0)) := fun hend => ⟨hperm, hwf, hH, hlen, fun y hy => hok.small y (hsub y hy), by
    rw [seek_drop key hok.str.ord]
    exact hok.str.seek key hwf fun y => ⟨fun hy => ⟨hsub y hy, hend y hy⟩, fun hy => (hcov y hy.1).resolve_right hy.2⟩⟩
  unfold hpP at hs
  dsimp only [List.cons_append, List.nil_append] at hs
  by_cases hne : srcs = []
  · have h1 : ¬ (0 : Int) < (srcs.length : Int) := by rw [hne]; decide
    refine wc_seq ?_; refine wc_sr ?_; refine wl_mv rfl rfl ?_; apply wl_val; apply opv_nilOk; exact rfl; exact rfl; apply wl_val; apply opv_fa; exact fa_sM (by decide); exact rfl; exact rfl; apply wl_val; apply opv_ldX; exact rfl; exact hs.ar 1 rfl; exact e1_src; exact rfl; exact rfl; apply wl_val; apply opv_len; exact rfl; exact tkS.sl; exact rfl; refine wl_bin rfl rfl bin_gtr rfl ?_; refine wl_mv rfl rfl ?_; apply wl_skip; exact rfl; exact rfl; exact rfl; refine bFn ?_; (with_reducible assumption); exact rfl; apply wl_skip; exact rfl; exact rfl; exact rfl; refine bFn ?_; (with_reducible assumption); exact rfl; apply wl_skip; exact rfl; exact rfl; exact rfl; refine bFn ?_; (with_reducible assumption); exact rfl; apply wl_skip; exact rfl; exact rfl; exact rfl; refine bFn ?_; (with_reducible assumption); exact rfl; apply wl_skip; exact rfl; exact rfl; exact rfl; refine bFn ?_; (with_reducible assumption); exact rfl; apply wl_skip; exact rfl; exact rfl; exact rfl; refine bFn ?_; (with_reducible assumption); exact rfl; apply wl_skip; exact rfl; exact rfl; exact rfl; refine bFn ?_; (with_reducible assumption); exact rfl; apply wl_skip; exact rfl; exact rfl; exact rfl; refine bFn ?_; (with_reducible assumption); exact rfl; apply wl_skip; exact rfl; exact rfl; exact rfl; refine bFn ?_; (with_reducible assumption); exact rfl; apply wl_skip; exact rfl; exact rfl; exact rfl; refine bFn ?_; (with_reducible assumption); exact rfl; apply wl_skip; exact rfl; exact rfl; exact rfl; refine bFn ?_; (with_reducible assumption); exact rfl; apply wl_skip; exact rfl; exact rfl; exact rfl; refine bFn ?_; (with_reducible assumption); exact rfl; apply wl_skip; exact rfl; exact rfl; exact rfl; refine bFn ?_; (with_reducible assumption); exact rfl; apply wl_val; apply opv_pickF; exact rfl; refine bF ?_; (with_reducible assumption); exact rfl; exact rfl; refine wl_ns ?_; apply wc_condFb; exact rfl; exact rfl; refine wc_exit ?_; refine we_seq_exit ?_; refine we_loop_exit ?_; refine we_block_exit ?_
    exact we_end0 rfl ⟨_, rfl, rfl, hs.map fun T h => ⟨T, fun _ h => h, ⟨Q, c, mem2, srcs, last, h, hdone (by rw [hne]; intro y hy; cases hy)⟩, trivial⟩⟩
  have h1 : (0 : Int) < (srcs.length : Int) := by have := List.length_pos_iff.2 hne; omega
  have h1' : 0 < srcs.length := by omega
  obtain ⟨s, rest, hsr⟩ := List.exists_cons_of_ne_nil hne
  have hsm : s ∈ srcs := by rw [hsr]; exact List.mem_cons_self
  obtain ⟨a, tl, ha⟩ := List.exists_cons_of_ne_nil (hwf.some s hsm)
  have hl1 : 0 < s.es.length := by rw [ha]; simp
  obtain ⟨q, rfl⟩ := (hs.2.front (i := 0) rfl).elim fun T h => OwR.form h.2.1.2 (by simp; omega)
  have i1 := wi_of hs 0 rfl (j := 0) (by rw [hsr]; rfl)
  have rs := hs.mems 2 rfl s (hperm.mem_iff.2 hsm)
  obtain ⟨b1, o1, cs, hz1, _, _, hp, i3⟩ := RdR.at (k := 4) (by decide) rs.row (E := rawEl (eaV a)) (i := 0) (by rw [List.getElem?_map, ha]; rfl)
  obtain rfl : cs = eaV a := hp
  unfold srcV at i1
  rw [hz1] at i1
  have rk := hkey _ hs.1
  have ra := rs.key a (by rw [ha]; exact List.mem_cons_self)
  refine wc_seq ?_; refine wc_sr ?_; refine wl_mv rfl rfl ?_; apply wl_val; apply opv_nilOk; exact rfl; exact rfl; apply wl_val; apply opv_fa; exact fa_sM (by decide); exact rfl; exact rfl; apply wl_val; apply opv_ldX; exact rfl; exact hs.ar 1 rfl; exact e1_src; exact rfl; exact rfl; apply wl_val; apply opv_len; exact rfl; exact tkS.sl; exact rfl; refine wl_bin rfl rfl bin_gtr rfl ?_; refine wl_mv rfl rfl ?_; apply wl_take; exact rfl; exact rfl; exact rfl; refine bT ?_; (with_reducible assumption); refine wl_mv rfl rfl ?_; apply wl_take; exact rfl; exact rfl; exact rfl; refine bT ?_; (with_reducible assumption); apply wl_val; apply opv_nilOk; exact rfl; exact rfl; apply wl_take; exact rfl; exact rfl; exact rfl; refine bT ?_; (with_reducible assumption); apply wl_val; apply opv_fa; exact fa_sM (by decide); exact rfl; exact rfl; apply wl_take; exact rfl; exact rfl; exact rfl; refine bT ?_; (with_reducible assumption); apply wl_val; apply opv_ldX; exact rfl; exact hs.ar 1 rfl; exact e1_src; exact rfl; exact rfl; apply wl_take; exact rfl; exact rfl; exact rfl; refine bT ?_; (with_reducible assumption); apply wl_val; apply opv_idxG tkS; exact rfl; exact rfl; exact rfl; omega; exact rfl; apply wl_take; exact rfl; exact rfl; exact rfl; refine bT ?_; (with_reducible assumption); apply wl_val; apply opv_fa; exact fa_sS (by decide); exact rfl; exact rfl; apply wl_take; exact rfl; exact rfl; exact rfl; refine bT ?_; (with_reducible assumption); apply wl_val; apply opv_ldW; exact rfl; assumption; exact e1_row; exact rfl; exact rfl; apply wl_take; exact rfl; exact rfl; exact rfl; refine bT ?_; (with_reducible assumption); apply wl_val; apply opv_idxG tkE; exact rfl; exact rfl; exact rfl; omega; exact rfl; apply wl_take; exact rfl; exact rfl; exact rfl; refine bT ?_; (with_reducible assumption); apply wl_val; apply opv_fa; exact fa_sE (by decide); exact rfl; exact rfl; apply wl_take; exact rfl; exact rfl; exact rfl; refine bT ?_; (with_reducible assumption); apply wl_val; apply opv_ldW; exact rfl; assumption; exact e1_by; exact rfl; exact rfl; apply wl_take; exact rfl; exact rfl; exact rfl; refine bT ?_; (with_reducible assumption); refine wl_mv rfl rfl ?_; apply wl_take; exact rfl; exact rfl; exact rfl; refine bT ?_; (with_reducible assumption)
  refine wl_call ok_codec_Cmp (cmp_any ra rk rfl rfl) ⟨rfl, rfl, trivial⟩ rfl ?_
  rintro _ _ ⟨rfl, rfl⟩
  by_cases h2 : cmpB a.x.key key < 0
  · apply wl_take; exact rfl; exact rfl; exact rfl; refine bT ?_; (with_reducible assumption); refine wl_bin rfl rfl bin_lss rfl ?_; apply wl_val; apply opv_pickT; exact rfl; refine bT ?_; (with_reducible assumption); exact rfl; exact rfl; refine wl_ns ?_; apply wc_decT; exact rfl; (with_reducible assumption); refine wc_skip ?_; refine we_seq ?_; refine wc_block ?_; refine wc_region ?_; refine wl_mv rfl rfl ?_
    obtain ⟨S2, hS2, _, _, _, hB⟩ := St.lend (H1 := hpP g (some ⟨q, 0, none⟩) c (lastV last) mem2 srcs) (H2 := lastC last) hs
    refine wl_call ok_merge_Stream_pop (pop_any hS2 hperm (wf_some hwf) hH hne hlen) ⟨rfl, trivial⟩ rfl ?_
    rintro _ w2 ⟨a2, p, srcs', mem', rfl, hsx, hperm', hpop, hH'⟩
    replace hs := ((hB _ _ hsx).drop 0 rfl).drop 0 rfl
    have hpp := popR_pairs hpop
    have hpl : (pairs srcs').length + 1 = (pairs srcs).length := by have := hpp.length_eq; simpa using this.symm
    have hsl : srcs'.length ≤ srcs.length := by
      obtain ⟨s, tl, rest, Z, cz, h1, _, _, _, h4⟩ := hpop
      rw [h1.length_eq, h4.length_eq]
      split <;> simp
    have hle : cmpB a2.x.key key < 0 := by
      rcases Decidable.em (cmpB a2.x.key key < 0) with h | h
      · exact h
      · exfalso
        have hmin := popR_min hwf hpop (a.x, s.place) (mem_pairs.2 ⟨s, hsm, mem_prs.2 ⟨List.mem_map.2 ⟨a, by rw [ha]; exact List.mem_cons_self, rfl⟩, rfl⟩⟩)
        have h3 : lessE a.x a2.x = true := lessE_iff.2 (.inl (by
          by_cases h0 : cmpB a2.x.key key = 0
          · rw [cmp_zero h0]; exact h2
          · exact cmp_trans h2 (by rw [cmp_neg]; omega)))
        rw [ltP, h3] at hmin
        simp at hmin
    refine wl_nil ?_; refine we_block_norm ?_
    refine we_loop _ (pairs srcs').length ⟨mem', srcs', rfl, hs, hperm', popR_wf hwf hpop, hH', by omega, fun y hy => hsub y (hpp.mem_iff.2 (List.mem_cons_of_mem _ hy)), fun y hy => ?_, rfl⟩ (by omega) ⟨rfl, rfl, trivial⟩
    rcases hcov y hy with h | h
    · rcases List.mem_cons.1 (hpp.mem_iff.1 h) with rfl | h
      · exact .inr hle
      · exact .inl h
    · exact .inr h
  · apply wl_take; exact rfl; exact rfl; exact rfl; refine bT ?_; (with_reducible assumption); refine wl_bin rfl rfl bin_lss rfl ?_; apply wl_val; apply opv_pickT; exact rfl; refine bT ?_; (with_reducible assumption); exact rfl; exact rfl; refine wl_ns ?_; apply wc_decF; exact rfl; (with_reducible assumption); refine wc_exit ?_; refine we_seq_exit ?_; refine we_loop_exit ?_; refine we_block_exit ?_
    exact we_end0 rfl ⟨_, rfl, rfl, hs.map fun T h => ⟨T, fun _ h => h, ⟨some ⟨q, 0, none⟩, c, mem2, srcs, last, h, hdone (head_min hwf hH hsr ha h2)⟩, trivial⟩⟩
end Go.Proofs.Ytpnckagibkdcpaa


/-
  The bytes of a constant string, over pieces: made, marked, and read from then on. Nothing here names the program.
-/
namespace Go.Proofs.Ytpnckagibkdcpaa
open Go.RowKit

theorem zell_freeze (w : World) (a : Addr) (n : Nat) (p : Addr) : (w.freeze a n).cell? p = w.cell? p := by
  unfold World.freeze
  split
  · rfl
  · unfold World.cell?
    simp only [Array.getElem?_modify]
    by_cases h : a.block = p.block
    · rw [if_pos h]
      cases w.heap[p.block]? with
      | none => rfl
      | some o => cases o <;> rfl
    · rw [if_neg h]
theorem zelow_freeze {B : Nat} (w : World) (a : Addr) (n : Nat) (h : B ≤ a.block) : Below B w (w.freeze a n) := by
  unfold World.freeze
  split
  · exact Below.refl _ _
  · refine ⟨rfl, rfl, rfl, by simp, fun j hj => ?_⟩
    simp only [Array.getElem?_modify]
    rw [if_neg (by omega)]
section
variable {P : Program} {N : Nat} {ops : Array Oper} {Q : Exit → Act → World → Prop} {rest : List Oper} {L : FL} {w0 w : World} {M : BS} {H : List Cd} {t e : TypeId} {bytes : Nat}
theorem ws_lit {d1 d2 len : Nat} {ps : List (Nat × Operand)} {ty1 ty2 : TypeId} {p1 p2 : String} {f1 f2 : Array Edge} (hs : St M w0 w H) (xs : List UInt8) (T : Row1 P t e (.int .u8 0) bytes) (he : P.underlying e = some (.int .u8)) (hp : PLooks L 0 ps (bvs xs)) (hl : xs.length = len) (hle : len ≤ 16777216) (h0 : 0 < len) (hd1 : Nat.blt d1 N = true) (hd2 : Nat.blt d2 N = true)
    (h : ∀ p A w', St M w0 w' (.ce (byEl xs) [.slice A xs.length xs.length] :: H) → WL P N ops Q rest ((d2, .slice A xs.length xs.length) :: (d1, p) :: L) w') :
    WL P N ops Q (⟨some d1, .buildSlice t len ps.toArray, ty1, p1, f1, none⟩ :: ⟨some d2, .convert t t (.tmp d1), ty2, p2, f2, none⟩ :: rest) L w := by
  subst hl
  refine wl_bs T hp (bvs_length xs) hle hd1 fun A w1 ho hb _ => ?_
  have hr : RdR 1 w1 All A [] := RdR.nil _
  have hr : Rd w1 A xs.length (bvs xs) := ho.rd
  obtain ⟨b, o, rfl, hb1, hc⟩ := hr.2 h0
  have hlen : 0 < (bvs xs).length := by rw [bvs_length]; exact h0
  have h0c := hc 0 (bvs xs)[0] (List.getElem?_eq_getElem hlen)
  obtain ⟨k, hk⟩ : ∃ k, w1.shape? b = some k := by
    unfold World.cell? at h0c
    unfold World.shape?
    simp only at h0c
    cases hh : w1.heap[b]? with
    | none => rw [hh] at h0c; cases h0c
    | some ob => cases ob <;> first | exact ⟨_, rfl⟩ | (rw [hh] at h0c; cases h0c)
  have hge : w.heap.size ≤ b := (Ow.lt ho _ rfl).1
  have hbf : Below w.heap.size w (w1.freeze ⟨b, k.2, none⟩ 1) := hb.trans (zelow_freeze _ _ _ hge)
  refine wl_val (v := .slice (some ⟨b, o, none⟩) xs.length xs.length) (w' := w1.freeze ⟨b, k.2, none⟩ 1) (fun ρ op hρ ho _ => ?_) hd2 (h _ _ _ ?_)
  · unfold execOp
    simp only [ho, hρ (.tmp d1) (.slice (some ⟨b, o, none⟩) xs.length xs.length) (by simp [look, lookT]), convert, Sem.run_bind, run_underlying T.sl, Result.andThen_ok]
    simp [run_underlying he, markStringish, hk]
  · refine hs.new (T := fun b => w.heap.size ≤ b) (c := .ce (byEl xs) [.slice (some ⟨b, o, none⟩) xs.length xs.length]) hbf ?_ fun _ _ h => h
    refine byEl.mk ⟨hr.1, fun _ => ⟨b, o, rfl, ?_, fun j u hu => by rw [zell_freeze]; exact hc j u hu⟩⟩ (Nat.le_refl _) fun a ha _ => by cases ha; exact hge
    unfold World.freeze; simp; exact hb1
end
end Go.Proofs.Ytpnckagibkdcpaa


/-
  How arguments that are entries, or lists of them, are read; walks over awake and over the laws MergeSees and MergeKeeps.
-/
namespace Go.Proofs.Ytpnckagibkdcpaa
open Go.RowKit Go.ChangeShapes Go.WideShapes Go.ChangeAt Go.Deep

theorem open_boolV {H : Type} {enc : TypeId × Value → H} {P : Program} {w : World} {base : Nat} {spare : Nat → Bool} {held : Bool} {t : TypeId} {b : Bool} {d : DataW H} {ps : List MemPlace} (ht : P.underlying t = some .bool) (hd : DataW.Trod enc P w base spare held t (.bool b) d ps) : d = .lit (.bool b) ∧ ps = [] := by
  obtain ⟨fuel, hf⟩ := hd
  obtain ⟨b', h, hx⟩ := DataW.trod_bool ht hf
  simp [Value.cells] at h
  subst h
  simp only [Prod.mk.injEq] at hx
  exact hx
def enB (x : En) : Nat := x.key.length + x.val.length
theorem opens_entry : Opens Try.prog 56 enEl 4 enB (fun x => x.seq < 2 ^ 64) := fun {H} enc W fuel cs x h => by
  obtain ⟨xs, n, rfl, rfl, hl, hx, hf⟩ := DataW.trod_struct Try.underlying56 h
  replace hl : cs.length = 4 := hl.trans (by kernel_rfl)
  obtain ⟨c0, c1, c2, c3, rfl⟩ := len4 hl
  obtain ⟨y0, y1, y2, y3, rfl⟩ := len4 hx
  obtain ⟨a0, h0, _, k0, b0⟩ := opens_bytes enc W n [c0] y0 (field_at hf (i := 0) (off := 0) (k := 1) (t := 24) rfl rfl rfl (by kernel_rfl))
  obtain ⟨a1, h1, _, k1, b1⟩ := opens_int Try.underlying26 enc W n [c1] y1 (field_at hf (i := 1) (off := 1) (k := 1) (t := 26) rfl rfl rfl (by kernel_rfl))
  obtain ⟨a2, h2, _, k2, b2⟩ := opens_int Try.underlying5 enc W n [c2] y2 (field_at hf (i := 2) (off := 2) (k := 1) (t := 5) rfl rfl rfl (by kernel_rfl))
  obtain ⟨a3, h3, _, k3, b3⟩ := opens_bytes enc W n [c3] y3 (field_at hf (i := 3) (off := 3) (k := 1) (t := 24) rfl rfl rfl (by kernel_rfl))
  obtain rfl : c1 = .int .u64 a1 := by simpa [vEl] using h1
  obtain rfl : c2 = .int .u8 a2 := by simpa [vEl] using h2
  have k1' : 0 ≤ a1 ∧ a1 ≤ 18446744073709551615 := by simpa [Lit.wf, IntKind.min, IntKind.max, IntKind.signed, IntKind.bits] using k1
  have k2' : 0 ≤ a2 ∧ a2 ≤ 255 := by simpa [Lit.wf, IntKind.min, IntKind.max, IntKind.signed, IntKind.bits] using k2
  obtain ⟨s, rfl⟩ := Int.eq_ofNat_of_zero_le k1'.1
  obtain ⟨q, rfl⟩ := Int.eq_ofNat_of_zero_le k2'.1
  have h0' := h0
  have h3' := h3
  obtain ⟨A, c, e0, _⟩ := h0
  obtain ⟨B, d, e3, _⟩ := h3
  obtain rfl : c0 = .slice A a0.length c := by simpa using e0
  obtain rfl : c3 = .slice B a3.length d := by simpa using e3
  refine ⟨⟨a0, s, UInt8.ofNat q, a3⟩, ⟨A, c, B, d, ?_, h0', h3'⟩, rfl, ?_, ?_⟩
  · have : (UInt8.ofNat q).toNat = q := by rw [UInt8.toNat_ofNat', Nat.mod_eq_of_lt (by omega)]
    simp [enV, this]
  · show s < 2 ^ 64; omega
  · replace b0 : a0.length + 1 ≤ _ := b0
    replace b3 : a3.length + 1 ≤ _ := b3
    simp only [enB, Rows.uptoBulk, Rows.uptoBulkAll, List.map_cons, List.map_nil]
    omega
abbrev uEl (m : Nat) : El := vEl (.int .u64 (m : Int))
theorem opens_u64 : Opens Try.prog 26 uEl 1 (fun _ => 0) (fun m => m < 2 ^ 64) := fun {H} enc W fuel cs x h => by
  obtain ⟨a, h1, h2, k, b⟩ := opens_int Try.underlying26 enc W fuel cs x h
  have k' : 0 ≤ a ∧ a ≤ 18446744073709551615 := by simpa [Lit.wf, IntKind.min, IntKind.max, IntKind.signed, IntKind.bits] using k
  obtain ⟨s, rfl⟩ := Int.eq_ofNat_of_zero_le k'.1
  exact ⟨s, h1, h2, by omega, b⟩
theorem tkU : RowK Try.prog 41 26 1 (.int .u64 0) 8 := ⟨Try.underlying41, by kernel_rfl, rfl, by decide⟩
theorem opens_entries : Opens Try.prog 40 (fun l : List En => rowEl 4 (l.map enEl)) 1 (sumB enB) (fun l => ∀ x ∈ l, x.seq < 2 ^ 64) := opens_slice tkE (by kernel_rfl) opens_entry
theorem opens_u64s : Opens Try.prog 41 (fun l : List Nat => rowEl 1 (l.map uEl)) 1 (sumB fun _ => 0) (fun l => ∀ m ∈ l, m < 2 ^ 64) := opens_slice tkU (by kernel_rfl) opens_u64
theorem flat_u64s : ∀ (ms : List Nat), (ms.map fun (m : Nat) => [Value.int .u64 (m : Int)]).flatten = u64s ms
  | [] => rfl
  | m :: ms => by rw [List.map_cons, List.flatten_cons, flat_u64s ms]; rfl
theorem rd_u64s {w : World} {S : BS} {A : Option Addr} {ms : List Nat} (h : RdR 1 w S A (ms.map uEl)) : Rd w A ms.length (u64s ms) := by
  obtain ⟨css, h1, h2, _⟩ := h
  have he : css.flatten = u64s ms := by
    have hl := h1.1
    rw [List.length_map] at hl
    have : css = ms.map fun (m : Nat) => [Value.int .u64 (m : Int)] := by
      apply List.ext_getElem?
      intro i
      cases hi : css[i]? with
      | none => rw [List.getElem?_eq_none]; have := List.getElem?_eq_none_iff.1 hi; simp; omega
      | some cs =>
        obtain ⟨_, E, hE, hp⟩ := h1.2 i cs hi
        rw [List.getElem?_map] at hE ⊢
        cases hm : ms[i]? with
        | none => rw [hm] at hE; cases hE
        | some m => rw [hm] at hE; cases hE; exact congrArg some hp
    rw [this, flat_u64s]
  rw [he, List.length_map, Nat.mul_one] at h2
  exact h2
theorem ent_small {l : List En} (h : sumB enB l ≤ 1048576) : l.length ≤ 1048576 ∧ ∀ x ∈ l, x.key.length ≤ 1048576 ∧ x.val.length ≤ 1048576 := by
  have h1 := sumB_len (bulk := enB) l
  refine ⟨by omega, fun x hx => ?_⟩
  have h2 := sumB_mem (bulk := enB) hx
  have h3 : enB x = x.key.length + x.val.length := rfl
  omega
theorem w_ok {l : List En} (h : worstE [l] = 0) : checkE l = 0 ∧ Ord l := by
  have h1 : stepW 0 l = 0 := h
  unfold stepW errE at h1
  rcases checkE_le l with h0 | h0 | h0
  · cases ho : ordE l with
    | true => exact ⟨h0, ord_of ho⟩
    | false => rw [h0, ho] at h1; simp at h1
  · rw [h0] at h1; simp at h1
  · rw [h0] at h1; simp at h1
theorem check_ok {l : List En} (h : checkE l = 0) : ∀ x ∈ l, bigE x = false ∧ badE x = false := by
  intro x hx
  unfold checkE at h
  split at h
  · cases h
  · rename_i h1
    split at h
    · cases h
    · rename_i h2
      simp only [Bool.not_eq_true] at h1 h2
      have h1' := List.any_eq_false.1 h1 x hx
      have h2' := List.any_eq_false.1 h2 x hx
      simp only [Bool.not_eq_true] at h1' h2'
      exact ⟨h1', h2'⟩
theorem kind_ok {x : En} (h : badE x = false) : x.kind = 1 ∨ x.kind = 2 := by
  have := of_decide_eq_false h
  rcases Decidable.not_not.1 this with h | ⟨h, _⟩
  · exact .inl h
  · exact .inr h
theorem few_mem {l : List En} {n : Nat} {x : En} (h : x ∈ l.take n) : x ∈ l := List.mem_of_mem_take h
/-- The program's own list, of one key. -/
def awakeL : List En := [⟨[107], 9, 1, []⟩, ⟨[107], 7, 1, []⟩, ⟨[107], 5, 1, []⟩, ⟨[107], 3, 1, []⟩]
theorem awake_keep : worstE [awakeL] = 0 ∧ keepE awakeL false [6] = [⟨[107], 9, 1, []⟩, ⟨[107], 5, 1, []⟩] := by decide
set_option maxRecDepth 8000 in
theorem awake_any (w : World) : CallsV Try.prog 21 #[] w fun v w' => v = .bool true ∧ Below w.heap.size w w' := by
  have hs := St.init w
  refine calls_in (N := _) Try.func21 rfl Try.ntmps21 rfl ?_; show WC _ _ _ _ _ _
  refine wc_sr ?_; refine wl_as rfl rfl ?_; refine wl_ns ?_; refine wc_sr ?_
  refine ws_lit hs [107] tyB Try.underlying5 ⟨rfl, rfl, rfl, trivial⟩ rfl (by decide) (by decide) rfl rfl ?_
  clear hs; intro _ A w1 hs
  refine wl_as rfl rfl ?_; refine wl_ns ?_; refine wc_sr ?_; refine wl_mv rfl rfl ?_
  refine wl_val (opv_build (vs := [(0, .slice A 1 1), (1, .int .u64 9), (2, .int .u8 1)]) (cs := enV ⟨[107], 9, 1, []⟩ A 1 none 0) ⟨rfl, rfl, rfl, rfl, rfl, rfl, trivial⟩ (by kernel_rfl)) rfl ?_
  refine wl_mv rfl rfl ?_
  refine wl_val (opv_build (vs := [(0, .slice A 1 1), (1, .int .u64 7), (2, .int .u8 1)]) (cs := enV ⟨[107], 7, 1, []⟩ A 1 none 0) ⟨rfl, rfl, rfl, rfl, rfl, rfl, trivial⟩ (by kernel_rfl)) rfl ?_
  refine wl_mv rfl rfl ?_
  refine wl_val (opv_build (vs := [(0, .slice A 1 1), (1, .int .u64 5), (2, .int .u8 1)]) (cs := enV ⟨[107], 5, 1, []⟩ A 1 none 0) ⟨rfl, rfl, rfl, rfl, rfl, rfl, trivial⟩ (by kernel_rfl)) rfl ?_
  refine wl_mv rfl rfl ?_
  refine wl_val (opv_build (vs := [(0, .slice A 1 1), (1, .int .u64 3), (2, .int .u8 1)]) (cs := enV ⟨[107], 3, 1, []⟩ A 1 none 0) ⟨rfl, rfl, rfl, rfl, rfl, rfl, trivial⟩ (by kernel_rfl)) rfl ?_
  skip
  have hby : ∀ {w' : World}, Below w1.heap.size w1 w' → (byEl [107]).P w' All [.slice A 1 1] := fun hb => El.below (hs.ce 0 rfl) hb
  have hen : ∀ (s : Nat), (enEl ⟨[107], s, 1, []⟩).P w1 All (enV ⟨[107], s, 1, []⟩ A 1 none 0) := fun s => enEl.mk (hby (Below.refl _ _)) (byEl.mk (xs := []) (Rd.nil _ _) (Nat.zero_le _) fun _ _ _ => trivial)
  refine wl_bsG (css := [enV ⟨[107], 9, 1, []⟩ A 1 none 0, enV ⟨[107], 7, 1, []⟩ A 1 none 0, enV ⟨[107], 5, 1, []⟩ A 1 none 0, enV ⟨[107], 3, 1, []⟩ A 1 none 0]) tkE ⟨rfl, ⟨_, rfl, rfl⟩, rfl, rfl, ⟨_, rfl, rfl⟩, rfl, rfl, ⟨_, rfl, rfl⟩, rfl, rfl, ⟨_, rfl, rfl⟩, rfl, trivial⟩ (els := awakeL.map enEl) rfl (by decide) (by decide)
    ((Grp.one (hen 9) rfl).append ((Grp.one (hen 7) rfl).append ((Grp.one (hen 5) rfl).append (Grp.one (hen 3) rfl)))) rfl fun R w2 hR hbx _ => ?_
  replace hs := hs.below hbx
  have hR := OwR.rd hR
  skip
  refine wl_bs (vs := [.int .u64 6]) tyQ ⟨rfl, rfl, rfl, trivial⟩ rfl (by decide) rfl fun B w3 ho3 hbx3 _ => ?_
  replace hs := hs.below hbx3
  replace hR := hR.below hbx3
  refine wl_call ok_merge_Keep (keep_any (bt := false) (ms := [6]) (nb := 1) hR rfl (by decide) (Ow.rd ho3) (by decide) (by decide) (by decide)) ⟨rfl, rfl, rfl, trivial⟩ rfl ?_
  rintro _ w4 ⟨P, cp, rfl, hsx⟩
  rw [awake_keep.1, if_pos rfl, awake_keep.2] at hsx
  rw [awake_keep.1, if_pos rfl, awake_keep.2]
  obtain ⟨b, o, cs, rfl, _, _, hp, i1⟩ := RdR.at (k := 4) (by decide) (OwR.rd (hsx.rsE 0 rfl)) (E := enEl ⟨[107], 9, 1, []⟩) (i := 0) rfl
  obtain ⟨_, _, cs2, hA, _, _, hp2, i2⟩ := RdR.at (k := 4) (by decide) (OwR.rd (hsx.rsE 0 rfl)) (E := enEl ⟨[107], 5, 1, []⟩) (i := 1) rfl
  simp only [Option.some.injEq, Addr.mk.injEq, and_true] at hA
  obtain ⟨rfl, rfl⟩ := hA
  obtain ⟨U, cu, U2, cu2, rfl, _⟩ := enEl.rd (El.all hp)
  obtain ⟨V, cv, V2, cv2, rfl, _⟩ := enEl.rd (El.all hp2)
  unfold enV at i1 i2
  have hb4 := hs.bel.trans (hsx.bel.mono hs.size)
  have j0 : ((0 : Nat) : Int) = 0 := rfl
  refine wl_mv rfl rfl ?_; apply wl_val; apply opv_extract; exact rfl; exact rfl; exact rfl; apply wl_val; apply opv_extract; exact rfl; exact rfl; exact rfl; refine wl_as rfl rfl ?_; refine wl_as rfl rfl ?_; refine wl_ns ?_; refine wc_sr ?_; refine wl_mv rfl rfl ?_; refine wl_bin rfl rfl bin_eql rfl ?_; refine wl_mv rfl rfl ?_; apply wl_take; exact rfl; exact rfl; exact rfl; refine bT ?_; (with_reducible assumption); refine wl_mv rfl rfl ?_; apply wl_take; exact rfl; exact rfl; exact rfl; refine bT ?_; (with_reducible assumption); apply wl_val; apply opv_len; exact rfl; exact tkE.sl; exact rfl; apply wl_take; exact rfl; exact rfl; exact rfl; refine bT ?_; (with_reducible assumption); refine wl_bin rfl rfl bin_eql rfl ?_; apply wl_val; apply opv_pickT; exact rfl; refine bT ?_; (with_reducible assumption); exact rfl; exact rfl; refine wl_mv rfl rfl ?_; apply wl_take; exact rfl; exact rfl; exact rfl; refine bT ?_; exact rfl; refine wl_mv rfl rfl ?_; apply wl_take; exact rfl; exact rfl; exact rfl; refine bT ?_; exact rfl; apply wl_val; apply opv_idxG (kk := 0) tkE; exact rfl; exact rfl; exact rfl; exact Nat.le_of_ble_eq_true rfl; exact rfl; apply wl_take; exact rfl; exact rfl; exact rfl; refine bT ?_; exact rfl; apply wl_val; apply opv_fa; exact fa_sE (by decide); exact rfl; exact rfl; apply wl_take; exact rfl; exact rfl; exact rfl; refine bT ?_; exact rfl; apply wl_val; apply opv_ldW; exact rfl; assumption; exact e1_u64; exact rfl; exact rfl; apply wl_take; exact rfl; exact rfl; exact rfl; refine bT ?_; exact rfl; refine wl_bin rfl rfl bin_eql rfl ?_; apply wl_val; apply opv_pickT; exact rfl; refine bT ?_; exact rfl; exact rfl; exact rfl; refine wl_mv rfl rfl ?_; apply wl_take; exact rfl; exact rfl; exact rfl; refine bT ?_; exact rfl; refine wl_mv rfl rfl ?_; apply wl_take; exact rfl; exact rfl; exact rfl; refine bT ?_; exact rfl; apply wl_val; apply opv_idxG (kk := 1) tkE; exact rfl; exact rfl; exact rfl; exact Nat.le_of_ble_eq_true rfl; exact rfl; apply wl_take; exact rfl; exact rfl; exact rfl; refine bT ?_; exact rfl; apply wl_val; apply opv_fa; exact fa_sE (by decide); exact rfl; exact rfl; apply wl_take; exact rfl; exact rfl; exact rfl; refine bT ?_; exact rfl; apply wl_val; apply opv_ldW; exact rfl; assumption; exact e1_u64; exact rfl; exact rfl; apply wl_take; exact rfl; exact rfl; exact rfl; refine bT ?_; exact rfl; refine wl_bin rfl rfl bin_eql rfl ?_; apply wl_val; apply opv_pickT; exact rfl; refine bT ?_; exact rfl; exact rfl; exact rfl; refine wl_as rfl rfl ?_; refine wl_ns ?_; refine wc_ret ?_
  exact we_ret1 rfl rfl ⟨_, rfl, rfl, hb4⟩
abbrev RetTr (w : World) (v : Value) (w' : World) : Prop := v = .bool true ∧ Below w.heap.size w w'
theorem rows_one {w : World} {A : Option Addr} {n c : Nat} {l : List En} (hr : RdR 4 w All A (l.map enEl)) (hn : l.length = n) (hc : n ≤ c) : Grp 1 w All (rowsE [l]) [[.slice A n c]] :=
  Grp.one (by subst hn; have := rowEl.mk hr (c := c) (by simpa using hc) (by decide); simpa using this) rfl
theorem sees_any {A : Option Addr} {n c m : Nat} {l : List En} {w : World} (hr : RdR 4 w All A (l.map enEl)) (hn : l.length = n) (hc : n ≤ c) (hsq : ∀ x ∈ l, x.seq < 2 ^ 64) (hl : sumB enB l ≤ 1048576) (hm : m < 2 ^ 64) :
    CallsV Try.prog 5 #[.slice A n c, .int .u64 (m : Int)] w (RetTr w) := by
  obtain ⟨hl1, hok1⟩ := ent_small hl
  have hs := St.init w
  refine calls_in (N := _) Try.func5 rfl Try.ntmps5 rfl ?_; show WC _ _ _ _ _ _
  refine wc_sr ?_; refine wl_as rfl rfl ?_; refine wl_ns ?_; refine wc_seq ?_; refine wc_sr ?_
  refine wl_call ok_caissonlaw11_awake (awake_any _) trivial rfl ?_; rintro _ _ ⟨rfl, hbx⟩; replace hs := hs.below hbx; try dsimp only [List.cons_append, List.nil_append, setC, delC] at hs
  apply wl_val; apply opv_not; exact rfl; exact rfl; refine wl_ns ?_; apply wc_condFb; exact rfl; exact Bool.not_true; refine wc_skip ?_; refine we_seq ?_; refine wc_sr ?_; refine wl_mv rfl rfl ?_
  refine wl_call ok_caissonlaw11_few (few_any (m := 60) hn hc) ⟨rfl, rfl, trivial⟩ rfl ?_; rintro _ _ ⟨rfl, rfl⟩
  have hr2 := take_rdr (m := 60) hr (by omega)
  have hok : ∀ x ∈ l.take 60, x.key.length ≤ 1048576 ∧ x.val.length ≤ 1048576 := fun x hx => hok1 x (few_mem hx)
  have hsq2 : ∀ x ∈ l.take 60, x.seq < 2 ^ 64 := fun x hx => hsq x (few_mem hx)
  have hlen : (l.take 60).length ≤ 60 := by rw [List.length_take]; omega
  have hlc : (l.take 60).length ≤ c := by rw [List.length_take]; omega
  obtain ⟨k, hk⟩ : ∃ q, l.take 60 = q := ⟨_, rfl⟩
  rw [hk] at hr2 hok hsq2 hlen hlc
  rw [hk]
  clear hr hok1 hsq hk
  refine wl_as rfl rfl ?_; refine wl_ns ?_; refine wc_sr ?_; refine wl_mv rfl rfl ?_
  refine wl_call ok_caissonref07_Twins (twinsE_any (hr2.below hs.bel) rfl (fun x hx => by have := hok x hx; omega) (by omega)) ⟨rfl, trivial⟩ rfl ?_
  rintro _ w2 ⟨B, d, rfl, hB, hbx2⟩
  replace hs := hs.below hbx2
  have hBl := OwR.len_le hB
  rw [List.length_map] at hBl
  refine wl_mv rfl rfl ?_
  refine wl_call ok_merge_Visible (visible_any (m := m) (OwR.rd hB) rfl hBl (fun x hx => by have := hok x hx; omega) (by omega)) ⟨rfl, rfl, trivial⟩ rfl ?_
  rintro _ w3 ⟨P, cp, rfl, hsx⟩
  replace hs := hs.call hsx
  dsimp only [List.cons_append, List.nil_append] at hs
  refine wl_mv rfl rfl ?_; apply wl_val; apply opv_extract; exact rfl; exact rfl; exact rfl; apply wl_val; apply opv_extract; exact rfl; exact rfl; exact rfl; refine wl_as rfl rfl ?_; refine wl_as rfl rfl ?_; refine wl_ns ?_; refine wc_sr ?_; refine wl_mv rfl rfl ?_
  refine wl_bsG (css := [[.slice A k.length c]]) tkEE ⟨rfl, ⟨_, rfl, rfl⟩, rfl, trivial⟩ (els := rowsE [k]) rfl (by decide) (by decide) (rows_one (hr2.below hs.bel) rfl hlc) rfl fun R w4 hR hbx4 _ => ?_
  replace hs := hs.below hbx4
  skip
  refine wl_call ok_caissonref11_Check (refCheck11_any (lists := [k]) (OwR.rd hR) rfl (by intro l' h; simp at h; subst h; exact ⟨by omega, fun x hx => by have := hok x hx; simp only [maxLen]; omega⟩) (by simp)) ⟨rfl, trivial⟩ rfl ?_; rintro _ _ ⟨rfl, hbx5⟩; replace hs := hs.below hbx5; try dsimp only [List.cons_append, List.nil_append, setC, delC] at hs
  obtain ⟨e, he⟩ : ∃ q, worstE [k] = q := ⟨_, rfl⟩
  rw [he] at hs
  rw [he]
  by_cases h0 : e = 0
  · subst h0
    rw [if_pos rfl] at hs
    rw [if_pos rfl]
    obtain ⟨hck, hord⟩ := w_ok he
    refine wl_as rfl rfl ?_; refine wl_ns ?_; refine wc_seq ?_; refine wc_sr ?_; refine wl_mv rfl rfl ?_; refine wl_mv rfl rfl ?_; refine wl_bin rfl rfl bin_neq rfl ?_; refine wl_ns ?_; apply wc_condFb; exact rfl; exact rfl; refine wc_skip ?_; refine we_seq ?_; refine wc_seq ?_; refine wc_sr ?_; refine wl_mv rfl rfl ?_; refine wl_bin rfl rfl bin_neq rfl ?_; refine wl_ns ?_; apply wc_condFb; exact rfl; exact rfl; refine wc_skip ?_; refine we_seq ?_; refine wc_sr ?_; refine wl_mv rfl rfl ?_; refine wl_mv rfl rfl ?_; refine wl_mv rfl rfl ?_
    refine wl_call ok_caissonref11_Visible (refVisible_any (S := All) (m := m) (hr2.below hs.bel) rfl (fun x hx => by have := hok x hx; simp only [maxLen]; exact ⟨by omega, hsq2 x hx⟩) (by omega)) ⟨rfl, rfl, trivial⟩ rfl ?_
    rintro _ w6 ⟨V, cv, rfl, hV, hbx6⟩
    replace hs := hs.below hbx6
    have hvl : (refVis k m).length ≤ 60 := Nat.le_trans (List.length_filter_le _ _) hlen
    rw [vis_eq hord m] at hs
    rw [vis_eq hord m]
    refine wl_call ok_caissonref07_SameList (sameListE_any (OwR.rd (hs.rsE 0 rfl)) (OwR.rd hV) rfl rfl (fun x hx => by have := hok x (List.mem_filter.1 hx).1; simp only [maxLen]; omega) (by omega) (by omega)) ⟨rfl, rfl, trivial⟩ rfl ?_
    rintro _ w7 ⟨⟨b, rfl, hb⟩, hbx7⟩
    obtain rfl := hb.2 rfl
    replace hs := hs.below hbx7
    refine wl_as rfl rfl ?_; refine wl_ns ?_; refine wc_ret ?_
    exact we_ret1 rfl rfl ⟨_, rfl, rfl, hs.bel⟩
  · rw [if_neg h0] at hs
    rw [if_neg h0]
    have h0' : (e : Int) ≠ 0 := by omega
    refine wl_as rfl rfl ?_; refine wl_ns ?_; refine wc_seq ?_; refine wc_sr ?_; refine wl_mv rfl rfl ?_; refine wl_mv rfl rfl ?_; refine wl_bin rfl rfl bin_neq rfl ?_; refine wl_ns ?_; apply wc_decF; exact rfl; (with_reducible exact nne); refine wc_skip ?_; refine we_seq ?_; refine wc_seq ?_; refine wc_sr ?_; refine wl_mv rfl rfl ?_; refine wl_bin rfl rfl bin_neq rfl ?_; refine wl_ns ?_; apply wc_decT; exact rfl; (with_reducible assumption); refine wc_sr ?_; refine wl_mv rfl rfl ?_; apply wl_val; apply opv_len; exact rfl; exact tkE.sl; exact rfl; refine wl_bin rfl rfl bin_eql rfl ?_; refine wl_as rfl rfl ?_; refine wl_ns ?_; refine wc_ret ?_; refine we_seq_ret ?_
    exact we_ret1 rfl rfl ⟨_, rfl, rfl, hs.bel⟩
theorem u64s_one (ms : List Nat) : ∀ u ∈ u64s ms, u.oneCell' = true := by
  intro u hu; simp [u64s] at hu; obtain ⟨_, _, rfl⟩ := hu; rfl
set_option maxRecDepth 4000 in
theorem keeps_any {A B : Option Addr} {n c nb cb : Nat} {l : List En} {bt : Bool} {ms : List Nat} {w : World} (hr : RdR 4 w All A (l.map enEl)) (hn : l.length = n) (hc : n ≤ c) (hsq : ∀ x ∈ l, x.seq < 2 ^ 64) (hl : sumB enB l ≤ 1048576) (hm0 : RdR 1 w All B (ms.map uEl)) (hnb : ms.length = nb) (hcb : nb ≤ cb) (_hms : ∀ m ∈ ms, m < 2 ^ 64) (hml : (sumB (fun _ => 0) ms : Nat) ≤ 1048576) :
    CallsV Try.prog 4 #[.slice A n c, .bool bt, .slice B nb cb] w (RetTr w) := by
  obtain ⟨hl1, hok1⟩ := ent_small hl
  have hm := rd_u64s hm0
  have hml1 := sumB_len (bulk := fun _ : Nat => 0) ms
  subst hnb
  have hs := St.init w
  refine calls_in (N := _) Try.func4 rfl Try.ntmps4 rfl ?_; show WC _ _ _ _ _ _
  refine wc_sr ?_; refine wl_as rfl rfl ?_; refine wl_ns ?_; refine wc_seq ?_; refine wc_sr ?_
  refine wl_call ok_caissonlaw11_awake (awake_any _) trivial rfl ?_; rintro _ _ ⟨rfl, hbx⟩; replace hs := hs.below hbx; try dsimp only [List.cons_append, List.nil_append, setC, delC] at hs
  apply wl_val; apply opv_not; exact rfl; exact rfl; refine wl_ns ?_; apply wc_condFb; exact rfl; exact Bool.not_true; refine wc_skip ?_; refine we_seq ?_; refine wc_sr ?_; refine wl_mv rfl rfl ?_
  refine wl_call ok_caissonlaw11_few (few_any (m := 40) hn hc) ⟨rfl, rfl, trivial⟩ rfl ?_; rintro _ _ ⟨rfl, rfl⟩
  have hr2 := take_rdr (m := 40) hr (by omega)
  have hok : ∀ x ∈ l.take 40, x.key.length ≤ 1048576 ∧ x.val.length ≤ 1048576 := fun x hx => hok1 x (few_mem hx)
  have hsq2 : ∀ x ∈ l.take 40, x.seq < 2 ^ 64 := fun x hx => hsq x (few_mem hx)
  have hlen : (l.take 40).length ≤ 40 := by rw [List.length_take]; omega
  have hlc : (l.take 40).length ≤ c := by rw [List.length_take]; omega
  obtain ⟨k, hk⟩ : ∃ q, l.take 40 = q := ⟨_, rfl⟩
  rw [hk] at hr2 hok hsq2 hlen hlc
  rw [hk]
  clear hr hok1 hsq hk
  refine wl_as rfl rfl ?_; refine wl_ns ?_; refine wc_sr ?_; refine wl_mv rfl rfl ?_
  refine wl_call ok_caissonref07_Twins (twinsE_any (hr2.below hs.bel) rfl (fun x hx => by have := hok x hx; omega) (by omega)) ⟨rfl, trivial⟩ rfl ?_
  rintro _ w2 ⟨D, d, rfl, hB, hbx2⟩
  replace hs := hs.newG hbx2 hB (Nat.le_refl _) fun _ _ h => h
  have hBl := OwR.len_le hB
  rw [List.length_map] at hBl
  refine wl_mv rfl rfl ?_
  refine ws_bs (vs := []) hs tyQ trivial rfl (by decide) rfl ?_
  clear hs; intro E0 w3 hs
  refine wl_mv rfl rfl ?_
  refine ws_app (ys := u64s ms) (m := ms.length) hs 0 rfl rfl tyQ rfl (hm.below hs.bel) (u64s_one ms) (by omega) (by simp only [maxLen]; omega) rfl ?_
  clear hs; intro E1 c1 w4 hs; dsimp only [setC] at hs
  rw [List.nil_append, Nat.zero_add] at hs
  rw [Nat.zero_add]
  refine wl_call ok_merge_Keep (keep_any (bt := bt) (ms := ms) (OwR.rd (hs.rg 1 rfl)) rfl hBl (hs.ow 0 rfl).rd (fun x hx => by have := hok x hx; omega) (by omega) (by omega)) ⟨rfl, rfl, rfl, trivial⟩ rfl ?_
  rintro _ w5 ⟨P, cp, rfl, hsx⟩
  replace hs := ((hs.drop 0 rfl).drop 0 rfl).call hsx
  dsimp only [delC, List.cons_append, List.nil_append] at hs
  refine wl_mv rfl rfl ?_; apply wl_val; apply opv_extract; exact rfl; exact rfl; exact rfl; apply wl_val; apply opv_extract; exact rfl; exact rfl; exact rfl; refine wl_as rfl rfl ?_; refine wl_as rfl rfl ?_; refine wl_ns ?_; refine wc_sr ?_; refine wl_mv rfl rfl ?_
  refine wl_bsG (css := [[.slice A k.length c]]) tkEE ⟨rfl, ⟨_, rfl, rfl⟩, rfl, trivial⟩ (els := rowsE [k]) rfl (by decide) (by decide) (rows_one (hr2.below hs.bel) rfl hlc) rfl fun R w6 hR hbx4 _ => ?_
  replace hs := hs.below hbx4
  skip
  refine wl_call ok_caissonref11_Check (refCheck11_any (lists := [k]) (OwR.rd hR) rfl (by intro l' h; simp at h; subst h; exact ⟨by omega, fun x hx => by have := hok x hx; simp only [maxLen]; omega⟩) (by simp)) ⟨rfl, trivial⟩ rfl ?_; rintro _ _ ⟨rfl, hbx5⟩; replace hs := hs.below hbx5; try dsimp only [List.cons_append, List.nil_append, setC, delC] at hs
  obtain ⟨e, he⟩ : ∃ q, worstE [k] = q := ⟨_, rfl⟩
  rw [he] at hs
  rw [he]
  by_cases h0 : e = 0
  · subst h0
    rw [if_pos rfl] at hs
    rw [if_pos rfl]
    obtain ⟨hck, hord⟩ := w_ok he
    have hkd : ∀ x ∈ k, x.kind = 1 ∨ x.kind = 2 := fun x hx => kind_ok (check_ok hck x hx).2
    refine wl_as rfl rfl ?_; refine wl_ns ?_; refine wc_seq ?_; refine wc_sr ?_; refine wl_mv rfl rfl ?_; refine wl_mv rfl rfl ?_; refine wl_bin rfl rfl bin_neq rfl ?_; refine wl_ns ?_; apply wc_condFb; exact rfl; exact rfl; refine wc_skip ?_; refine we_seq ?_; refine wc_seq ?_; refine wc_sr ?_; refine wl_mv rfl rfl ?_; refine wl_bin rfl rfl bin_neq rfl ?_; refine wl_ns ?_; apply wc_condFb; exact rfl; exact rfl; refine wc_skip ?_; refine we_seq ?_; refine wc_sr ?_; refine wl_mv rfl rfl ?_; refine wl_mv rfl rfl ?_; refine wl_mv rfl rfl ?_; refine wl_mv rfl rfl ?_
    refine wl_call ok_caissonref11_Keep (refKeep_any (S := All) (bt := bt) (ms := ms) (hr2.below hs.bel) rfl (hm.below hs.bel) (fun x hx => by have := hok x hx; simp only [maxLen]; omega) (by omega) (by omega)) ⟨rfl, rfl, rfl, trivial⟩ rfl ?_
    rintro _ w7 ⟨V, cv, rfl, hV, hbx6⟩
    replace hs := hs.below hbx6
    rw [keep_eq hord hsq2 hkd] at hs
    rw [keep_eq hord hsq2 hkd]
    have hvl : (refKeep k bt ms).length ≤ 40 := by
      rw [← keep_eq hord hsq2 hkd]
      have := flat_len (keepR_len bt ms) (runsE k)
      rw [runs_sum] at this
      exact Nat.le_trans this hlen
    have hvm : ∀ x ∈ refKeep k bt ms, x ∈ k := fun x hx => by
      rw [← keep_eq hord hsq2 hkd] at hx
      obtain ⟨r, hr, hxr⟩ := List.mem_flatMap.1 hx
      have := List.mem_of_mem_take hxr
      rw [needE, List.mem_filterMap] at this
      obtain ⟨i, _, hi⟩ := this
      rw [pick] at hi
      split at hi
      · exact ((runsE_facts k).2 r hr).2.1 x (List.mem_of_getElem? hi)
      · cases hi
    refine wl_call ok_caissonref07_SameList (sameListE_any (OwR.rd (hs.rsE 0 rfl)) (OwR.rd hV) rfl rfl (fun x hx => by have := hok x (hvm x hx); simp only [maxLen]; omega) (by omega) (by omega)) ⟨rfl, rfl, trivial⟩ rfl ?_
    rintro _ w8 ⟨⟨b, rfl, hb⟩, hbx7⟩
    obtain rfl := hb.2 rfl
    replace hs := hs.below hbx7
    refine wl_as rfl rfl ?_; refine wl_ns ?_; refine wc_ret ?_
    exact we_ret1 rfl rfl ⟨_, rfl, rfl, hs.bel⟩
  · rw [if_neg h0] at hs
    rw [if_neg h0]
    have h0' : (e : Int) ≠ 0 := by omega
    refine wl_as rfl rfl ?_; refine wl_ns ?_; refine wc_seq ?_; refine wc_sr ?_; refine wl_mv rfl rfl ?_; refine wl_mv rfl rfl ?_; refine wl_bin rfl rfl bin_neq rfl ?_; refine wl_ns ?_; apply wc_decF; exact rfl; (with_reducible exact nne); refine wc_skip ?_; refine we_seq ?_; refine wc_seq ?_; refine wc_sr ?_; refine wl_mv rfl rfl ?_; refine wl_bin rfl rfl bin_neq rfl ?_; refine wl_ns ?_; apply wc_decT; exact rfl; (with_reducible assumption); refine wc_sr ?_; refine wl_mv rfl rfl ?_; apply wl_val; apply opv_len; exact rfl; exact tkE.sl; exact rfl; refine wl_bin rfl rfl bin_eql rfl ?_; refine wl_as rfl rfl ?_; refine wl_ns ?_; refine wc_ret ?_; refine we_seq_ret ?_
    exact we_ret1 rfl rfl ⟨_, rfl, rfl, hs.bel⟩
end Go.Proofs.Ytpnckagibkdcpaa


/-
  Walks over Open and Merge of the program.
-/
namespace Go.Proofs.Ytpnckagibkdcpaa
open Go.RowKit

theorem buildS (A : Option Addr) (n c : Nat) (s : Int) : Try.prog.built 96 [(0, .slice A n c), (1, .int .i64 s)] = some #[.slice A n c, .int .i64 s] := by kernel_rfl
theorem step_zero {w : Nat} {l : List En} (h : stepW w l = 0) : w = 0 ∧ checkE l = 0 ∧ Ord l := by
  unfold stepW at h
  by_cases hc : errE l ≠ 0 ∧ (w = 0 ∨ errE l < w)
  · rw [if_pos hc] at h; exact absurd h hc.1
  · rw [if_neg hc] at h
    subst h
    have he : errE l = 0 := by
      by_cases h0 : errE l = 0
      · exact h0
      · exact absurd ⟨h0, .inl rfl⟩ hc
    have hw : worstE [l] = 0 := by show stepW 0 l = 0; rw [stepW, if_neg (by simp [he])]
    exact ⟨rfl, w_ok hw⟩
theorem fold_zero : ∀ {lists : List (List En)} {w : Nat}, lists.foldl stepW w = 0 → w = 0 ∧ ∀ l ∈ lists, checkE l = 0 ∧ Ord l
  | [], w, h => ⟨h, fun _ h => by cases h⟩
  | l :: lists, w, h => by
    obtain ⟨h1, h2⟩ := fold_zero (lists := lists) h
    obtain ⟨h3, h4⟩ := step_zero h1
    refine ⟨h3, fun x hx => ?_⟩
    rcases List.mem_cons.1 hx with rfl | hx
    · exact h4
    · exact h2 x hx
theorem worst_zero {lists : List (List En)} (h : worstE lists = 0) : ∀ l ∈ lists, Ord l := fun l hl => ((fold_zero h).2 l hl).2
theorem memC_add {w : World} {T : BS} {srcs : List SrcA} {s : SrcA} (h : Sat w [.ck (memC srcs), .ck (memC [s])] T) : (memC (srcs ++ [s])).P w T := by
  have h1 := Sat.split (H1 := srcs.flatMap srcM) h fun T h => h
  have h2 := Sat.split (H1 := [s].flatMap srcM) (H := srcs.flatMap srcM) (Sat.swap (H2 := [.ck (memC [s])]) h1) fun T h => h
  show Sat w ((srcs ++ [s]).flatMap srcM) T
  rw [List.flatMap_append]
  exact h2.swap
/-- What has been opened. -/
def RetOpen (w : World) (lists : List (List En)) (v : Value) (w' : World) : Prop :=
  (worstE lists = 0 ∧ ∃ g, v = .tuple #[.pointer (some ⟨g, 0, none⟩), .int .i64 (0 : Nat)] ∧ St NoB w w' [.ck (strC g (mergeE lists))]) ∨ (¬ worstE lists = 0 ∧ v = .tuple #[.pointer none, .int .i64 (worstE lists : Nat)] ∧ Below w.heap.size w w')
set_option maxRecDepth 8000 in
theorem open_any {A : Option Addr} {n c : Nat} {lists : List (List En)} {w : World} (hr : RdR 1 w All A (rowsE lists)) (hn : lists.length = n) (hok : ∀ l ∈ lists, l.length ≤ 1048576 ∧ ∀ x ∈ l, x.key.length ≤ 1048576 ∧ x.val.length ≤ 1048576) (hl : lists.length ≤ 1000) :
    CallsV Try.prog 35 #[.slice A n c] w (RetOpen w lists) := by
  subst hn
  have hmax : maxLen = 9223372036854775807 := rfl
  have hs := St.init w
  refine calls_in (N := _) Try.func35 rfl Try.ntmps35 rfl ?_; show WC _ _ _ _ _ _
  refine wc_sr ?_; refine wl_as rfl rfl ?_; refine wl_as rfl rfl ?_; refine wl_ns ?_; refine wc_seq ?_; refine wc_sr ?_; refine wl_mv rfl rfl ?_
  refine wl_call ok_merge_check (mcheck_any hr rfl (fun l h => ⟨(hok l h).1, fun x hx => by have := ((hok l h).2 x hx).1; omega⟩) (by omega)) ⟨rfl, trivial⟩ rfl ?_; rintro _ _ ⟨rfl, hbx⟩; replace hs := hs.below hbx; try dsimp only [List.cons_append, List.nil_append, setC, delC] at hs
  by_cases hw : worstE lists = 0
  case neg =>
    have h1 : ¬ ((worstE lists : Nat) : Int) = 0 := by omega
    refine wl_as rfl rfl ?_; refine wl_ns ?_; refine wc_sr ?_; refine wl_mv rfl rfl ?_; refine wl_bin rfl rfl bin_neq rfl ?_; refine wl_ns ?_; apply wc_decT; exact rfl; (with_reducible assumption); refine wc_sr ?_; refine wl_mv rfl rfl ?_; refine wl_as rfl rfl ?_; refine wl_as rfl rfl ?_; refine wl_ns ?_; refine wc_ret ?_; refine we_seq_ret ?_
    exact we_ret2 rfl rfl rfl ⟨_, rfl, .inr ⟨hw, rfl, hs.bel⟩⟩
  have h1 : ((worstE lists : Nat) : Int) = 0 := by omega
  have hord := worst_zero hw
  refine wl_as rfl rfl ?_; refine wl_ns ?_; refine wc_sr ?_; refine wl_mv rfl rfl ?_; refine wl_bin rfl rfl bin_neq rfl ?_; refine wl_ns ?_; apply wc_decF; exact rfl; omega; refine wc_skip ?_; refine we_seq ?_; refine wc_sr ?_; apply wl_val; apply opv_build (vs := []) (cs := [.slice none 0 0, .pointer none]); exact trivial; exact buildM0; exact rfl
  refine ws_box (cs := [.slice none 0 0, .pointer none]) hs rfl rfl ?_; clear hs; intro g5 _ hs
  replace hs := St.map (H' := [.rg 2 96 none 0 (srcEls []), .blk g5 62 [.slice none ([] : List SrcA).length 0, .pointer none], .ck (memC [])]) (hs.nilG 2 96) fun T h =>
    Sat.packR (X := [.rg 2 96 none 0 (srcEls []), .blk g5 62 [.slice none 0 0, .pointer none]]) (Y := []) h fun T _ => True.intro
  refine wl_as rfl rfl ?_; refine wl_ns ?_; refine wc_seq ?_; refine wc_sr ?_; refine wl_mv rfl rfl ?_; apply wl_val; apply opv_len; exact rfl; exact tkEE.sl; exact rfl; refine wl_mv rfl rfl ?_; refine wl_ns ?_; refine wc_block ?_
  refine wc_loop (fun L wr mm => ∃ (k : Nat) (Q : Option Addr) (cq : Nat) (srcs : List SrcA), L = [(5, .pointer (some ⟨g5, 0, none⟩)), (15, .slice A lists.length c), (16, .int .i64 (lists.length : Int)), (17, .int .i64 (k : Int))] ∧ k ≤ lists.length ∧ St NoB w wr (hpP g5 Q cq (.pointer none) srcs srcs) ∧ srcs.length ≤ k ∧ WfS srcs ∧ (∀ s ∈ srcs, s.place < k) ∧ (∀ y, y ∈ pairs srcs ↔ ∃ i l, i < k ∧ lists[i]? = some l ∧ y.1 ∈ l ∧ y.2 = i) ∧ mm = lists.length - k)
    [(5, .pointer (some ⟨g5, 0, none⟩)), (15, .slice A lists.length c), (16, .int .i64 (lists.length : Int)), (17, .int .i64 (0 : Nat))] lists.length ⟨0, none, 0, [], rfl, by omega, hs, by simp, ⟨by simp, by simp, by simp⟩, by simp, fun y => by simp [pairs], rfl⟩ ⟨rfl, rfl, rfl, rfl, trivial⟩ ?_
  clear hs
  rintro _ w1 mm ⟨k, Q, cq, srcs, rfl, hk, hs, hsl, hwf, hpl, hpr, rfl⟩
  refine wc_sr ?_; refine wl_bin rfl rfl bin_lss rfl ?_; refine wl_ns ?_; refine wc_seq ?_
  refine wc_cond rfl (fun h2 => ?_) (fun h2 => ?_)
  · obtain ⟨l, hx⟩ : ∃ l, lists[k]? = some l := ⟨_, List.getElem?_eq_getElem (by omega)⟩
    obtain ⟨b, o, X, cx, rfl, hcx, rl, i1⟩ := rowsE_at hr hx
    replace i1 := i1.below hs.bel
    obtain ⟨hol, hox⟩ := hok l (List.mem_of_getElem? hx)
    have hget : ∀ {i : Nat} {l' : List En}, i = k → lists[i]? = some l' → l' = l := fun h h' => by subst h; rw [hx] at h'; exact (Option.some.inj h').symm
    refine wc_skip ?_; refine we_seq ?_; refine wc_seq ?_; refine wc_block ?_; refine wc_sr ?_; refine wl_mv rfl rfl ?_; apply wl_val; apply opv_idxG tkEE; exact rfl; exact rfl; exact rfl; omega; exact rfl; apply wl_val; apply opv_ldW0; exact rfl; assumption; exact e1_row; exact rfl; exact rfl; refine wl_as rfl rfl ?_; refine wl_as rfl rfl ?_; refine wl_ns ?_; refine wc_sr ?_; refine wl_mv rfl rfl ?_; apply wl_val; apply opv_len; exact rfl; exact tkE.sl; exact rfl; refine wl_bin rfl rfl bin_gtr rfl ?_; refine wl_ns ?_
    by_cases hl0 : l = []
    · have h3 : ¬ (0 : Int) < (l.length : Int) := by rw [hl0]; decide
      apply wc_decF; exact rfl; (with_reducible assumption); refine wc_skip ?_; refine we_block_norm ?_; refine we_seq ?_; refine wc_region ?_; apply wl_val; apply opv_bin; exact rfl; exact rfl; exact bin_add64 (by omega); exact rfl; refine wl_mv rfl rfl ?_; refine wl_nil ?_
      refine we_loop _ (lists.length - (k + 1)) ⟨k + 1, Q, cq, srcs, rfl, by omega, hs, by omega, hwf, fun s h => by have := hpl s h; omega, fun y => ?_, rfl⟩ (by omega) ⟨rfl, rfl, rfl, by simp [lookT], trivial⟩
      rw [hpr]
      constructor
      · rintro ⟨i, l', h1, h2⟩; exact ⟨i, l', by omega, h2⟩
      · rintro ⟨i, l', h1, h2, h3, h4⟩
        refine ⟨i, l', ?_, h2, h3, h4⟩
        rcases Nat.lt_or_ge i k with h | h
        · exact h
        · rw [hget (by omega) h2, hl0] at h3; cases h3
    have h3 : (0 : Int) < (l.length : Int) := by have := List.length_pos_iff.2 hl0; omega
    unfold hpP at hs
    apply wc_decT; exact rfl; (with_reducible assumption)
    refine wc_heldM 10 mixed fun w_ hS => ?_
    apply wm_takeP 0; exact rfl; intro _; apply opv_move; exact rfl; exact rfl; kernel_rfl; exact fun _ => hS; apply wm_takeP 1; exact rfl; intro _; apply opv_move; exact rfl; exact rfl; kernel_rfl; exact fun _ => hS; apply wm_takeP 2; exact rfl; intro _; apply opv_nilOk; exact rfl; exact rfl; kernel_rfl; exact fun _ => hS; apply wm_takeP 3; exact rfl; intro _; apply opv_fa; exact fa_sM (by decide); exact rfl; exact rfl; kernel_rfl; exact fun _ => hS; apply wm_take 4; exact rfl; intro _ hw_; apply opv_ldX; exact rfl; exact Ar.bel (hs.ar 1 rfl) hw_; exact e1_src; exact rfl; exact rfl; kernel_rfl; exact hS; apply wm_takeP 5; exact rfl; intro _; apply opv_move; exact rfl; exact rfl; kernel_rfl; exact fun _ => hS; apply wm_takeP 7; exact rfl; intro _; apply opv_move; exact rfl; exact rfl; kernel_rfl; exact fun _ => hS
    replace hs := hs.below hS
    refine wm_one 6 (by kernel_rfl) rfl ?_; dsimp only [List.getElem_toArray, List.getElem_cons_succ, List.getElem_cons_zero]
    refine wl_call ok_merge_twins (mtwins_any (rl.below hs.bel) rfl (fun x hx => by have := hox x hx; omega) (by omega)) ⟨rfl, trivial⟩ rfl ?_
    rintro _ _ ⟨es, Z, cz, rfl, hes, hsx⟩
    obtain ⟨s, hsd⟩ : ∃ q : SrcA, (⟨es, Z, cz, k⟩ : SrcA) = q := ⟨_, rfl⟩
    have hsV : srcV s = [.slice Z es.length cz, .int .i64 (k : Int)] := by rw [← hsd]; rfl
    replace hs := hs.call (hsx k)
    replace hS := hS.trans ((hsx k).bel.mono hS.size)
    clear hsx
    rw [hsd] at hs
    dsimp only [List.cons_append, List.nil_append] at hs
    refine wl_nil ?_
    refine we_heldM (fun _ => hS) ?_
    apply wm_takeP 8; exact rfl; intro _; apply opv_build (vs := [(0, _), (1, _)]) (cs := [_, _]); exact ⟨rfl, rfl, rfl, rfl, trivial⟩; exact buildS _ _ _ _; exact rfl; kernel_rfl; exact fun _ => hS
    refine wm_one 9 (by kernel_rfl) rfl ?_; dsimp only [List.getElem_toArray, List.getElem_cons_succ, List.getElem_cons_zero]
    rw [← hsV]
    refine wl_bsG (css := [srcV s]) (els := [rawEl (srcV s)]) (S := NoB) tkS ⟨rfl, ⟨_, rfl, rfl⟩, rfl, trivial⟩ rfl (by decide) (by decide) (grp_raw (css := [srcV s]) (by simp [srcV])) rfl fun A9 w9 ho hbx _ => ?_
    replace hs := hs.newG hbx ho (Nat.le_refl _) fun _ _ h => h.elim
    replace hS := hS.trans (hbx.mono hS.size)
    refine wl_nil ?_
    refine we_heldM (fun _ => hS) ?_
    refine wm_one 10 (by kernel_rfl) rfl ?_; dsimp only [List.getElem_toArray, List.getElem_cons_succ, List.getElem_cons_zero]
    refine ws_appR (css := [srcV s]) hs 2 rfl rfl tkS (by simp) rfl (OwR.rd (hs.rg 0 rfl)) rfl (by simp [srcV, Value.oneCell']) (by omega) (by omega) rfl ?_
    clear hs; intro Q2 c2 w10 hs; dsimp only [setC] at hs
    refine wl_nil ?_
    refine we_heldM (fun h => absurd h (by decide)) ?_
    apply wm_takeP 11; exact rfl; intro _; apply opv_nilOk; exact rfl; exact rfl; kernel_rfl; exact fun h => absurd h (by decide); apply wm_takeP 12; exact rfl; intro _; apply opv_fa; exact fa_sM (by decide); exact rfl; exact rfl; kernel_rfl; exact fun h => absurd h (by decide)
    refine wm_one 13 (by kernel_rfl) rfl ?_; dsimp only [List.getElem_toArray, List.getElem_cons_succ, List.getElem_cons_zero]
    apply ws_st hs 3; exact rfl; exact rfl; exact e1_src; exact rfl; exact rfl; exact rfl; clear hs; intro _ hs; dsimp only [setC, List.set] at hs; refine wl_nil ?_
    refine we_heldM (fun h => absurd h (by decide)) ?_
    refine wm_done (by kernel_rfl) ?_
    refine we_block_norm ?_; refine we_seq ?_; refine wc_region ?_; apply wl_val; apply opv_bin; exact rfl; exact rfl; exact bin_add64 (by omega); exact rfl; refine wl_mv rfl rfl ?_; refine wl_nil ?_
    have hpl2 : ∀ t ∈ srcs ++ [s], t.place < k + 1 := fun t ht => by
      rcases List.mem_append.1 ht with h | h
      · have := hpl t h; omega
      · obtain rfl := List.mem_singleton.1 h; rw [← hsd]; exact Nat.lt_succ_self k
    have hel : es.length = l.length := by rw [← hes, List.length_map]
    have hwf2 : WfS (srcs ++ [s]) := ⟨fun t ht => by
      rcases List.mem_append.1 ht with h | h
      · exact hwf.some t h
      · obtain rfl := List.mem_singleton.1 h
        rw [← hsd]
        intro he
        have he' : es = [] := he
        rw [he'] at hel; exact hl0 (List.eq_nil_of_length_eq_zero hel.symm), fun t ht => by
      rcases List.mem_append.1 ht with h | h
      · exact hwf.ord t h
      · obtain rfl := List.mem_singleton.1 h
        rw [← hsd]; show Ord (es.map (·.x)); rw [hes]; exact hord l (List.mem_of_getElem? hx), List.pairwise_append.2 ⟨hwf.diff, by simp, fun t ht t' ht' => by
        obtain rfl := List.mem_singleton.1 ht'
        have := hpl t ht
        rw [← hsd]; show t.place ≠ k; omega⟩⟩
    have hl2 : (srcs ++ [s]).length = srcs.length + 1 := by simp
    refine we_loop _ (lists.length - (k + 1)) ⟨k + 1, Q2, c2, srcs ++ [s], rfl, by omega, ?_, by omega, hwf2, hpl2, fun y => ?_, rfl⟩ (by omega) ⟨rfl, rfl, rfl, by simp [lookT], trivial⟩
    · replace hs := hs.drop 0 rfl
      unfold hpP
      rw [hl2]
      refine hs.map fun T h => ?_
      refine Sat.packR (X := [.rg 2 96 Q2 c2 (srcEls (srcs ++ [s])), .blk g5 62 [.slice Q2 (srcs.length + 1) c2, .pointer none]]) (Y := [.ck (memC srcs), .ck (memC [s])]) ?_ fun T h => memC_add h
      have e : srcEls (srcs ++ [s]) = srcEls srcs ++ [srcV s].map rawEl := by simp [srcEls]
      rw [e]
      exact Sat.swap (H1 := [.ck (memC [s])]) h
    · rw [show pairs (srcs ++ [s]) = pairs srcs ++ prs s by simp [pairs], List.mem_append, hpr]
      constructor
      · rintro (⟨i, l', h1, h2⟩ | h)
        · exact ⟨i, l', by omega, h2⟩
        · obtain ⟨h1, h2⟩ := mem_prs.1 h
          rw [← hsd] at h1 h2
          exact ⟨k, l, by omega, hx, by rw [← hes]; exact h1, h2⟩
      · rintro ⟨i, l', j1, j2, j3, j4⟩
        rcases Nat.lt_or_ge i k with h | h
        · exact .inl ⟨i, l', h, j2, j3, j4⟩
        · have hll := hget (by omega) j2
          refine .inr (mem_prs.2 ?_)
          rw [← hsd]
          exact ⟨by show y.1 ∈ es.map (·.x); rw [hes, ← hll]; exact j3, by show y.2 = k; omega⟩
  · obtain rfl : k = lists.length := by omega
    refine wc_exit ?_; refine we_seq_exit ?_; refine we_loop_exit ?_; refine we_block_exit ?_; refine we_seq ?_; refine wc_sr ?_; refine wl_mv rfl rfl ?_; apply wl_val; apply opv_nilOk; exact rfl; exact rfl; apply wl_val; apply opv_fa; exact fa_sM (by decide); exact rfl; exact rfl; apply wl_val; apply opv_mkI; kernel_rfl; exact rfl; exact rfl
    obtain ⟨S2, hS2, _, _, _, hB⟩ := St.lend (H1 := hpP g5 Q cq (.pointer none) srcs srcs) (H2 := []) (by rw [List.append_nil]; exact hs)
    refine wl_call ok_container_heap_Init (init_any hS2 (fun t ht => ⟨ht, hwf.some t ht⟩) (by omega)) ⟨rfl, trivial⟩ rfl ?_
    rintro _ w2 ⟨rfl, srcs', hsx, hp2, hH2⟩
    replace hs := hB _ _ hsx
    rw [List.append_nil] at hs
    have hl2 := hp2.length_eq
    refine wl_ns ?_; refine wc_sr ?_; refine wl_mv rfl rfl ?_; refine wl_as rfl rfl ?_; refine wl_as rfl rfl ?_; refine wl_ns ?_; refine wc_ret ?_
    have hwf2 := hwf.perm hp2.symm
    have hpp := pairs_perm hp2
    refine we_ret2 rfl rfl rfl ⟨_, rfl, .inl ⟨hw, g5, rfl, hs.map fun T h => Sat.packR (X := []) (Y := hpP g5 Q cq (.pointer none) srcs srcs') h fun T h => ⟨Q, cq, srcs, srcs', none, by show Sat _ (hpP g5 Q cq (.pointer none) srcs srcs' ++ []) T; rw [List.append_nil]; exact h, hp2.symm, hwf2, by rw [hl2]; exact hH2, by omega, fun y hy => ?_, Str.start hwf2 fun y => ?_⟩⟩⟩
    · obtain ⟨i, l, _, h2, h3, _⟩ := (hpr y).1 (hpp.mem_iff.1 hy)
      exact ((hok l (List.mem_of_getElem? h2)).2 _ h3).1
    · rw [hpp.mem_iff, hpr, mem_allP]
      constructor
      · rintro ⟨i, l, h1, h2, h3, h4⟩; exact ⟨i, l, h2, h3, by omega⟩
      · rintro ⟨i, l, h2, h3, h4⟩; exact ⟨i, l, (List.getElem?_eq_some_iff.1 h2).1, h2, h3, by omega⟩
end Go.Proofs.Ytpnckagibkdcpaa


/-
  Walks over the program's Merge and the document's, over some and twins of lists of lists.
-/
namespace Go.Proofs.Ytpnckagibkdcpaa
open Go.RowKit

theorem addM_len (out : List En) (x : En) : (addM out x).length ≤ out.length + 1 := by
  unfold addM; split
  · omega
  · rw [insE_length]; omega
theorem addM_fold (l : List En) : ∀ out : List En, (l.foldl addM out).length ≤ out.length + l.length := by
  induction l with
  | nil => intro out; simp
  | cons x l ih => intro out; have := ih (addM out x); have := addM_len out x; simp only [List.foldl_cons, List.length_cons]; omega
theorem mergeE_len {m : Nat} {lists : List (List En)} (h : ∀ l ∈ lists, l.length ≤ m) : (mergeE lists).length ≤ lists.length * m := by
  have key : ∀ (lists : List (List En)) (out : List En), (∀ l ∈ lists, l.length ≤ m) → (lists.foldl (fun out l => l.foldl addM out) out).length ≤ out.length + lists.length * m := by
    intro lists
    induction lists with
    | nil => intro out _; simp
    | cons l lists ih =>
      intro out h
      have h1 := ih (l.foldl addM out) fun x hx => h x (List.mem_cons_of_mem _ hx)
      have h2 := addM_fold l out
      have h3 := h l List.mem_cons_self
      simp only [List.foldl_cons, List.length_cons]
      rw [Nat.add_mul]; omega
  have := key lists [] h
  simpa [mergeE] using this
theorem addM_mem {p : En → Prop} : ∀ (l out : List En), (∀ x ∈ l, p x) → (∀ x ∈ out, p x) → ∀ x ∈ l.foldl addM out, p x := by
  intro l
  induction l with
  | nil => intro out _ h; exact h
  | cons y l ih =>
    intro out h1 h2
    refine ih _ (fun x hx => h1 x (List.mem_cons_of_mem _ hx)) fun x hx => ?_
    unfold addM at hx
    split at hx
    · exact h2 x hx
    · rcases ins_mem.1 hx with h | rfl
      · exact h2 x h
      · exact h1 _ List.mem_cons_self
theorem mergeE_mem {p : En → Prop} {lists : List (List En)} (h : ∀ l ∈ lists, ∀ x ∈ l, p x) : ∀ x ∈ mergeE lists, p x := by
  have key : ∀ (lists : List (List En)) (out : List En), (∀ l ∈ lists, ∀ x ∈ l, p x) → (∀ x ∈ out, p x) → ∀ x ∈ lists.foldl (fun out l => l.foldl addM out) out, p x := by
    intro lists
    induction lists with
    | nil => intro out _ h; exact h
    | cons l lists ih => intro out h1 h2; exact ih _ (fun l' h => h1 l' (List.mem_cons_of_mem _ h)) (addM_mem l out (h1 l List.mem_cons_self) h2)
  exact key lists [] h (by simp)
/-- The state of Merge ahead of a round. -/
def MrgSt (w wr : World) (g g7 : Nat) (R : Option Addr) (c : Nat) (done : List En) : List En → Prop
  | [] => St NoB w wr [.ck (rsC 4 56 R c (done.map oE)), .ck (strC g [])]
  | x :: left => ∃ A ca B cb, St NoB w wr [.ck (rsC 4 56 R c (done.map oE)), .blk g7 56 (enV x A ca B cb), .ow 5 A x.key.length ca (bvs x.key), .ow 5 B x.val.length cb (bvs x.val), .ck (strC g left)]
def RetMerge (w : World) (lists : List (List En)) (v : Value) (w' : World) : Prop :=
  (worstE lists = 0 ∧ ∃ R c, v = .tuple #[.slice R (mergeE lists).length c, .int .i64 (0 : Nat)] ∧ St NoB w w' [.ck (rsC 4 56 R c ((mergeE lists).map oE))]) ∨ (¬ worstE lists = 0 ∧ v = .tuple #[.slice none 0 0, .int .i64 (worstE lists : Nat)] ∧ Below w.heap.size w w')
def nonE {α : Type} : List α → Bool
  | [] => false
  | _ :: _ => true
set_option maxRecDepth 8000 in
theorem merge_any {A : Option Addr} {n c : Nat} {lists : List (List En)} {w : World} (hr : RdR 1 w All A (rowsE lists)) (hn : lists.length = n) (hok : ∀ l ∈ lists, l.length ≤ 1048576 ∧ ∀ x ∈ l, x.key.length ≤ 1048576 ∧ x.val.length ≤ 1048576) (hl : lists.length ≤ 1000) :
    CallsV Try.prog 40 #[.slice A n c] w (RetMerge w lists) := by
  have hmax : maxLen = 9223372036854775807 := rfl
  have hs := St.init w
  refine calls_in (N := _) Try.func40 rfl Try.ntmps40 rfl ?_; show WC _ _ _ _ _ _
  refine wc_sr ?_; refine wl_as rfl rfl ?_; refine wl_as rfl rfl ?_; refine wl_ns ?_; refine wc_sr ?_; refine wl_mv rfl rfl ?_
  refine wl_call ok_merge_Open (open_any hr hn hok hl) ⟨rfl, trivial⟩ rfl ?_
  rintro _ w2 (⟨hw, g, rfl, hsx⟩ | ⟨hw, rfl, hbx⟩)
  case inr =>
    have h1 : ¬ ((worstE lists : Nat) : Int) = 0 := by omega
    refine wl_mv rfl rfl ?_; apply wl_val; apply opv_extract; exact rfl; exact rfl; exact rfl; apply wl_val; apply opv_extract; exact rfl; exact rfl; exact rfl; refine wl_as rfl rfl ?_; refine wl_as rfl rfl ?_; refine wl_ns ?_; refine wc_seq ?_; refine wc_sr ?_; refine wl_mv rfl rfl ?_; refine wl_bin rfl rfl bin_neq rfl ?_; refine wl_ns ?_; apply wc_decT; exact rfl; (with_reducible assumption); refine wc_sr ?_; refine wl_mv rfl rfl ?_; refine wl_as rfl rfl ?_; refine wl_as rfl rfl ?_; refine wl_ns ?_; refine wc_ret ?_; refine we_seq_ret ?_
    exact we_ret2 rfl rfl rfl ⟨_, rfl, .inr ⟨hw, rfl, hbx⟩⟩
  have hml := mergeE_len (m := 1048576) fun l h => (hok l h).1
  obtain ⟨ml, hmd⟩ : ∃ q, mergeE lists = q := ⟨_, rfl⟩
  rw [hmd] at hsx hml
  unfold RetMerge
  rw [hmd]
  replace hs := hs.call hsx
  dsimp only [List.cons_append, List.nil_append] at hs
  have h0 : ((0 : Nat) : Int) = 0 := rfl
  refine wl_mv rfl rfl ?_; apply wl_val; apply opv_extract; exact rfl; exact rfl; exact rfl; apply wl_val; apply opv_extract; exact rfl; exact rfl; exact rfl; refine wl_as rfl rfl ?_; refine wl_as rfl rfl ?_; refine wl_ns ?_; refine wc_seq ?_; refine wc_sr ?_; refine wl_mv rfl rfl ?_; refine wl_bin rfl rfl bin_neq rfl ?_; refine wl_ns ?_; apply wc_condFb; exact rfl; exact rfl; refine wc_skip ?_; refine we_seq ?_; refine wc_sr ?_; refine wl_as rfl rfl ?_; refine wl_ns ?_; refine wc_seq ?_; refine wc_sr ?_; refine wl_mv rfl rfl ?_
  refine wl_cutE (fun L' w' => ∃ g7, L' = [(4, .pointer (some ⟨g, 0, none⟩)), (6, .slice none 0 0), (7, .pointer (some ⟨g7, 0, none⟩)), (8, .bool (nonE ml))] ∧ MrgSt w w' g g7 none 0 [] ml) ?_ ?_
  · obtain ⟨S2, hS2, _, _, _, hB⟩ := St.lend (H1 := [.ck (strC g ml)]) (H2 := []) hs
    refine wl_call ok_merge_Stream_Next (next_any hS2) ⟨rfl, trivial⟩ rfl ?_
    intro v w3 hv
    cases ml with
    | nil =>
      obtain ⟨rfl, hsx⟩ := hv
      replace hs := hB _ _ hsx
      refine wl_mv rfl rfl ?_; apply wl_val; apply opv_extract; exact rfl; exact rfl; exact rfl; apply wl_val; apply opv_extract; exact rfl; exact rfl; exact rfl
      refine ws_new hs zeroE rfl ?_; clear hs; intro g7 _ hs
      apply ws_stS hs 0; exact rfl; exact rfl; exact rfl; exact sE; exact rfl; exact rfl; clear hs; intro _ hs; dsimp only [setC] at hs; refine wl_as rfl rfl ?_; refine wl_nil ?_
      exact we_cut _ ⟨g7, rfl, (hs.drop 0 rfl).nilS 4 56⟩ ⟨rfl, rfl, rfl, rfl, trivial⟩
    | cons x left =>
      obtain ⟨B, cb, D, d, rfl, hsx⟩ := hv
      replace hs := hB _ _ hsx
      dsimp only [List.cons_append, List.nil_append, enOw] at hs
      refine wl_mv rfl rfl ?_; apply wl_val; apply opv_extract; exact rfl; exact rfl; exact rfl; apply wl_val; apply opv_extract; exact rfl; exact rfl; exact rfl
      refine ws_new hs zeroE rfl ?_; clear hs; intro g7 _ hs
      apply ws_stS hs 0; exact rfl; exact rfl; exact rfl; exact sE; exact rfl; exact rfl; clear hs; intro _ hs; dsimp only [setC] at hs; refine wl_as rfl rfl ?_; refine wl_nil ?_
      exact we_cut _ ⟨g7, rfl, B, cb, D, d, hs.nilS 4 56⟩ ⟨rfl, rfl, rfl, rfl, trivial⟩
  clear hs hsx
  rintro _ w3 ⟨g7, rfl, hst⟩
  refine we_seq ?_; refine wc_block ?_
  refine wc_loop (fun L wr mm => ∃ (done pend : List En) (R : Option Addr) (c : Nat) (g7 : Nat), L = [(4, .pointer (some ⟨g, 0, none⟩)), (6, .slice R done.length c), (7, .pointer (some ⟨g7, 0, none⟩)), (8, .bool (nonE pend))] ∧ done ++ pend = ml ∧ MrgSt w wr g g7 R c done pend ∧ mm = pend.length)
    [(4, .pointer (some ⟨g, 0, none⟩)), (6, .slice none 0 0), (7, .pointer (some ⟨g7, 0, none⟩)), (8, .bool (nonE ml))] ml.length ⟨[], ml, none, 0, g7, rfl, rfl, hst, rfl⟩ ⟨rfl, rfl, rfl, rfl, trivial⟩ ?_
  clear hst
  rintro _ w4 mm ⟨done, pend, R, c, g7, rfl, hdp, hst, rfl⟩
  cases pend with
  | nil =>
    rw [List.append_nil] at hdp
    subst hdp
    unfold nonE
    have hs : St NoB w w4 [.ck (rsC 4 56 R c (done.map oE)), .ck (strC g [])] := hst
    refine wc_seq ?_; refine wc_sr ?_; refine wl_mv rfl rfl ?_; refine wl_ns ?_; apply wc_condFb; exact rfl; exact rfl; refine wc_exit ?_; refine we_seq_exit ?_; refine we_loop_exit ?_; refine we_block_exit ?_; refine we_seq ?_; refine wc_sr ?_; refine wl_mv rfl rfl ?_; refine wl_as rfl rfl ?_; refine wl_as rfl rfl ?_; refine wl_ns ?_; refine wc_ret ?_
    exact we_ret2 rfl rfl rfl ⟨_, rfl, .inl ⟨hw, R, c, rfl, hs.drop 1 rfl⟩⟩
  | cons x left =>
    have hdl : done.length + (left.length + 1) = ml.length := by rw [← hdp]; simp
    unfold nonE
    obtain ⟨B, cb, D, d, hs⟩ : ∃ A ca B cb, St NoB w w4 [.ck (rsC 4 56 R c (done.map oE)), .blk g7 56 (enV x A ca B cb), .ow 5 A x.key.length ca (bvs x.key), .ow 5 B x.val.length cb (bvs x.val), .ck (strC g left)] := hst
    refine wc_seq ?_; refine wc_sr ?_; refine wl_mv rfl rfl ?_; refine wl_ns ?_; apply wc_condTb; exact rfl; exact rfl; refine wc_skip ?_; refine we_seq ?_; refine wc_seq ?_; refine wc_block ?_; refine wc_region ?_; refine wl_mv rfl rfl ?_; apply wl_val; apply opv_loadX; exact rfl; exact hs.ar 1 rfl; exact sE; exact rfl
    replace hs := ((((hs.front 3 rfl).front 3 rfl).pack (H1 := enOw x B cb D d) (.ce (oE x) (enV x B cb D d)) oE_of).front 1 rfl)
    dsimp only [delC] at hs
    refine ws_pushS hs tkE (fun _ => rfl) (by simp) ⟨_, rfl, rfl⟩ rfl rfl (by decide) (by omega) (by omega) rfl rfl ?_
    clear hs; intro _ R2 c2 w5 hs
    rw [show done.map oE ++ [oE x] = (done ++ [x]).map oE by simp] at hs
    refine wl_as rfl rfl ?_; refine wl_nil ?_; refine we_block_norm ?_; refine we_seq ?_; refine wc_seq ?_; refine wc_sr ?_; apply wl_val; apply opv_loadX; exact rfl; exact hs.ar 1 rfl; exact sE; exact rfl; refine wl_ns ?_; refine wc_region ?_
    refine ws_new hs zeroE rfl ?_; clear hs; intro g7 _ hs
    apply ws_stS hs 0; exact rfl; exact rfl; exact rfl; exact sE; exact rfl; exact rfl; clear hs; intro _ hs; dsimp only [setC] at hs; refine wl_ns ?_; refine wc_region ?_; refine wl_mv rfl rfl ?_
    replace hs := ((hs.drop 2 rfl).front 2 rfl)
    dsimp only [delC] at hs
    obtain ⟨S2, hS2, _, _, _, hB⟩ := St.lend (H1 := [.ck (strC g left)]) (H2 := [.blk g7 56 (enV x B cb D d), .ck (rsC 4 56 R2 c2 ((done ++ [x]).map oE))]) hs
    refine wl_call ok_merge_Stream_Next (next_any hS2) ⟨rfl, trivial⟩ rfl ?_
    intro v w6 hv
    cases left with
    | nil =>
      obtain ⟨rfl, hsx⟩ := hv
      replace hs := hB _ _ hsx
      dsimp only [List.cons_append, List.nil_append] at hs
      refine wl_mv rfl rfl ?_; apply wl_val; apply opv_extract; exact rfl; exact rfl; exact rfl; apply wl_val; apply opv_extract; exact rfl; exact rfl; exact rfl; apply ws_stS hs 1; exact rfl; exact rfl; exact rfl; exact sE; exact rfl; exact rfl; clear hs; intro _ hs; dsimp only [setC] at hs; refine wl_as rfl rfl ?_; refine wl_nil ?_
      refine we_loop _ 0 ⟨done ++ [x], [], R2, c2, g7, rfl, by rw [← hdp]; simp, ((hs.drop 1 rfl).front 1 rfl), rfl⟩ (by simp) ⟨rfl, by rw [List.length_append]; rfl, rfl, rfl, trivial⟩
    | cons y left =>
      obtain ⟨C, cc, E, e, rfl, hsx⟩ := hv
      replace hs := hB _ _ hsx
      dsimp only [List.cons_append, List.nil_append, enOw] at hs
      refine wl_mv rfl rfl ?_; apply wl_val; apply opv_extract; exact rfl; exact rfl; exact rfl; apply wl_val; apply opv_extract; exact rfl; exact rfl; exact rfl; apply ws_stS hs 3; exact rfl; exact rfl; exact rfl; exact sE; exact rfl; exact rfl; clear hs; intro _ hs; dsimp only [setC] at hs; refine wl_as rfl rfl ?_; refine wl_nil ?_
      refine we_loop _ (y :: left).length ⟨done ++ [x], y :: left, R2, c2, g7, rfl, by rw [← hdp]; simp, ⟨C, cc, E, e, (hs.front 3 rfl).front 4 rfl⟩, rfl⟩ (by simp) ⟨rfl, by rw [List.length_append]; rfl, rfl, rfl, trivial⟩

/-! ### The document's Merge -/
theorem addM_take {l : List En} {j : Nat} {x : En} {out0 : List En} (h : l[j]? = some x) : (l.take (j + 1)).foldl addM out0 = addM ((l.take j).foldl addM out0) x := by rw [take_getR h, List.foldl_append]; rfl
theorem mergeE_take {lists : List (List En)} {k : Nat} {l : List En} (h : lists[k]? = some l) : mergeE (lists.take (k + 1)) = l.foldl addM (mergeE (lists.take k)) := by rw [mergeE, mergeE, take_getR h, List.foldl_append]; rfl
set_option maxRecDepth 8000 in
theorem refMerge_any {A : Option Addr} {n c : Nat} {lists : List (List En)} {w : World} (hr : RdR 1 w All A (rowsE lists)) (hn : lists.length = n) (hok : ∀ l ∈ lists, l.length ≤ 1048576 ∧ ∀ x ∈ l, x.key.length ≤ 1048576) (hl : lists.length ≤ 1000) :
    CallsV Try.prog 37 #[.slice A n c] w fun v w' => ∃ P cp, v = .slice P (mergeE lists).length cp ∧ RdR 4 w' All P ((mergeE lists).map enEl) ∧ Below w.heap.size w w' := by
  subst hn
  have hmax : maxLen = 9223372036854775807 := rfl
  have hs := St.init w
  refine calls_in (N := _) Try.func37 rfl Try.ntmps37 rfl ?_; show WC _ _ _ _ _ _
  refine wc_sr ?_; refine wl_as rfl rfl ?_; refine wl_ns ?_; refine wc_sr ?_; refine wl_as rfl rfl ?_; refine wl_ns ?_; refine wc_seq ?_; refine wc_sr ?_; refine wl_as rfl rfl ?_; refine wl_ns ?_; refine wc_block ?_
  refine wc_loop (fun L wr mm => ∃ (k : Nat) (P : Option Addr) (cp : Nat) (out : List En), L = [(0, .slice A lists.length c), (3, .slice P out.length cp), (4, .int .i64 (k : Int))] ∧ k ≤ lists.length ∧ mergeE (lists.take k) = out ∧ out.length ≤ cp ∧ RdR 4 wr All P (out.map enEl) ∧ St NoB w wr [] ∧ mm = lists.length - k)
    [(0, .slice A lists.length c), (3, .slice none 0 0), (4, .int .i64 (0 : Nat))] lists.length ⟨0, none, 0, [], rfl, by omega, rfl, by simp, RdR.nil _, hs, rfl⟩ ⟨rfl, rfl, rfl, trivial⟩ ?_
  clear hs
  rintro _ w1 mm ⟨k, P, cp, out, rfl, hk, hout, hcp, hro, hs, rfl⟩
  refine wc_seq ?_; refine wc_sr ?_; refine wl_mv rfl rfl ?_; refine wl_mv rfl rfl ?_; apply wl_val; apply opv_len; exact rfl; exact tkEE.sl; exact rfl; refine wl_bin rfl rfl bin_lss rfl ?_; refine wl_ns ?_
  refine wc_cond rfl (fun h1 => ?_) (fun h1 => ?_)
  · obtain ⟨l, hx⟩ : ∃ l, lists[k]? = some l := ⟨_, List.getElem?_eq_getElem (by omega)⟩
    have hml := mergeE_len (m := 1048576) (lists := lists.take k) fun l h => (hok l (List.mem_of_mem_take h)).1
    have hmm := mergeE_mem (p := fun x => x.key.length ≤ 1048576) (lists := lists.take k) fun l h => (hok l (List.mem_of_mem_take h)).2
    have htk : (lists.take k).length = k := by rw [List.length_take]; omega
    rw [hout, htk] at hml
    rw [hout] at hmm
    have hmt := mergeE_take hx
    rw [hout] at hmt
    obtain ⟨b, o, X, cx, rfl, hcx, rl0, i1⟩ := rowsE_at hr hx
    obtain ⟨hol, hox⟩ := hok l (List.mem_of_getElem? hx)
    refine wc_skip ?_; refine we_seq ?_; refine wc_seq ?_; refine wc_block ?_; refine wc_sr ?_; refine wl_as rfl rfl ?_; refine wl_ns ?_; refine wc_block ?_
    refine wc_loop (fun L wr mm => ∃ (j : Nat) (P : Option Addr) (cp : Nat) (o2 : List En), L = [(0, .slice (some ⟨b, o, none⟩) lists.length c), (3, .slice P o2.length cp), (4, .int .i64 (k : Int)), (5, .int .i64 (j : Int))] ∧ j ≤ l.length ∧ (l.take j).foldl addM out = o2 ∧ o2.length ≤ cp ∧ RdR 4 wr All P (o2.map enEl) ∧ St NoB w wr [] ∧ mm = l.length - j)
      [(0, .slice (some ⟨b, o, none⟩) lists.length c), (3, .slice P out.length cp), (4, .int .i64 (k : Int)), (5, .int .i64 (0 : Nat))] l.length ⟨0, P, cp, out, rfl, by omega, rfl, hcp, hro, hs, rfl⟩ ⟨rfl, rfl, rfl, rfl, trivial⟩ ?_
    clear hs hro hcp P cp
    rintro _ w2 mm ⟨j, P, cp, o2, rfl, hj, ho2, hcp, hro, hs, rfl⟩
    have i2 := i1.below hs.bel
    refine wc_seq ?_; refine wc_sr ?_; refine wl_mv rfl rfl ?_; refine wl_mv rfl rfl ?_; refine wl_mv rfl rfl ?_; apply wl_val; apply opv_idxG tkEE; exact rfl; exact rfl; exact rfl; omega; exact rfl; apply wl_val; apply opv_ldW0; exact rfl; assumption; exact e1_row; exact rfl; exact rfl; apply wl_val; apply opv_len; exact rfl; exact tkE.sl; exact rfl; refine wl_bin rfl rfl bin_lss rfl ?_; refine wl_ns ?_
    refine wc_cond rfl (fun h2 => ?_) (fun h2 => ?_)
    · obtain ⟨x, hxj⟩ : ∃ x, l[j]? = some x := ⟨_, List.getElem?_eq_getElem (by omega)⟩
      have hl2 := addM_fold (l.take j) out
      have htj : (l.take j).length = j := by rw [List.length_take]; omega
      rw [ho2, htj] at hl2
      have hm2 := addM_mem (p := fun x => x.key.length ≤ 1048576) (l.take j) out (fun y hy => hox y (List.mem_of_mem_take hy)) hmm
      rw [ho2] at hm2
      have hat := addM_take (out0 := out) hxj
      rw [ho2] at hat
      obtain ⟨b1, o1, cs, rfl, _, _, hp, i3⟩ := RdR.at (k := 4) (by decide) rl0 (E := enEl x) (i := j) (by rw [List.getElem?_map, hxj]; rfl)
      obtain ⟨Y, cy, Y2, cy2, rfl, rx, _, rx2, _⟩ := enEl.rd hp
      replace i3 := i3.below hs.bel
      have hpw := El.below hp hs.bel
      refine wc_skip ?_; refine we_seq ?_; refine wc_seq ?_; refine wc_block ?_; refine wc_sr ?_; refine wl_mv rfl rfl ?_; refine wl_mv rfl rfl ?_; refine wl_mv rfl rfl ?_; apply wl_val; apply opv_idxG tkEE; exact rfl; exact rfl; exact rfl; omega; exact rfl; apply wl_val; apply opv_ldW0; exact rfl; assumption; exact e1_row; exact rfl; exact rfl; refine wl_mv rfl rfl ?_; apply wl_val; apply opv_idxG tkE; exact rfl; exact rfl; exact rfl; omega; exact rfl; apply wl_val; apply opv_ldG; exact rfl; assumption; exact sE; exact rfl
      refine wl_call ok_caissonref07_In (in_any (e := x) hro rfl (rx.below hs.bel) (fun y hy => by have := hm2 y hy; omega) (by omega)) ⟨rfl, rfl, trivial⟩ rfl ?_; rintro _ _ ⟨rfl, hbx⟩; replace hs := hs.below hbx; try dsimp only [List.cons_append, List.nil_append, setC, delC] at hs
      replace hro := hro.below hbx
      replace i2 := i2.below hbx
      replace i3 := i3.below hbx
      replace hpw := El.below hpw hbx
      cases hin : inE o2 x with
      | true =>
        rw [addM, if_pos hin] at hat
        apply wl_val; apply opv_not; exact rfl; exact rfl; refine wl_ns ?_; apply wc_condFb; exact rfl; exact Bool.not_true; refine wc_skip ?_; refine we_block_norm ?_; refine we_seq ?_; refine wc_region ?_; refine wl_mv rfl rfl ?_; apply wl_val; apply opv_bin; exact rfl; exact rfl; exact bin_add64 (by omega); exact rfl; refine wl_as rfl rfl ?_; refine wl_nil ?_
        refine we_loop _ (l.length - (j + 1)) ⟨j + 1, P, cp, o2, rfl, by omega, hat, hcp, hro, hs, rfl⟩ (by omega) ⟨rfl, rfl, rfl, by simp [lookT], trivial⟩
      | false =>
        rw [addM, if_neg (by rw [hin]; decide)] at hat
        apply wl_val; apply opv_not; exact rfl; exact rfl; refine wl_ns ?_; apply wc_condTb; exact rfl; exact Bool.not_false; refine wc_region ?_; refine wl_mv rfl rfl ?_; refine wl_mv rfl rfl ?_; refine wl_mv rfl rfl ?_; apply wl_val; apply opv_idxG tkEE; exact rfl; exact rfl; exact rfl; omega; exact rfl; apply wl_val; apply opv_ldW0; exact rfl; assumption; exact e1_row; exact rfl; exact rfl; refine wl_mv rfl rfl ?_; apply wl_val; apply opv_idxG tkE; exact rfl; exact rfl; exact rfl; omega; exact rfl; apply wl_val; apply opv_ldG; exact rfl; assumption; exact sE; exact rfl
        refine wl_call ok_caissonref07_Insert (insert_any (e := x) (S := All) hro rfl hcp hpw (fun y hy => by have := hm2 y hy; omega) (by have := hox x (List.mem_of_getElem? hxj); omega) (by omega)) ⟨rfl, rfl, trivial⟩ rfl ?_
        rintro _ w5 ⟨P2, cp2, rfl, hq2, hbx4⟩
        replace hs := hs.below hbx4
        refine wl_as rfl rfl ?_; refine wl_nil ?_; refine we_block_norm ?_; refine we_seq ?_; refine wc_region ?_; refine wl_mv rfl rfl ?_; apply wl_val; apply opv_bin; exact rfl; exact rfl; exact bin_add64 (by omega); exact rfl; refine wl_as rfl rfl ?_; refine wl_nil ?_
        refine we_loop _ (l.length - (j + 1)) ⟨j + 1, P2, cp2, insE o2 x, rfl, by omega, hat, by have := OwR.len_le hq2; simpa using this, OwR.rd hq2, hs, rfl⟩ (by omega) ⟨rfl, rfl, rfl, by simp [lookT], trivial⟩
    · obtain rfl : j = l.length := by omega
      rw [List.take_length, ← hmt] at ho2
      refine wc_exit ?_; refine we_seq_exit ?_; refine we_loop_exit ?_; refine we_block_exit ?_; refine we_block_norm ?_; refine we_seq ?_; refine wc_region ?_; refine wl_mv rfl rfl ?_; apply wl_val; apply opv_bin; exact rfl; exact rfl; exact bin_add64 (by omega); exact rfl; refine wl_as rfl rfl ?_; refine wl_nil ?_
      refine we_loop _ (lists.length - (k + 1)) ⟨k + 1, P, cp, o2, rfl, by omega, ho2, hcp, hro, hs, rfl⟩ (by omega) ⟨rfl, rfl, by simp [lookT], trivial⟩
  · obtain rfl : k = lists.length := by omega
    rw [List.take_length] at hout
    refine wc_exit ?_; refine we_seq_exit ?_; refine we_loop_exit ?_; refine we_block_exit ?_; refine we_seq ?_; refine wc_sr ?_; refine wl_mv rfl rfl ?_; refine wl_as rfl rfl ?_; refine wl_ns ?_; refine wc_ret ?_
    exact we_ret1 rfl rfl ⟨_, rfl, P, cp, by rw [hout], by rw [hout]; exact hro, hs.bel⟩
end Go.Proofs.Ytpnckagibkdcpaa


/-
  Walks over some and twins of lists of lists, and over the law MergeMerges.
-/
namespace Go.Proofs.Ytpnckagibkdcpaa
open Go.RowKit

/-- At most six lists of at most 30 entries. -/
def someE (lists : List (List En)) : List (List En) := (lists.take 6).map fun l => l.take 30
theorem some_any {S : BS} {A : Option Addr} {n c : Nat} {lists : List (List En)} {w : World} (hr : RdR 1 w S A (rowsE lists)) (hn : lists.length = n) (hl : ∀ l ∈ lists, l.length ≤ 1048576) (hll : n ≤ 1048576) :
    CallsV Try.prog 33 #[.slice A n c] w fun v w' => ∃ P cp, v = .slice P (someE lists).length cp ∧ OwR 1 40 w' w.heap.size S P cp (rowsE (someE lists)) ∧ Below w.heap.size w w' := by
  subst hn
  have hs := (St.init w).nilG 1 40
  have hmax : maxLen = 9223372036854775807 := rfl
  refine calls_in (N := _) Try.func33 rfl Try.ntmps33 rfl ?_; show WC _ _ _ _ _ _
  refine wc_sr ?_; refine wl_as rfl rfl ?_; refine wl_ns ?_; refine wc_sr ?_; refine wl_as rfl rfl ?_; refine wl_ns ?_; refine wc_seq ?_; refine wc_sr ?_; refine wl_as rfl rfl ?_; refine wl_ns ?_; refine wc_block ?_
  refine wc_loop (fun L wr mm => ∃ (k : Nat) (P : Option Addr) (cp : Nat) (css : List (List Value)), L = [(0, .slice A lists.length c), (3, .slice P k cp), (4, .int .i64 (k : Int))] ∧ k ≤ lists.length ∧ k ≤ 6 ∧ Grp 1 w S (rowsE ((lists.take k).map fun l => l.take 30)) css ∧ St NoB w wr [.rg 1 40 P cp (css.map rawEl)] ∧ mm = lists.length - k)
    [(0, .slice A lists.length c), (3, .slice none 0 0), (4, .int .i64 (0 : Nat))] lists.length ⟨0, none, 0, [], rfl, by omega, by omega, Grp.nil _ _ _, hs, rfl⟩ ⟨rfl, rfl, rfl, trivial⟩ ?_
  clear hs
  rintro _ w1 mm ⟨k, P, cp, css, rfl, hk, hk6, hg, hs, rfl⟩
  have hcl : css.length = k := by rw [hg.1]; simp; omega
  by_cases h1 : k < lists.length ∧ k < 6
  · have h2 : (k : Int) < (lists.length : Int) := by omega
    have h3 : (k : Int) < 6 := by omega
    obtain ⟨l, hx⟩ : ∃ l, lists[k]? = some l := ⟨_, List.getElem?_eq_getElem (by omega)⟩
    obtain ⟨b, o, X, cx, rfl, hcx, rl, i1⟩ := rowsE_at hr hx
    have hol := hl l (List.mem_of_getElem? hx)
    replace i1 := i1.below hs.bel
    refine wc_seq ?_; refine wc_sr ?_; refine wl_mv rfl rfl ?_; refine wl_mv rfl rfl ?_; apply wl_val; apply opv_len; exact rfl; exact tkEE.sl; exact rfl; refine wl_bin rfl rfl bin_lss rfl ?_; refine wl_mv rfl rfl ?_; apply wl_take; exact rfl; exact rfl; exact rfl; refine bT ?_; (with_reducible assumption); refine wl_mv rfl rfl ?_; apply wl_take; exact rfl; exact rfl; exact rfl; refine bT ?_; (with_reducible assumption); refine wl_bin rfl rfl bin_lss rfl ?_; apply wl_val; apply opv_pickT; exact rfl; refine bT ?_; (with_reducible assumption); exact rfl; exact rfl; refine wl_ns ?_; apply wc_decT; exact rfl; (with_reducible assumption); refine wc_skip ?_; refine we_seq ?_; refine wc_seq ?_; refine wc_block ?_; refine wc_region ?_; refine wl_mv rfl rfl ?_; refine wl_mv rfl rfl ?_; refine wl_mv rfl rfl ?_; apply wl_val; apply opv_idxG tkEE; exact rfl; exact rfl; exact rfl; omega; exact rfl; apply wl_val; apply opv_ldW0; exact rfl; assumption; exact e1_row; exact rfl; exact rfl
    refine wl_call ok_caissonlaw11_few (few_any (m := 30) (l := l) rfl hcx) ⟨rfl, rfl, trivial⟩ rfl ?_
    rintro _ _ ⟨rfl, rfl⟩
    refine ws_pushR (cs := [.slice X (l.take 30).length cx]) hs 0 (fun _ => rfl) rfl tkEE (by simpa using hcl) ⟨_, rfl, rfl⟩ rfl rfl (by decide) (by omega) (by omega) rfl rfl ?_
    clear hs; intro _ P2 cp2 w5 hs; dsimp only [setC] at hs
    refine wl_as rfl rfl ?_; refine wl_nil ?_; refine we_block_norm ?_; refine we_seq ?_; refine wc_region ?_; refine wl_mv rfl rfl ?_; apply wl_val; apply opv_bin; exact rfl; exact rfl; exact bin_add64 (by omega); exact rfl; refine wl_as rfl rfl ?_; refine wl_nil ?_
    refine we_loop _ (lists.length - (k + 1)) ⟨k + 1, P2, cp2, css ++ [[.slice X (l.take 30).length cx]], rfl, by omega, by omega, ?_, by simpa using hs, rfl⟩ (by omega) ⟨rfl, rfl, by simp [lookT], trivial⟩
    rw [take_getR hx, List.map_append, rowsE, List.map_append]
    refine hg.append (Grp.one ?_ rfl)
    have hcut := take_rdr (m := 30) rl (by omega)
    have := rowEl.mk hcut (c := cx) (by rw [List.length_map, List.length_take]; omega) (by decide)
    rwa [List.length_map] at this
  · have hse : someE lists = (lists.take k).map fun l => l.take 30 := by
      unfold someE
      congr 1
      rcases Nat.lt_or_ge k lists.length with h | h
      · obtain rfl : k = 6 := by omega
        rfl
      · rw [List.take_of_length_le (by omega), List.take_of_length_le (by omega)]
    have hsl : (someE lists).length = k := by rw [hse, List.length_map, List.length_take]; omega
    have hfin : ∃ P' cp', Value.slice P k cp = .slice P' (someE lists).length cp' ∧ OwR 1 40 w1 w.heap.size S P' cp' (rowsE (someE lists)) ∧ Below w.heap.size w w1 := ⟨P, cp, by rw [hsl], by rw [hse]; exact hs.rawOut 0 rfl hg, hs.bel⟩
    by_cases h2 : k < lists.length
    · have h2' : (k : Int) < (lists.length : Int) := by omega
      have h3 : ¬ (k : Int) < 6 := by omega
      refine wc_seq ?_; refine wc_sr ?_; refine wl_mv rfl rfl ?_; refine wl_mv rfl rfl ?_; apply wl_val; apply opv_len; exact rfl; exact tkEE.sl; exact rfl; refine wl_bin rfl rfl bin_lss rfl ?_; refine wl_mv rfl rfl ?_; apply wl_take; exact rfl; exact rfl; exact rfl; refine bT ?_; (with_reducible assumption); refine wl_mv rfl rfl ?_; apply wl_take; exact rfl; exact rfl; exact rfl; refine bT ?_; (with_reducible assumption); refine wl_bin rfl rfl bin_lss rfl ?_; apply wl_val; apply opv_pickT; exact rfl; refine bT ?_; (with_reducible assumption); exact rfl; exact rfl; refine wl_ns ?_; apply wc_decF; exact rfl; (with_reducible assumption); refine wc_exit ?_; refine we_seq_exit ?_; refine we_loop_exit ?_; refine we_block_exit ?_; refine we_seq ?_; refine wc_sr ?_; refine wl_mv rfl rfl ?_; refine wl_as rfl rfl ?_; refine wl_ns ?_; refine wc_ret ?_
      exact we_ret1 rfl rfl ⟨_, rfl, hfin⟩
    · have h2' : ¬ (k : Int) < (lists.length : Int) := by omega
      refine wc_seq ?_; refine wc_sr ?_; refine wl_mv rfl rfl ?_; refine wl_mv rfl rfl ?_; apply wl_val; apply opv_len; exact rfl; exact tkEE.sl; exact rfl; refine wl_bin rfl rfl bin_lss rfl ?_; refine wl_mv rfl rfl ?_; apply wl_skip; exact rfl; exact rfl; exact rfl; refine bFn ?_; (with_reducible assumption); exact rfl; apply wl_skip; exact rfl; exact rfl; exact rfl; refine bFn ?_; (with_reducible assumption); exact rfl; apply wl_val; apply opv_pickF; exact rfl; refine bF ?_; (with_reducible assumption); exact rfl; exact rfl; refine wl_ns ?_; apply wc_condFb; exact rfl; exact rfl; refine wc_exit ?_; refine we_seq_exit ?_; refine we_loop_exit ?_; refine we_block_exit ?_; refine we_seq ?_; refine wc_sr ?_; refine wl_mv rfl rfl ?_; refine wl_as rfl rfl ?_; refine wl_ns ?_; refine wc_ret ?_
      exact we_ret1 rfl rfl ⟨_, rfl, hfin⟩
/-- Lists of their own. -/
def RetLs (w : World) (lists : List (List En)) (v : Value) (w' : World) : Prop :=
  ∃ P cp, v = .slice P lists.length cp ∧ St NoB w w' [.rg 1 40 P cp (rowsE lists)]
theorem twins2_any {A : Option Addr} {n c : Nat} {lists : List (List En)} {w : World} (hr : RdR 1 w All A (rowsE lists)) (hn : lists.length = n) (hok : ∀ l ∈ lists, l.length ≤ 1048576 ∧ ∀ x ∈ l, x.key.length ≤ 1048576 ∧ x.val.length ≤ 1048576) (hl : n ≤ 1048576) :
    CallsV Try.prog 34 #[.slice A n c] w (RetLs w lists) := by
  subst hn
  have hs := (St.init w).nilG 1 40
  have hmax : maxLen = 9223372036854775807 := rfl
  refine calls_in (N := _) Try.func34 rfl Try.ntmps34 rfl ?_; show WC _ _ _ _ _ _
  refine wc_sr ?_; refine wl_as rfl rfl ?_; refine wl_ns ?_; refine wc_sr ?_; refine wl_as rfl rfl ?_; refine wl_ns ?_; refine wc_seq ?_; refine wc_sr ?_; refine wl_mv rfl rfl ?_; apply wl_val; apply opv_len; exact rfl; exact tkEE.sl; exact rfl; refine wl_mv rfl rfl ?_; refine wl_ns ?_; refine wc_block ?_
  refine wc_loop (fun L wr mm => ∃ (k : Nat) (P : Option Addr) (cp : Nat), L = [(3, .slice P k cp), (6, .slice A lists.length c), (7, .int .i64 (lists.length : Int)), (8, .int .i64 (k : Int))] ∧ k ≤ lists.length ∧ St NoB w wr [.rg 1 40 P cp (rowsE (lists.take k))] ∧ mm = lists.length - k)
    [(3, .slice none 0 0), (6, .slice A lists.length c), (7, .int .i64 (lists.length : Int)), (8, .int .i64 (0 : Nat))] lists.length ⟨0, none, 0, rfl, by omega, hs, rfl⟩ ⟨rfl, rfl, rfl, rfl, trivial⟩ ?_
  clear hs
  rintro _ w1 mm ⟨k, P, cp, rfl, hk, hs, rfl⟩
  refine wc_sr ?_; refine wl_bin rfl rfl bin_lss rfl ?_; refine wl_ns ?_; refine wc_seq ?_
  refine wc_cond rfl (fun h1 => ?_) (fun h1 => ?_)
  · obtain ⟨l, hx⟩ : ∃ l, lists[k]? = some l := ⟨_, List.getElem?_eq_getElem (by omega)⟩
    obtain ⟨b, o, X, cx, rfl, hcx, rl, i1⟩ := rowsE_at hr hx
    obtain ⟨hol, hox⟩ := hok l (List.mem_of_getElem? hx)
    replace i1 := i1.below hs.bel
    refine wc_skip ?_; refine we_seq ?_; refine wc_seq ?_; refine wc_block ?_; refine wc_sr ?_; apply wl_val; apply opv_idxG tkEE; exact rfl; exact rfl; exact rfl; omega; exact rfl; apply wl_val; apply opv_ldW0; exact rfl; assumption; exact e1_row; exact rfl; exact rfl; refine wl_as rfl rfl ?_; refine wl_ns ?_; refine wc_region ?_; refine wl_mv rfl rfl ?_; refine wl_mv rfl rfl ?_
    refine wl_call ok_caissonref07_Twins (twinsE_any (rl.below hs.bel) rfl (fun x hx => by have := hox x hx; omega) (by omega)) ⟨rfl, trivial⟩ rfl ?_
    rintro _ w3 ⟨D, d, rfl, hB, hbx3⟩
    replace hs := hs.newG hbx3 hB (Nat.le_refl _) fun _ _ h => h
    replace hs := (hs.pack (H1 := [.rg 4 56 D d (l.map enEl)]) (.ce (rowEl 4 (l.map enEl)) [.slice D (l.map enEl).length d]) fun w S h => by
      obtain ⟨T, hT, h1, _⟩ := h
      exact El.mono (rg_ce (by decide) h1) fun b _ h => hT b h).front 1 rfl
    rw [List.length_map] at hs
    dsimp only [delC] at hs
    refine ws_pushG hs tkEE (fun _ => rfl) (by simp; omega) ⟨_, rfl, rfl⟩ rfl rfl (by decide) (by omega) (by omega) rfl rfl ?_
    clear hs; intro _ P2 cp2 w5 hs
    rw [show rowsE (lists.take k) ++ [rowEl 4 (l.map enEl)] = rowsE (lists.take (k + 1)) by rw [take_getR hx]; simp] at hs
    refine wl_as rfl rfl ?_; refine wl_nil ?_; refine we_block_norm ?_; refine we_seq ?_; refine wc_region ?_; apply wl_val; apply opv_bin; exact rfl; exact rfl; exact bin_add64 (by omega); exact rfl; refine wl_mv rfl rfl ?_; refine wl_nil ?_
    refine we_loop _ (lists.length - (k + 1)) ⟨k + 1, P2, cp2, rfl, by omega, hs, rfl⟩ (by omega) ⟨rfl, rfl, rfl, by simp [lookT], trivial⟩
  · obtain rfl : k = lists.length := by omega
    rw [List.take_length] at hs
    refine wc_exit ?_; refine we_seq_exit ?_; refine we_loop_exit ?_; refine we_block_exit ?_; refine we_seq ?_; refine wc_sr ?_; refine wl_mv rfl rfl ?_; refine wl_as rfl rfl ?_; refine wl_ns ?_; refine wc_ret ?_
    exact we_ret1 rfl rfl ⟨_, rfl, P, cp, rfl, hs⟩
theorem some_facts {lists : List (List En)} {p : En → Prop} (h : ∀ l ∈ lists, ∀ x ∈ l, p x) : (someE lists).length ≤ 6 ∧ ∀ l ∈ someE lists, l.length ≤ 30 ∧ ∀ x ∈ l, p x := by
  refine ⟨by unfold someE; rw [List.length_map, List.length_take]; omega, fun l hl => ?_⟩
  obtain ⟨l0, h0, rfl⟩ := List.mem_map.1 hl
  exact ⟨by rw [List.length_take]; omega, fun x hx => h l0 (List.mem_of_mem_take h0) x (List.mem_of_mem_take hx)⟩
def lnB (l : List En) : Nat := sumB enB l
theorem lists_small {lists : List (List En)} (h : sumB lnB lists ≤ 1048576) : lists.length ≤ 1048576 ∧ ∀ l ∈ lists, l.length ≤ 1048576 ∧ ∀ x ∈ l, x.key.length ≤ 1048576 ∧ x.val.length ≤ 1048576 := by
  refine ⟨Nat.le_trans (sumB_len _) h, fun l hl => ?_⟩
  have h1 : lnB l + 1 ≤ sumB lnB lists := sumB_mem hl
  have h2 := ent_small (l := l) (show lnB l ≤ 1048576 by omega)
  exact ⟨h2.1, h2.2⟩
set_option maxRecDepth 8000 in
theorem merges_any {A : Option Addr} {n c : Nat} {lists0 : List (List En)} {w : World} (hr : RdR 1 w All A (rowsE lists0)) (hn : lists0.length = n) (_hc : n ≤ c) (_hsq : ∀ l ∈ lists0, ∀ x ∈ l, x.seq < 2 ^ 64) (hl : sumB lnB lists0 ≤ 1048576) :
    CallsV Try.prog 8 #[.slice A n c] w (RetTr w) := by
  obtain ⟨hl1, hok1⟩ := lists_small hl
  have hs := St.init w
  refine calls_in (N := _) Try.func8 rfl Try.ntmps8 rfl ?_; show WC _ _ _ _ _ _
  refine wc_sr ?_; refine wl_as rfl rfl ?_; refine wl_ns ?_; refine wc_seq ?_; refine wc_sr ?_
  refine wl_call ok_caissonlaw11_awake (awake_any _) trivial rfl ?_; rintro _ _ ⟨rfl, hbx⟩; replace hs := hs.below hbx; try dsimp only [List.cons_append, List.nil_append, setC, delC] at hs
  apply wl_val; apply opv_not; exact rfl; exact rfl; refine wl_ns ?_; apply wc_condFb; exact rfl; exact Bool.not_true; refine wc_skip ?_; refine we_seq ?_; refine wc_sr ?_; refine wl_mv rfl rfl ?_
  refine wl_call ok_caissonlaw11_some (some_any (S := All) (hr.below hs.bel) hn (fun l h => (hok1 l h).1) (by omega)) ⟨rfl, trivial⟩ rfl ?_
  rintro _ w2 ⟨P, cp, rfl, hP, hbx2⟩
  replace hs := hs.below hbx2
  obtain ⟨hl2, hok2⟩ := some_facts (p := fun x => x.key.length ≤ 1048576 ∧ x.val.length ≤ 1048576) (lists := lists0) fun l h => (hok1 l h).2
  obtain ⟨lists, hld⟩ : ∃ q, someE lists0 = q := ⟨_, rfl⟩
  rw [hld] at hP hl2 hok2
  rw [hld]
  have hr2 := OwR.rd hP
  have hbw2 := hs.bel
  have hok : ∀ l ∈ lists, l.length ≤ 1048576 ∧ ∀ x ∈ l, x.key.length ≤ 1048576 ∧ x.val.length ≤ 1048576 := fun l h => ⟨by have := (hok2 l h).1; omega, (hok2 l h).2⟩
  have hmk := mergeE_mem (p := fun x => x.key.length ≤ maxLen ∧ x.val.length ≤ maxLen) (lists := lists) fun l h x hx => by have := (hok l h).2 x hx; simp only [maxLen]; omega
  have hml := mergeE_len (m := 30) (lists := lists) fun l h => (hok2 l h).1
  clear hs
  have hs := St.init w2
  refine wl_as rfl rfl ?_; refine wl_ns ?_; refine wc_sr ?_; refine wl_mv rfl rfl ?_
  refine wl_call ok_caissonlaw11_twins (twins2_any hr2 rfl hok (by omega)) ⟨rfl, trivial⟩ rfl ?_
  rintro _ w3 ⟨D, d, rfl, hsx⟩
  replace hs := hs.call hsx
  dsimp only [List.cons_append, List.nil_append] at hs
  refine wl_call ok_merge_Merge (merge_any (OwR.rd (hs.rg 0 rfl)) rfl hok (by omega)) ⟨rfl, trivial⟩ rfl ?_
  rintro _ w4 (⟨hw, R, c4, rfl, hsx⟩ | ⟨hw, rfl, hbx⟩)
  · replace hs := hs.call hsx
    dsimp only [List.cons_append, List.nil_append] at hs
    have h0 : ((0 : Nat) : Int) = 0 := rfl
    refine wl_mv rfl rfl ?_; apply wl_val; apply opv_extract; exact rfl; exact rfl; exact rfl; apply wl_val; apply opv_extract; exact rfl; exact rfl; exact rfl; refine wl_as rfl rfl ?_; refine wl_as rfl rfl ?_; refine wl_ns ?_; refine wc_sr ?_; refine wl_mv rfl rfl ?_
    refine wl_call ok_caissonref11_Check (refCheck11_any (hr2.below hs.bel) rfl (fun l h => ⟨(hok l h).1, fun x hx => by have := ((hok l h).2 x hx).1; simp only [maxLen]; omega⟩) (by omega)) ⟨rfl, trivial⟩ rfl ?_
    rintro _ w5 ⟨rfl, hbx⟩
    replace hs := hs.below hbx
    rw [hw]
    refine wl_as rfl rfl ?_; refine wl_ns ?_; refine wc_seq ?_; refine wc_sr ?_; refine wl_mv rfl rfl ?_; refine wl_mv rfl rfl ?_; refine wl_bin rfl rfl bin_neq rfl ?_; refine wl_ns ?_; apply wc_condFb; exact rfl; exact rfl; refine wc_skip ?_; refine we_seq ?_; refine wc_seq ?_; refine wc_sr ?_; refine wl_mv rfl rfl ?_; refine wl_bin rfl rfl bin_neq rfl ?_; refine wl_ns ?_; apply wc_condFb; exact rfl; exact rfl; refine wc_skip ?_; refine we_seq ?_; refine wc_sr ?_; refine wl_mv rfl rfl ?_; refine wl_mv rfl rfl ?_
    refine wl_call ok_caissonref11_Merge (refMerge_any (hr2.below hs.bel) rfl (fun l h => ⟨(hok l h).1, fun x hx => ((hok l h).2 x hx).1⟩) (by omega)) ⟨rfl, trivial⟩ rfl ?_
    rintro _ w6 ⟨V, cv, rfl, hV, hbx⟩
    replace hs := hs.below hbx
    skip
    refine wl_call ok_caissonref07_SameList (sameListE_any (OwR.rd (hs.rsE 0 rfl)) hV rfl rfl hmk (by omega) (by omega)) ⟨rfl, rfl, trivial⟩ rfl ?_
    rintro _ w7 ⟨⟨b, rfl, hb⟩, hbx7⟩
    obtain rfl := hb.2 rfl
    replace hs := hs.below hbx7
    refine wl_as rfl rfl ?_; refine wl_ns ?_; refine wc_ret ?_
    exact we_ret1 rfl rfl ⟨_, rfl, rfl, hbw2.trans (hs.bel.mono hbw2.size)⟩
  · replace hs := hs.below hbx
    refine wl_mv rfl rfl ?_; apply wl_val; apply opv_extract; exact rfl; exact rfl; exact rfl; apply wl_val; apply opv_extract; exact rfl; exact rfl; exact rfl; refine wl_as rfl rfl ?_; refine wl_as rfl rfl ?_; refine wl_ns ?_; refine wc_sr ?_; refine wl_mv rfl rfl ?_
    refine wl_call ok_caissonref11_Check (refCheck11_any (hr2.below hs.bel) rfl (fun l h => ⟨(hok l h).1, fun x hx => by have := ((hok l h).2 x hx).1; simp only [maxLen]; omega⟩) (by omega)) ⟨rfl, trivial⟩ rfl ?_
    rintro _ w5 ⟨rfl, hbx⟩
    replace hs := hs.below hbx
    have h0' : ((worstE lists : Nat) : Int) ≠ 0 := by omega
    refine wl_as rfl rfl ?_; refine wl_ns ?_; refine wc_seq ?_; refine wc_sr ?_; refine wl_mv rfl rfl ?_; refine wl_mv rfl rfl ?_; refine wl_bin rfl rfl bin_neq rfl ?_; refine wl_ns ?_; apply wc_decF; exact rfl; (with_reducible exact nne); refine wc_skip ?_; refine we_seq ?_; refine wc_seq ?_; refine wc_sr ?_; refine wl_mv rfl rfl ?_; refine wl_bin rfl rfl bin_neq rfl ?_; refine wl_ns ?_; apply wc_decT; exact rfl; (with_reducible assumption); refine wc_sr ?_; refine wl_mv rfl rfl ?_; apply wl_val; apply opv_len; exact rfl; exact tkE.sl; exact rfl; refine wl_bin rfl rfl bin_eql rfl ?_; refine wl_as rfl rfl ?_; refine wl_ns ?_; refine wc_ret ?_; refine we_seq_ret ?_
    exact we_ret1 rfl rfl ⟨_, rfl, rfl, hbw2.trans (hs.bel.mono hbw2.size)⟩
theorem opens_lists : Opens Try.prog 48 (fun lists : List (List En) => rowEl 1 (lists.map fun l => rowEl 4 (l.map enEl))) 1 (sumB lnB) (fun lists => ∀ l ∈ lists, ∀ x ∈ l, x.seq < 2 ^ 64) := opens_slice tkEE (by kernel_rfl) opens_entries
end Go.Proofs.Ytpnckagibkdcpaa
