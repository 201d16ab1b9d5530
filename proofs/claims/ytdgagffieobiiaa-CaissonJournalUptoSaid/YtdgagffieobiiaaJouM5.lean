/-
  The texts of this proof, joined: J0, J1, J2, J3, J4, J5, J6, J7, J8, J9, G0, G1, G2, G3, I0.
-/
import Derived.Test.YtdgagffieobiiaaJouM4
import Derived.Test.YtdgagffieobiiaaJouM3
import Derived.Laws.Externs

/-
  Plain laws of a log on a disk: the names of its files, its groups of records, and what the calls do with its last file.
-/
namespace Go.Proofs.Ytdgagffieobiiaa

def dgs : List UInt8 := [48, 49, 50, 51, 52, 53, 54, 55, 56, 57, 97, 98, 99, 100, 101, 102]
def hexN (f i : Nat) : Nat := f / 16 ^ (15 - i) % 16
def hex16 (f : Nat) : List UInt8 := (List.range 16).map fun i => dgs.getD (hexN f i) 0
abbrev pfJ : List UInt8 := [106, 46]
def nmJ (f : Nat) : List UInt8 := pfJ ++ hex16 f
theorem nmJ_all : ∀ j < 64, ∀ i < j, (decide (nmJ i ≤ nmJ j) = true ∧ nmJ i ≠ nmJ j) := by decide +kernel
theorem hex16_len (f : Nat) : (hex16 f).length = 16 := by simp [hex16]
theorem nmJ_len (f : Nat) : (nmJ f).length = 18 := by simp [nmJ, hex16_len]

/-! ### Lists of files -/
section
variable {n m : List UInt8} {f f' : Fl}
theorem getF_none' : ∀ {X : Fs}, n ∉ X.map (·.1) → getF n X = none
  | [], _ => rfl
  | p :: X, h => by
    simp only [List.map_cons, List.mem_cons, not_or] at h
    unfold getF; rw [if_neg (fun e => h.1 e.symm), getF_none' h.2]
theorem getF_last : ∀ {X : Fs}, n ∉ X.map (·.1) → getF n (X ++ [(n, f)]) = some f
  | [], _ => by simp [getF]
  | p :: X, h => by
    simp only [List.map_cons, List.mem_cons, not_or] at h
    rw [List.cons_append]; unfold getF; rw [if_neg (fun e => h.1 e.symm), getF_last h.2]
theorem putF_last : ∀ {X : Fs}, n ∉ X.map (·.1) → putF n f' (X ++ [(n, f)]) = X ++ [(n, f')]
  | [], _ => by simp [putF]
  | p :: X, h => by
    simp only [List.map_cons, List.mem_cons, not_or] at h
    rw [List.cons_append]; unfold putF; rw [if_neg (fun e => h.1 e.symm), putF_last h.2]; rfl
theorem putF_new : ∀ {X : Fs}, n ∉ X.map (·.1) → putF n f X = X ++ [(n, f)]
  | [], _ => rfl
  | p :: X, h => by
    simp only [List.map_cons, List.mem_cons, not_or] at h
    unfold putF; rw [if_neg (fun e => h.1 e.symm), putF_new h.2]; rfl
theorem getF_of_mem : ∀ {fs : Fs}, (fs.map (·.1)).Nodup → (n, f) ∈ fs → getF n fs = some f
  | p :: fs, hn, h => by
    simp only [List.map_cons, List.nodup_cons] at hn
    rcases List.mem_cons.1 h with h | h
    · subst h; simp [getF]
    · have hne : ¬ p.1 = n := fun e => hn.1 (by rw [e]; exact List.mem_map.2 ⟨_, h, rfl⟩)
      unfold getF; rw [if_neg hne, getF_of_mem hn.2 h]
end
/-! ### Calls on any disk -/
section
variable {d : Dk} {n b : List UInt8} {f : Fl}
theorem fileD_fs {d d' : Dk} (h : d.fs = d'.fs) (n : List UInt8) : fileD d n = fileD d' n := by unfold fileD; rw [h]
theorem DkOk.putG (h : DkOk d) (hf : f.safe ≤ f.data.length) (hu : Go.Proofs.Ytdgagffieobiiaa.used (putF n f d.fs) ≤ d.room) : DkOk (putD d n f) :=
  ⟨fun p hp => by rcases put_mem hp with rfl | hp; exact hf; exact h.safe p hp, h.room, hu, h.left⟩
theorem app_gen (hok : DkOk d) (hd : d.dead = false) (hr : used d.fs + b.length ≤ d.room) :
    (appD d n b).1.fs = putF n ⟨(fileD d n).data ++ b, (fileD d n).safe⟩ d.fs ∧ (appD d n b).1.room = d.room ∧ DkOk (appD d n b).1 ∧
      ((appD d n b).2 = 0 ∧ (appD d n b).1.dead = false ∨ (appD d n b).2 = 9 ∧ (appD d n b).1.dead = true) := by
  have e : (if d.room < used d.fs + b.length then 8 else 0) = 0 := if_neg (by omega)
  have hk := hok.turn 0
  have hu := used_put (n := n) (f := ⟨(fileD d n).data ++ b, (fileD d n).safe⟩) d.fs
  have hs := fileD_safe hok.safe n
  unfold appD
  rw [e]
  dsimp only
  obtain ⟨t1, t2⟩ := turnD_fs d 0
  have h3 : fileD (turnD d 0).2.2 n = fileD d n := fileD_fs t1 n
  have hput : DkOk (putD (turnD d 0).2.2 n ⟨(fileD d n).data ++ b, (fileD d n).safe⟩) := by
    refine hk.putG (by simp; omega) ?_
    rw [t1, t2]
    simp only [List.length_append] at hu
    change _ + (fileD d n).data.length = _ at hu
    omega
  rcases turn_cases d hd with ⟨k1, k2, k3⟩ | ⟨k1, k2, k3⟩
  · rw [if_pos (.inl k1), h3]
    exact ⟨by simp only [putD]; rw [t1], t2, hput, .inl ⟨k2, k3⟩⟩
  · rw [if_pos (.inr ⟨k3, hd⟩), h3]
    exact ⟨by simp only [putD]; rw [t1], t2, hput, .inr ⟨k2, k3⟩⟩
theorem sync_gen (hok : DkOk d) (hd : d.dead = false) (ht : thereD d n = 0) : (syncD d n).1.room = d.room ∧ DkOk (syncD d n).1 ∧
    ((syncD d n).2 = 0 ∧ (syncD d n).1.dead = false ∧ (syncD d n).1.fs = putF n ⟨(fileD d n).data, (fileD d n).data.length⟩ d.fs ∨ (syncD d n).2 = 9 ∧ (syncD d n).1.fs = d.fs) := by
  have hk := hok.turn 0
  have hu := used_put (n := n) (f := ⟨(fileD d n).data, (fileD d n).data.length⟩) d.fs
  have hus := hok.used
  unfold syncD
  rw [ht]
  dsimp only
  obtain ⟨t1, t2⟩ := turnD_fs d 0
  have h3 : fileD (turnD d 0).2.2 n = fileD d n := fileD_fs t1 n
  rcases turn_cases d hd with ⟨k1, k2, k3⟩ | ⟨k1, k2, k3⟩
  · rw [if_pos k1, h3]
    refine ⟨t2, hk.putG (Nat.le_refl _) ?_, .inl ⟨k2, k3, by simp only [putD]; rw [t1]⟩⟩
    rw [t1, t2]
    change _ + (fileD d n).data.length = _ at hu
    dsimp only at hu ⊢
    omega
  · rw [if_neg (by rw [k1]; decide)]
    exact ⟨t2, hk, .inr ⟨k2, t1⟩⟩
theorem turn_quiet (hd : d.dead = false) (ha : d.armed = false) : turnD d 0 = (true, 0, d) := by
  unfold turnD; rw [if_neg (by rw [hd]; decide), if_neg (by decide), if_neg (by rw [ha]; simp), if_neg (by rw [ha]; decide)]
theorem cut_gen (hd : d.dead = false) (ha : d.armed = false) (ht : thereD d n = 0) {k : Nat} (hk : k ≤ (fileD d n).data.length) : cutD d n k = (putD d n ⟨(fileD d n).data.take k, k⟩, 0) := by
  unfold cutD
  rw [ht, if_neg (show ¬ ((k : Int) < 0 ∨ 0 = 0 ∧ ((fileD d n).data.length : Int) < (k : Int)) by omega), turn_quiet hd ha]
  simp
end
theorem crash_skip (keeps : List Int) (ms : List (List UInt8)) (fs : Fs) : ∀ (ns : List (List UInt8)) (i : Nat), (∀ n ∈ ns, ((getF n fs).getD ⟨[], 0⟩).data.length - ((getF n fs).getD ⟨[], 0⟩).safe = 0) → crashF keeps i (ns ++ ms) fs = crashF keeps i ms fs
  | [], _, _ => rfl
  | n :: ns, i, h => by
    rw [List.cons_append, crashF]
    dsimp only
    rw [if_pos (h n List.mem_cons_self), crash_skip keeps ms fs ns i fun m hm => h m (List.mem_cons_of_mem _ hm)]
theorem crash_last (keeps : List Int) {X : Fs} {n : List UInt8} {f : Fl} (hn : n ∉ X.map (·.1)) (hf : f.safe ≤ f.data.length) : ∃ e, f.safe ≤ e ∧ e ≤ f.data.length ∧ crashF keeps 0 [n] (X ++ [(n, f)]) = X ++ [(n, ⟨f.data.take e, e⟩)] := by
  simp only [crashF, getF_last hn, Option.getD_some]
  by_cases h0 : f.data.length - f.safe = 0
  · have hs : f.safe = f.data.length := by omega
    refine ⟨f.safe, Nat.le_refl _, hf, ?_⟩
    rw [if_pos h0, List.take_of_length_le (by omega)]
  · rw [if_neg h0]
    have hlt : keepN keeps 0 (f.data.length - f.safe) ≤ f.data.length - f.safe := by
      unfold keepN
      split
      · exact Nat.lt_succ_iff.1 (Nat.mod_lt _ (Nat.succ_pos _))
      · omega
    exact ⟨f.safe + keepN keeps 0 (f.data.length - f.safe), by omega, by omega, by rw [putF_last hn]⟩

/-! ### Groups -/
abbrev Grps := List (List (List UInt8))
def closF : Nat → Grps → Fs
  | _, [] => []
  | k, g :: gs => (nmJ k, ⟨recs g, (recs g).length⟩) :: closF (k + g.length) gs
def firsts : Nat → Grps → List Nat
  | _, [] => []
  | k, g :: gs => k :: firsts (k + g.length) gs
theorem closF_names : ∀ (gs : Grps) (k : Nat), (closF k gs).map (·.1) = (firsts k gs).map nmJ
  | [], _ => rfl
  | g :: gs, k => by simp [closF, firsts, closF_names gs]
theorem closF_append (hs : Grps) : ∀ (gs : Grps) (k : Nat), closF k (gs ++ hs) = closF k gs ++ closF (k + gs.flatten.length) hs
  | [], k => by simp [closF]
  | g :: gs, k => by simp [closF, closF_append hs gs, Nat.add_assoc]
theorem firsts_append (hs : Grps) : ∀ (gs : Grps) (k : Nat), firsts k (gs ++ hs) = firsts k gs ++ firsts (k + gs.flatten.length) hs
  | [], k => by simp [firsts]
  | g :: gs, k => by simp [firsts, firsts_append hs gs, Nat.add_assoc]
theorem firsts_len : ∀ (gs : Grps) (k : Nat), (firsts k gs).length = gs.length
  | [], _ => rfl
  | g :: gs, k => by simp [firsts, firsts_len gs]
theorem firsts_bnd : ∀ {gs : Grps} {k : Nat}, (∀ g ∈ gs, g ≠ []) → ∀ f ∈ firsts k gs, k ≤ f ∧ f < k + gs.flatten.length
  | [], _, _, f, h => by simp [firsts] at h
  | g :: gs, k, hg, f, h => by
    have h0 : 0 < g.length := List.length_pos_iff.2 (hg g List.mem_cons_self)
    rw [List.flatten_cons, List.length_append]
    rcases List.mem_cons.1 (show f ∈ k :: firsts (k + g.length) gs from h) with rfl | h
    · omega
    · have := firsts_bnd (fun x hx => hg x (List.mem_cons_of_mem _ hx)) f h; omega
theorem firsts_pw : ∀ {gs : Grps} {k : Nat}, (∀ g ∈ gs, g ≠ []) → (firsts k gs).Pairwise (· < ·)
  | [], _, _ => List.Pairwise.nil
  | g :: gs, k, hg => by
    have h0 : 0 < g.length := List.length_pos_iff.2 (hg g List.mem_cons_self)
    refine List.pairwise_cons.2 ⟨fun f hf => ?_, firsts_pw fun x hx => hg x (List.mem_cons_of_mem _ hx)⟩
    have := firsts_bnd (fun x hx => hg x (List.mem_cons_of_mem _ hx)) f hf; omega
/-- The files of a log: those that are whole, and the last one. -/
def logF (gs : Grps) (x : List UInt8) (s : Nat) : Fs := closF 0 gs ++ [(nmJ gs.flatten.length, ⟨x, s⟩)]
section
variable {gs : Grps} {x : List UInt8} {s : Nat}
theorem logF_names (gs : Grps) (x : List UInt8) (s : Nat) : (logF gs x s).map (·.1) = (firsts 0 gs ++ [gs.flatten.length]).map nmJ := by simp [logF, closF_names]
theorem names_pw {l : List Nat} (h : l.Pairwise (· < ·)) (hb : ∀ f ∈ l, f < 64) : (l.map nmJ).Pairwise fun a b => decide (a ≤ b) = true ∧ a ≠ b :=
  List.pairwise_map.2 (h.imp_of_mem fun {a b} _ hb' hlt => nmJ_all b (hb b hb') a hlt)
theorem firsts_all (hg : ∀ g ∈ gs, g ≠ []) (hn : gs.flatten.length < 64) : (firsts 0 gs ++ [gs.flatten.length]).Pairwise (· < ·) ∧ ∀ f ∈ firsts 0 gs ++ [gs.flatten.length], f < 64 := by
  refine ⟨List.pairwise_append.2 ⟨firsts_pw hg, by simp, fun a ha b hb => ?_⟩, fun f hf => ?_⟩
  · have := firsts_bnd hg a ha; rw [List.mem_singleton] at hb; omega
  · rcases List.mem_append.1 hf with hf | hf
    · have := firsts_bnd hg f hf; omega
    · rw [List.mem_singleton] at hf; omega
theorem logF_nd (hg : ∀ g ∈ gs, g ≠ []) (hn : gs.flatten.length < 64) : ((logF gs x s).map (·.1)).Nodup := by
  obtain ⟨h1, h2⟩ := firsts_all hg hn
  rw [logF_names]
  exact (names_pw h1 h2).imp fun h => h.2
theorem logF_sort (hg : ∀ g ∈ gs, g ≠ []) (hn : gs.flatten.length < 64) : sortN (logF gs x s) = (firsts 0 gs ++ [gs.flatten.length]).map nmJ := by
  obtain ⟨h1, h2⟩ := firsts_all hg hn
  unfold sortN
  rw [logF_names]
  exact List.mergeSort_of_pairwise ((names_pw h1 h2).imp fun h => h.1)
theorem last_new (hg : ∀ g ∈ gs, g ≠ []) (hn : gs.flatten.length < 64) : nmJ gs.flatten.length ∉ (closF 0 gs).map (·.1) := by
  rw [closF_names]
  intro h
  obtain ⟨f, hf, he⟩ := List.mem_map.1 h
  have := firsts_bnd hg f hf
  exact (nmJ_all _ hn f (by omega)).2 he
theorem closF_used : ∀ (gs : Grps) (k : Nat), used (closF k gs) = (gs.map fun g => (recs g).length).sum
  | [], _ => rfl
  | g :: gs, k => by rw [closF, used_cons, closF_used gs]; rfl
theorem used_append (X Y : Fs) : used (X ++ Y) = used X + used Y := by simp [used]
theorem recs_flat : ∀ gs : Grps, (gs.map fun g => (recs g).length).sum = (recs gs.flatten).length
  | [] => rfl
  | g :: gs => by rw [List.map_cons, List.sum_cons, recs_flat gs, List.flatten_cons, recs_append, List.length_append]
theorem logF_used (gs : Grps) (x : List UInt8) (s : Nat) : used (logF gs x s) = (recs gs.flatten).length + x.length := by
  rw [logF, used_append, closF_used, recs_flat]; simp [used]
theorem closF_at : ∀ {gs : Grps} {k i : Nat} {g : List (List UInt8)}, gs[i]? = some g → ∃ f, (firsts k gs)[i]? = some f ∧ (nmJ f, (⟨recs g, (recs g).length⟩ : Fl)) ∈ closF k gs ∧ f = k + (gs.take i).flatten.length
  | g0 :: gs, k, 0, g, h => by
    simp only [List.getElem?_cons_zero, Option.some.injEq] at h; subst h
    exact ⟨k, rfl, List.mem_cons_self, by simp⟩
  | g0 :: gs, k, i + 1, g, h => by
    obtain ⟨f, h1, h2, h3⟩ := closF_at (k := k + g0.length) (i := i) (by simpa using h)
    exact ⟨f, by simpa [firsts] using h1, List.mem_cons_of_mem _ h2, by rw [h3]; simp [Nat.add_assoc]⟩
theorem logF_get (hg : ∀ g ∈ gs, g ≠ []) (hn : gs.flatten.length < 64) : getF (nmJ gs.flatten.length) (logF gs x s) = some ⟨x, s⟩ := getF_last (last_new hg hn)
theorem logF_put (hg : ∀ g ∈ gs, g ≠ []) (hn : gs.flatten.length < 64) (y : List UInt8) (t : Nat) : putF (nmJ gs.flatten.length) ⟨y, t⟩ (logF gs x s) = logF gs y t := putF_last (last_new hg hn)
theorem logF_crash (keeps : List Int) (hg : ∀ g ∈ gs, g ≠ []) (hn : gs.flatten.length < 64) (hs : s ≤ x.length) : ∃ e, s ≤ e ∧ e ≤ x.length ∧ crashF keeps 0 (sortN (logF gs x s)) (logF gs x s) = logF gs (x.take e) e := by
  rw [logF_sort hg hn, List.map_append, List.map_cons, List.map_nil, crash_skip]
  · exact crash_last keeps (f := ⟨x, s⟩) (last_new hg hn) hs
  · intro n hm
    obtain ⟨f, hf, rfl⟩ := List.mem_map.1 hm
    obtain ⟨i, hi, hfi⟩ := List.getElem_of_mem hf
    rw [firsts_len] at hi
    obtain ⟨f', h1, h2, _⟩ := closF_at (k := 0) (i := i) (List.getElem?_eq_getElem hi)
    have hff : f' = f := by rw [List.getElem?_eq_getElem (by rw [firsts_len]; exact hi), hfi] at h1; exact (Option.some.inj h1).symm
    subst hff
    rw [getF_of_mem (logF_nd hg hn) (List.mem_append_left _ h2)]
    simp
end
end Go.Proofs.Ytdgagffieobiiaa

/-
  Plain laws of a log on a disk: what its calls do, what a crash leaves, and what is read of it.
-/
namespace Go.Proofs.Ytdgagffieobiiaa

structure Lg where
  segs : List Nat
  next : Nat
  size : Nat
def lastN (l : Lg) : Nat := l.segs.getLast?.getD 0
def wSync (d : Dk) (l : Lg) : Dk × Nat := if l.segs = [] then (d, 0) else syncD d (nmJ (lastN l))
def wApp (d : Dk) (l : Lg) (b : List UInt8) : (Dk × Lg) × (Nat × Nat) :=
  if l.segs = [] ∨ 50 ≤ l.size then
    if (wSync d l).2 ≠ 0 then (((wSync d l).1, l), (0, (wSync d l).2))
    else if (appD (wSync d l).1 (nmJ l.next) (crcRec b)).2 ≠ 0 then (((appD (wSync d l).1 (nmJ l.next) (crcRec b)).1, l), (0, (appD (wSync d l).1 (nmJ l.next) (crcRec b)).2))
    else (((appD (wSync d l).1 (nmJ l.next) (crcRec b)).1, ⟨l.segs ++ [l.next], l.next + 1, (crcRec b).length⟩), (l.next, 0))
  else if (appD d (nmJ (lastN l)) (crcRec b)).2 ≠ 0 then (((appD d (nmJ (lastN l)) (crcRec b)).1, l), (0, (appD d (nmJ (lastN l)) (crcRec b)).2))
    else (((appD d (nmJ (lastN l)) (crcRec b)).1, ⟨l.segs, l.next + 1, l.size + (crcRec b).length⟩), (l.next, 0))
section
variable {d : Dk} {n b : List UInt8}
theorem sync_okG (h : DkOk d) : DkOk (syncD d n).1 := by
  have hk := h.turn (thereD d n)
  have hu := used_put (n := n) (f := ⟨(fileD (turnD d (thereD d n)).2.2 n).data, (fileD (turnD d (thereD d n)).2.2 n).data.length⟩) (turnD d (thereD d n)).2.2.fs
  have hus := hk.used
  unfold syncD
  dsimp only
  split
  · refine hk.putG (Nat.le_refl _) ?_
    change _ + (fileD (turnD d (thereD d n)).2.2 n).data.length = _ at hu
    dsimp only at hu ⊢
    omega
  · exact hk
end
/-- What the files hold: all these records, the first sy of them safe. -/
def Shape (fs : Fs) (all : List (List UInt8)) (sy : Nat) (segs : List Nat) (size : Nat) : Prop :=
  (all = [] ∧ sy = 0 ∧ fs = [] ∧ segs = [] ∧ size = 0) ∨
  ∃ (gs : Grps) (cur : List (List UInt8)) (s : Nat), (∀ g ∈ gs, g ≠ []) ∧ cur ≠ [] ∧ all = gs.flatten ++ cur ∧ s ≤ cur.length ∧ sy ≤ gs.flatten.length + s ∧ fs = logF gs (recs cur) (recs (cur.take s)).length ∧ segs = firsts 0 gs ++ [gs.flatten.length] ∧ size = (recs cur).length
structure JoI (d : Dk) (all : List (List UInt8)) (sy : Nat) (l : Lg) : Prop where
  ok : DkOk d
  room : d.room = 1073741824
  each : ∀ x ∈ all, x.length ≤ 100000
  cnt : all.length ≤ 30
  alive : d.dead = false
  sh : Shape d.fs all sy l.segs l.size
  nx : l.next = all.length
structure JoK (d : Dk) (all : List (List UInt8)) (sy : Nat) : Prop where
  ok : DkOk d
  room : d.room = 1073741824
  each : ∀ x ∈ all, x.length ≤ 100000
  cnt : all.length ≤ 30
  sh : ∃ (a : List (List UInt8)) (segs : List Nat) (size : Nat), a <+: all ∧ Shape d.fs a sy segs size
theorem JoI.stop {d : Dk} {all : List (List UInt8)} {sy : Nat} {l : Lg} (h : JoI d all sy l) : JoK d all sy := ⟨h.ok, h.room, h.each, h.cnt, all, _, _, List.prefix_refl _, h.sh⟩
theorem flat_le {all : List (List UInt8)} (he : ∀ x ∈ all, x.length ≤ 100000) (hc : all.length ≤ 30) : (recs all).length ≤ 3000240 := by
  have h : ∀ l : List (List UInt8), (∀ x ∈ l, x.length ≤ 100000) → (recs l).length ≤ l.length * 100008 := by
    intro l
    induction l with
    | nil => intro _; simp [recs]
    | cons x l ih =>
      intro hx
      have h0 := hx x List.mem_cons_self
      have h1 := ih fun y hy => hx y (List.mem_cons_of_mem _ hy)
      rw [recs_cons, List.length_append, crcRec_length, List.length_cons]
      omega
  have := h all he
  omega
theorem Shape.used {fs : Fs} {all : List (List UInt8)} {sy : Nat} {segs : List Nat} {size : Nat} (h : Shape fs all sy segs size) : used fs = (recs all).length := by
  rcases h with ⟨rfl, _, rfl, _⟩ | ⟨gs, cur, s, _, _, rfl, _, _, rfl, _⟩
  · rfl
  · rw [logF_used, recs_append, List.length_append]
section
variable {d : Dk} {all : List (List UInt8)} {sy : Nat} {l : Lg}
theorem lastN_app (a : List Nat) (k : Nat) (n s : Nat) : lastN ⟨a ++ [k], n, s⟩ = k := by simp [lastN]
theorem logF_there {gs : Grps} {x : List UInt8} {s : Nat} (hf : d.fs = logF gs x s) (hg : ∀ g ∈ gs, g ≠ []) (hn : gs.flatten.length < 64) : thereD d (nmJ gs.flatten.length) = 0 ∧ fileD d (nmJ gs.flatten.length) = ⟨x, s⟩ := by
  refine ⟨by rw [thereD, hf, logF_get hg hn]; rfl, by rw [fileD, hf, logF_get hg hn]; rfl⟩
theorem logF_snoc (gs : Grps) (cur : List (List UInt8)) : closF 0 (gs ++ [cur]) = logF gs (recs cur) (recs cur).length := by
  rw [closF_append, logF]; simp [closF]
theorem JoI.sync (h : JoI d all sy l) : (wSync d l).2 = 0 ∧ JoI (wSync d l).1 all all.length l ∨ (wSync d l).2 ≠ 0 ∧ JoK (wSync d l).1 all sy := by
  obtain ⟨ok, room, each, cnt, alive, sh, nx⟩ := h
  rcases sh with ⟨e1, e2, e3, e4, e5⟩ | ⟨gs, cur, s, hg, hc, e1, hs, hsy, e3, e4, e5⟩
  · unfold wSync
    rw [if_pos e4]
    exact .inl ⟨rfl, ok, room, each, cnt, alive, .inl ⟨e1, by rw [e1]; rfl, e3, e4, e5⟩, nx⟩
  · have hn : gs.flatten.length < 64 := by rw [e1, List.length_append] at cnt; omega
    have hl : lastN l = gs.flatten.length := by unfold lastN; rw [e4]; simp
    obtain ⟨t1, t2⟩ := logF_there e3 hg hn
    unfold wSync
    rw [if_neg (by rw [e4]; simp), hl]
    obtain ⟨r1, r2, r3⟩ := sync_gen ok alive t1
    rcases r3 with ⟨k1, k2, k3⟩ | ⟨k1, k3⟩
    · refine .inl ⟨k1, r2, by rw [r1]; exact room, each, cnt, k2, .inr ⟨gs, cur, cur.length, hg, hc, e1, Nat.le_refl _, by rw [e1, List.length_append]; exact Nat.le_refl _, ?_, e4, e5⟩, nx⟩
      rw [k3, t2, e3, logF_put hg hn, List.take_length]
    · refine .inr ⟨by rw [k1]; decide, r2, by rw [r1]; exact room, each, cnt, all, _, _, List.prefix_refl _, .inr ⟨gs, cur, s, hg, hc, e1, hs, hsy, by rw [k3]; exact e3, e4, e5⟩⟩
theorem JoI.app (h : JoI d all sy l) {b : List UInt8} (hb : b.length ≤ 100000) (hlt : all.length < 30) :
    (wApp d l b).2.2 = 0 ∧ JoI (wApp d l b).1.1 (all ++ [b]) sy (wApp d l b).1.2 ∨ (wApp d l b).2.2 ≠ 0 ∧ JoK (wApp d l b).1.1 (all ++ [b]) sy := by
  have hsync := h.sync
  have hus := h.sh.used
  have hfl := flat_le h.each h.cnt
  obtain ⟨ok, room, each, cnt, alive, sh, nx⟩ := h
  have each' : ∀ x ∈ all ++ [b], x.length ≤ 100000 := fun x hx => by
    rcases List.mem_append.1 hx with hx | hx
    · exact each x hx
    · rw [List.mem_singleton] at hx; subst hx; exact hb
  have cnt' : (all ++ [b]).length ≤ 30 := by rw [List.length_append]; exact hlt
  have hrl := crcRec_length b
  have hrb : recs [b] = crcRec b := by simp [recs]
  have hr1 : used d.fs + (crcRec b).length ≤ d.room := by rw [room]; omega
  rcases sh with ⟨e1, e2, e3, e4, e5⟩ | ⟨gs, cur, s, hg, hc, e1, hs, hsy, e3, e4, e5⟩
  · have hw : wSync d l = (d, 0) := if_pos e4
    have h0 : all.length = 0 := by rw [e1]; rfl
    obtain ⟨q1, q2, q3, q4⟩ := app_gen (n := nmJ l.next) (b := crcRec b) ok alive hr1
    have hfd : fileD d (nmJ l.next) = ⟨[], 0⟩ := by unfold fileD; rw [e3]; rfl
    have hsh : Shape (appD d (nmJ l.next) (crcRec b)).1.fs (all ++ [b]) sy [l.next] (crcRec b).length := by
      refine .inr ⟨[], [b], 0, by simp, by simp, by rw [e1]; rfl, by simp, by rw [e2]; exact Nat.zero_le _, ?_, by rw [nx, h0]; rfl, by rw [hrb]⟩
      rw [q1, hfd, e3, hrb, nx, h0]; simp [putF, logF, closF, recs]
    unfold wApp
    rw [if_pos (.inl e4), hw]
    dsimp only
    rw [if_neg (by decide)]
    rcases q4 with ⟨k1, k2⟩ | ⟨k1, k2⟩
    · rw [if_neg (by rw [k1]; decide)]
      exact .inl ⟨rfl, q3, by rw [q2]; exact room, each', cnt', k2, by rw [e4]; exact hsh, by simp [nx]⟩
    · rw [if_pos (by rw [k1]; decide)]
      exact .inr ⟨by show _ ≠ 0; rw [k1]; decide, q3, by rw [q2]; exact room, each', cnt', _, _, _, List.prefix_refl _, hsh⟩
  · have hn : gs.flatten.length < 64 := by rw [e1, List.length_append] at cnt; omega
    have hl : lastN l = gs.flatten.length := by unfold lastN; rw [e4]; simp
    by_cases h50 : 50 ≤ l.size
    · have hwe : wSync d l = syncD d (nmJ gs.flatten.length) := by unfold wSync; rw [if_neg (by rw [e4]; simp), hl]
      unfold wApp
      rw [if_pos (.inr h50)]
      rcases hsync with ⟨k1, k2⟩ | ⟨k1, k2⟩
      · rw [if_neg (by rw [k1]; decide)]
        obtain ⟨t1, t2⟩ := logF_there e3 hg hn
        obtain ⟨r1, r2, r3⟩ := sync_gen ok alive t1
        have hfs : (wSync d l).1.fs = closF 0 (gs ++ [cur]) := by
          rw [hwe] at k1 ⊢
          rcases r3 with ⟨_, _, z⟩ | ⟨z, _⟩
          · rw [z, t2, e3, logF_put hg hn, logF_snoc]
          · rw [z] at k1; exact absurd k1 (by decide)
        have hg2 : ∀ g ∈ gs ++ [cur], g ≠ [] := fun g hx => by
          rcases List.mem_append.1 hx with hx | hx
          · exact hg g hx
          · rw [List.mem_singleton] at hx; subst hx; exact hc
        have hln : all.length = (gs ++ [cur]).flatten.length := by rw [e1]; simp
        have hlst := last_new hg2 (by omega)
        rw [← hln, ← nx] at hlst
        have hus2 := k2.sh.used
        obtain ⟨q1, q2, q3, q4⟩ := app_gen (n := nmJ l.next) (b := crcRec b) k2.ok k2.alive (by rw [k2.room]; omega)
        have hfd : fileD (wSync d l).1 (nmJ l.next) = ⟨[], 0⟩ := by unfold fileD; rw [hfs, getF_none' hlst]; rfl
        have hsh : Shape (appD (wSync d l).1 (nmJ l.next) (crcRec b)).1.fs (all ++ [b]) sy (l.segs ++ [l.next]) (crcRec b).length := by
          refine .inr ⟨gs ++ [cur], [b], 0, hg2, by simp, by rw [e1]; simp, by simp, by rw [← hln, e1, List.length_append]; omega, ?_, ?_, by rw [hrb]⟩
          · rw [q1, hfd, hfs, putF_new hlst, hrb, logF, ← hln, nx]; simp [recs]
          · rw [e4, firsts_append, ← hln, nx]; simp [firsts]
        rcases q4 with ⟨p1, p2⟩ | ⟨p1, p2⟩
        · rw [if_neg (by rw [p1]; decide)]
          exact .inl ⟨rfl, q3, by rw [q2]; exact k2.room, each', cnt', p2, hsh, by simp [nx]⟩
        · rw [if_pos (by rw [p1]; decide)]
          exact .inr ⟨by show _ ≠ 0; rw [p1]; decide, q3, by rw [q2]; exact k2.room, each', cnt', _, _, _, List.prefix_refl _, hsh⟩
      · rw [if_pos k1]
        obtain ⟨a, segs, size, ha, hsh⟩ := k2.sh
        exact .inr ⟨k1, k2.ok, k2.room, each', cnt', a, segs, size, ha.trans (List.prefix_append _ _), hsh⟩
    · obtain ⟨t1, t2⟩ := logF_there e3 hg hn
      obtain ⟨q1, q2, q3, q4⟩ := app_gen (n := nmJ gs.flatten.length) (b := crcRec b) ok alive hr1
      have hsh : Shape (appD d (nmJ gs.flatten.length) (crcRec b)).1.fs (all ++ [b]) sy l.segs (l.size + (crcRec b).length) := by
        refine .inr ⟨gs, cur ++ [b], s, hg, by simp, by rw [e1]; simp, by rw [List.length_append]; omega, hsy, ?_, e4, by rw [e5, recs_append, List.length_append, hrb]⟩
        rw [q1, t2, e3, logF_put hg hn, recs_append, hrb, List.take_append_of_le_length hs]
      unfold wApp
      rw [if_neg (by rw [e4]; simp; omega), hl]
      rcases q4 with ⟨p1, p2⟩ | ⟨p1, p2⟩
      · rw [if_neg (by rw [p1]; decide)]
        exact .inl ⟨rfl, q3, by rw [q2]; exact room, each', cnt', p2, hsh, by simp [nx]⟩
      · rw [if_pos (by rw [p1]; decide)]
        exact .inr ⟨by show _ ≠ 0; rw [p1]; decide, q3, by rw [q2]; exact room, each', cnt', _, _, _, List.prefix_refl _, hsh⟩
/-- A log's files with nothing that isn't safe, as they are read. -/
structure JoC (d : Dk) (gs : Grps) (x : List UInt8) (part : List (List UInt8)) (e : Nat) : Prop where
  ok : DkOk d
  alive : d.dead = false
  unarmed : d.armed = false
  fs : d.fs = logF gs x x.length
  ne : ∀ g ∈ gs, g ≠ []
  each : ∀ y ∈ gs.flatten ++ part, y.length ≤ 100000
  cnt : (gs.flatten ++ part).length ≤ 30
  op : openAll x = (part, e)
  le : e ≤ x.length
  tk : x.take e = recs part
def cutL (d : Dk) (gs : Grps) (x : List UInt8) (e : Nat) : Dk := if e < x.length then (cutD d (nmJ gs.flatten.length) (e : Nat)).1 else d
theorem JoC.cut {gs : Grps} {x : List UInt8} {part : List (List UInt8)} {e : Nat} (h : JoC d gs x part e) : (cutD d (nmJ gs.flatten.length) (e : Nat)).2 = 0 ∧ JoC (cutL d gs x e) gs (recs part) part (recs part).length := by
  have hn : gs.flatten.length < 64 := by have := h.cnt; rw [List.length_append] at this; omega
  obtain ⟨t1, t2⟩ := logF_there h.fs h.ne hn
  have hx : ∀ y ∈ part, y.length ≤ 1048576 := fun y hy => by have := h.each y (List.mem_append_right _ hy); omega
  have hc := cut_gen (n := nmJ gs.flatten.length) (k := e) h.alive h.unarmed t1 (by rw [t2]; exact h.le)
  have hel : (recs part).length = e := by rw [← h.tk, List.length_take]; have := h.le; omega
  rw [t2] at hc
  dsimp only at hc
  rw [h.tk] at hc
  refine ⟨by rw [hc], ?_⟩
  unfold cutL
  split
  · rename_i hlt
    rw [hc]
    refine ⟨h.ok.putG (by dsimp only; omega) ?_, h.alive, h.unarmed, ?_, h.ne, h.each, h.cnt, openAll_recs hx, Nat.le_refl _, List.take_length⟩
    · have hu := h.ok.used
      rw [h.fs, logF_used] at hu
      rw [h.fs, logF_put h.ne hn, logF_used]; omega
    · simp only [putD]; rw [h.fs, logF_put h.ne hn, hel]
  · have hex : x = recs part := by rw [← h.tk, List.take_of_length_le (by omega)]
    subst hex
    exact ⟨h.ok, h.alive, h.unarmed, h.fs, h.ne, h.each, h.cnt, openAll_recs hx, Nat.le_refl _, List.take_length⟩
theorem JoK.crash (h : JoK d all sy) (keeps : List Int) : ((crashK keeps d (sortN d.fs)).fs = [] ∧ (crashK keeps d (sortN d.fs)).dead = false ∧ sy = 0) ∨
    ∃ (gs : Grps) (x : List UInt8) (part : List (List UInt8)) (e : Nat), JoC (crashK keeps d (sortN d.fs)) gs x part e ∧ gs.flatten ++ part <+: all ∧ sy ≤ (gs.flatten ++ part).length := by
  obtain ⟨ok, room, each, cnt, a, segs, size, hp, sh⟩ := h
  rcases sh with ⟨e1, e2, e3, _, _⟩ | ⟨gs, cur, s, hg, hc, e1, hs, hsy, e3, _, _⟩
  · refine .inl ⟨?_, rfl, e2⟩
    show crashF keeps 0 (sortN d.fs) d.fs = []
    rw [e3]; simp [sortN, crashF]
  · have hpl := hp.length_le
    have hn : gs.flatten.length < 64 := by rw [e1, List.length_append] at hpl; omega
    have hea : ∀ y ∈ gs.flatten ++ cur, y.length ≤ 100000 := fun y hy => each y (hp.subset (e1 ▸ hy))
    have hx : ∀ y ∈ cur, y.length ≤ 1048576 := fun y hy => by have := hea y (List.mem_append_right _ hy); omega
    have hsl : (recs (cur.take s)).length ≤ (recs cur).length := by have := recs_take_le (l := cur) hs; rwa [List.take_length] at this
    obtain ⟨e, he1, he2, hcr⟩ := logF_crash keeps hg hn hsl
    obtain ⟨m, m1, m2, m3, m4⟩ := openAll_cut hx he2
    have hfs : (crashK keeps d (sortN d.fs)).fs = logF gs ((recs cur).take e) ((recs cur).take e).length := by
      show crashF keeps 0 (sortN d.fs) d.fs = _
      rw [e3, hcr, List.length_take, Nat.min_eq_left he2]
    have hpre : gs.flatten ++ cur.take m <+: gs.flatten ++ cur := List.prefix_append_right_inj _ |>.2 (List.take_prefix _ _)
    have hus := ok.used
    rw [e3, logF_used] at hus
    refine .inr ⟨gs, (recs cur).take e, cur.take m, _, ⟨⟨?_, ok.room, ?_, by show -9223372036854775808 ≤ (0 : Int) ∧ (0 : Int) ≤ 9223372036854775807 ∧ (false = true → 0 ≤ (0 : Int)); decide⟩, rfl, rfl, hfs, hg, fun y hy => hea y (hpre.subset hy), ?_, m2, ?_, take_recs _ _ _ m3⟩, hpre.trans (e1 ▸ hp), ?_⟩
    · intro p hp
      rw [hfs] at hp
      rcases List.mem_append.1 hp with hp | hp
      · have : ∀ (gs : Grps) (k : Nat), ∀ p ∈ closF k gs, p.2.safe ≤ p.2.data.length := by
          intro gs
          induction gs with
          | nil => intro k p hp; simp [closF] at hp
          | cons g gs ih =>
            intro k p hp
            rcases List.mem_cons.1 hp with rfl | hp
            · exact Nat.le_refl _
            · exact ih _ p hp
        exact this gs 0 p hp
      · rw [List.mem_singleton] at hp; subst hp; exact Nat.le_refl _
    · rw [hfs, logF_used, List.length_take]
      show _ ≤ d.room
      omega
    · have := hpre.length_le; rw [← e1] at this; omega
    · rw [List.length_take, Nat.min_eq_left he2]; exact m3
    · have := cut_ge (l := cur) (s := s) (k := e) (m := m) hs he1 m4
      rw [List.length_append, List.length_take]; omega
end
end Go.Proofs.Ytdgagffieobiiaa

/-
  Facts of memory that stays as it is, as pieces; groups of cells told one by one.
-/
namespace Go.Proofs.Ytdgagffieobiiaa
open Go.RowKit

/-- A fact that the piece's own blocks support. -/
def kp (K : World → Prop) : Ck := ⟨fun w S => K w ∧ ∀ w', w.heap.size ≤ w'.heap.size → (∀ b, b < w.heap.size → S b → w'.heap[b]? = w.heap[b]?) → K w',
  fun {w w' S S'} ⟨h1, h2⟩ hz hm => ⟨h2 w' hz fun b hb hs => (hm b hb hs).2, fun w'' hz2 hm2 => h2 w'' (Nat.le_trans hz hz2) fun b hb hs => (hm2 b (Nat.lt_of_lt_of_le hb hz) (hm b hb hs).1).trans (hm b hb hs).2⟩⟩
section
variable {M : BS} {w0 w w' : World} {H H1 : List Cd} {K K' : World → Prop}
theorem Sat.kp {S : BS} {i : Nat} (h : Sat w H S) (hi : nthC H i = some (.ck (kp K))) : K w := by
  obtain ⟨T, _, hc, _⟩ := h.front hi
  exact hc.1
theorem St.kp (h : St M w0 w H) (i : Nat) (hi : nthC H i = some (.ck (kp K))) : K w := Sat.kp h.2 hi
theorem St.kpOf (h : St M w0 w (H1 ++ H)) (hK : ∀ w S, Sat w H1 S → K w) : St M w0 w (.ck (Go.Proofs.Ytdgagffieobiiaa.kp K) :: H) :=
  h.pack (.ck (Go.Proofs.Ytdgagffieobiiaa.kp K)) fun w S hs => ⟨hK w S hs, fun w' hz hm => hK w' S (hs.move hz fun b hb k => ⟨k, hm b hb k⟩)⟩
theorem St.kpMono (h : St M w0 w (.ck (Go.Proofs.Ytdgagffieobiiaa.kp K) :: H)) (hK : ∀ w, K w → K' w) : St M w0 w (.ck (Go.Proofs.Ytdgagffieobiiaa.kp K') :: H) :=
  St.kpOf (H1 := [_]) h fun w S hs => hK w (Sat.kp (i := 0) hs rfl)
theorem St.kpAnd (h : St M w0 w (.ck (Go.Proofs.Ytdgagffieobiiaa.kp K) :: .ck (Go.Proofs.Ytdgagffieobiiaa.kp K') :: H)) : St M w0 w (.ck (Go.Proofs.Ytdgagffieobiiaa.kp fun w => K w ∧ K' w) :: H) :=
  St.kpOf (H1 := [_, _]) h fun w S hs => ⟨Sat.kp (i := 0) hs rfl, Sat.kp (i := 1) hs rfl⟩
theorem St.kpNil (h : St M w0 w H) (hK : ∀ w, K w) : St M w0 w (.ck (Go.Proofs.Ytdgagffieobiiaa.kp K) :: H) := St.kpOf (H1 := []) h fun w _ _ => hK w
theorem St.kpNew (h : St M w0 w H) (hb : Below w.heap.size w w') (h1 : K w') (h2 : ∀ w'', w'.heap.size ≤ w''.heap.size → (∀ b, w.heap.size ≤ b → b < w'.heap.size → w''.heap[b]? = w'.heap[b]?) → K w'') : St M w0 w' (.ck (Go.Proofs.Ytdgagffieobiiaa.kp K) :: H) :=
  h.new (T := fun b => w.heap.size ≤ b) (c := .ck (Go.Proofs.Ytdgagffieobiiaa.kp K)) hb ⟨h1, fun w'' hz hm => h2 w'' hz fun b hl hb => hm b hb hl⟩ fun _ _ k => k
end
/-- Things as groups of cells, as far as a class of worlds tells them. -/
def AllK {α : Type} (K : World → Prop) (Q : α → List Value → World → Prop) (xs : List α) (css : List (List Value)) : Prop :=
  css.length = xs.length ∧ ∀ (i : Nat) (x : α), xs[i]? = some x → ∃ cs, css[i]? = some cs ∧ ∀ w, K w → Q x cs w
section
variable {α : Type} {K : World → Prop} {Q : α → List Value → World → Prop} {xs : List α} {css : List (List Value)}
theorem AllK.nil : AllK K Q [] [] := ⟨rfl, fun i e h => by simp at h⟩
theorem AllK.snoc (h : AllK K Q xs css) {x : α} {cs : List Value} (he : ∀ w, K w → Q x cs w) : AllK K Q (xs ++ [x]) (css ++ [cs]) := by
  obtain ⟨hl, h⟩ := h
  refine ⟨by simp [hl], fun i y hi => ?_⟩
  rcases Nat.lt_or_ge i xs.length with hlt | hge
  · rw [List.getElem?_append_left hlt] at hi
    rw [List.getElem?_append_left (by omega)]
    exact h i y hi
  · rw [List.getElem?_append_right hge] at hi
    obtain ⟨h0, h1⟩ := List.getElem?_eq_some_iff.1 hi
    have h0' : i - xs.length = 0 := by simpa using h0
    simp only [h0', List.getElem_cons_zero] at h1
    subst h1
    exact ⟨cs, by rw [List.getElem?_append_right (by omega), show i - css.length = 0 by omega]; rfl, he⟩
/-- A row of such groups, read. -/
theorem AllK.rdr {k : Nat} {el : α → El} {w : World} {S : BS} {A : Option Addr} {e : TypeId} {base c : Nat} (h : AllK K Q xs css) (hk : K w) (hq : ∀ x cs, Q x cs w → (el x).P w All cs ∧ cs.length = k) (hr : OwR k e w base S A c (css.map rawEl)) : RdR k w All A (xs.map el) := by
  obtain ⟨h1, h2⟩ := h
  have hr2 := RdR.raw hr.rd
  refine ⟨css, ⟨by simp [h1], fun i cs hi => ?_⟩, by rw [List.length_map, ← h1]; exact hr2.1, fun _ _ _ => trivial⟩
  have hlt : i < xs.length := by have := (List.getElem?_eq_some_iff.1 hi).1; omega
  obtain ⟨cs2, k1, k2⟩ := h2 i xs[i] (List.getElem?_eq_getElem hlt)
  rw [hi] at k1
  cases k1
  have := hq _ _ (k2 w hk)
  exact ⟨this.2, el xs[i], by rw [List.getElem?_map, List.getElem?_eq_getElem hlt]; rfl, this.1⟩
end
section
variable {P : Program} {N : Nat} {ops : Array Oper} {Q : Exit → Act → World → Prop} {rest : List Oper} {L : FL} {w0 w : World} {M : BS} {H : List Cd} {t e : TypeId} {z : Value} {bytes k : Nat} {cs : List Value}
/-- A slice of one element of k cells. -/
theorem ws_bsR {d : Nat} {x : Operand} {ty : TypeId} {pos : String} {aft : Array Edge} (hs : St M w0 w H) (T : RowK P t e k z bytes) (hx : ∃ v, look L x = some v ∧ v.cells = cs.toArray) (hl : cs.length = k) (hk : k ≤ 16777216) (hd : Nat.blt d N = true)
    (h : ∀ A w', St M w0 w' (.rg k e A 1 [rawEl cs] :: H) → WL P N ops Q rest ((d, .slice A 1 1) :: L) w') :
    WL P N ops Q (⟨some d, .buildSlice t 1 #[(0, x)], ty, pos, aft, none⟩ :: rest) L w :=
  wl_bsG (css := [cs]) (els := [rawEl cs]) (S := NoB) (ps := [(0, x)]) T ⟨rfl, hx, hl, trivial⟩ rfl (by simpa using hk) (by decide) (grp_raw (css := [cs]) (by simpa using hl)) hd fun A w' ho hb _ =>
    h A w' (hs.newG hb ho (Nat.le_refl _) fun _ _ h => h.elim)
end
theorem sat_ow {w : World} {H : List Cd} {S : BS} {e : TypeId} {A : Option Addr} {n c : Nat} {xs : List Value} (h : Sat w H S) (i : Nat) (hi : nthC H i = some (.ow e A n c xs)) : Ow w 0 e A n c xs := by
  obtain ⟨T, _, hc, _⟩ := h.front hi
  exact hc.2
theorem AllK.weak {α : Type} {K K' : World → Prop} {Q : α → List Value → World → Prop} {xs : List α} {css : List (List Value)} (h : AllK K Q xs css) (hk : ∀ w, K' w → K w) : AllK K' Q xs css := ⟨h.1, fun i x hi => by
  obtain ⟨cs, h1, h2⟩ := h.2 i x hi
  exact ⟨cs, h1, fun w hw => h2 w (hk w hw)⟩⟩
theorem wc_heldG {P : Program} {N : Nat} {Q : Exit → Act → World → Prop} {L : FL} {w : World} (S : World → Prop) (m : Nat) {id : Nat} {l : List Oper} (hm : P.follows .mixedOrders = true) (h : WM P N l.toArray Q S m l.length (Array.replicate l.length false) L w.drew) : WC P N (.region id l.toArray true) Q L w := fun a ha =>
  wp_region_noPanic (wp_region_any hm (any_of_M (S := S) (m := m) _ _ _ _ (by simpa using h a ha)))
end Go.Proofs.Ytdgagffieobiiaa

/-
  A log's types; walks over its names, its last segment, and whether the next record needs a new one.
-/
namespace Go.Proofs.Ytdgagffieobiiaa
open Go.RowKit
theorem j1_u64 : Cell1 Try.prog 47 := ⟨by kernel_rfl, by rw [Try.underlying47]⟩
theorem j1_str : Cell1 Try.prog 9 := ⟨by kernel_rfl, by rw [Try.underlying9]⟩
theorem j1_dp : Cell1 Try.prog 24 := ⟨by kernel_rfl, by rw [Try.underlying24]⟩
theorem j1_sgs : Cell1 Try.prog 88 := ⟨by kernel_rfl, by rw [Try.underlying88]⟩
theorem sNm : StT Try.prog 87 2 := ⟨by kernel_rfl, by kernel_rfl⟩
theorem sSg : StT Try.prog 100 1 := ⟨by kernel_rfl, by kernel_rfl⟩
theorem fa_L0 : FieldAt Try.prog 90 0 0 := fieldAt_mk Try.underlying90 rfl rfl (by kernel_rfl)
theorem fa_L1 : FieldAt Try.prog 90 1 2 := fieldAt_mk Try.underlying90 rfl rfl (by kernel_rfl)
theorem fa_L2 : FieldAt Try.prog 90 2 3 := fieldAt_mk Try.underlying90 rfl rfl (by kernel_rfl)
theorem fa_L3 : FieldAt Try.prog 90 3 4 := fieldAt_mk Try.underlying90 rfl rfl (by kernel_rfl)
theorem fa_L4 : FieldAt Try.prog 90 4 5 := fieldAt_mk Try.underlying90 rfl rfl (by kernel_rfl)
theorem fa_L5 : FieldAt Try.prog 90 5 6 := fieldAt_mk Try.underlying90 rfl rfl (by kernel_rfl)
theorem fa_N0 : FieldAt Try.prog 87 0 0 := fieldAt_mk Try.underlying87 rfl rfl (by kernel_rfl)
theorem fa_N1 : FieldAt Try.prog 87 1 1 := fieldAt_mk Try.underlying87 rfl rfl (by kernel_rfl)
theorem fa_S0 : FieldAt Try.prog 100 0 0 := fieldAt_mk Try.underlying100 rfl rfl (by kernel_rfl)
def sgC (f : Nat) : List Value := [.int .u64 (f : Int)]
def sgR (l : List Nat) : List El := (l.map sgC).map rawEl
def zSg : List Value := [.int .u64 0]
theorem tkSg : RowK Try.prog 88 100 1 (.agg zSg.toArray) 8 := ⟨Try.underlying88, by kernel_rfl, by simp [zSg, Value.cells], by decide⟩
theorem zeroSg : (Try.prog.info? 100).map (·.zero) = some (some (.agg zSg.toArray)) := by kernel_rfl
def nmV (gd : Nat) : List Value := [.pointer (some ⟨gd, 0, none⟩), str pfJ]
def lgV (gd : Nat) (A : Option Addr) (n c nx sz : Nat) : List Value := [.pointer (some ⟨gd, 0, none⟩), str pfJ, .int .i64 50, .slice A n c, .int .u64 (nx : Int), .int .i64 (sz : Int), .bool false]
theorem ar_wiJ {w : World} {g : Nat} {t : TypeId} {cs : List Value} (h : Ar w g t cs) (o : Nat) (ds : List Value) (hd : ∀ j u, ds[j]? = some u → cs[o + j]? = some u) : Wi w g o ds := ⟨h.lt, fun j u hu => (h.cell (o + j)).trans (hd j u hu)⟩
theorem lg_named {w : World} {g gd n c nx sz : Nat} {A : Option Addr} (h : Ar w g 90 (lgV gd A n c nx sz)) : Wi w g 0 (nmV gd) := ar_wiJ h 0 (nmV gd) (fun j u hu => by
  match j, hu with
  | 0, hu => exact hu
  | 1, hu => exact hu)
theorem path_any {gd : Nat} {s : List UInt8} {w : World} (hl : s.length ≤ 1048576) : CallsV Try.prog 58 #[.agg (nmV gd).toArray, str s] w fun v w' => v = str (pfJ ++ s) ∧ Below w.heap.size w w' := by
  have hs := St.init w
  refine calls_in (N := _) Try.func58 rfl Try.ntmps58 rfl ?_; show WC _ _ _ _ _ _
  refine wc_sr ?_
  refine ws_box (cs := nmV gd) hs rfl rfl ?_; clear hs; intro g2 _ hs
  unfold nmV at hs
  refine wl_as rfl rfl ?_; refine wl_ns ?_; refine wc_sr ?_; apply wl_val; apply opv_fa; exact fa_N1; exact rfl; exact rfl; apply wl_val; apply opv_ldX; exact rfl; exact hs.ar 0 rfl; exact j1_str; exact rfl; exact rfl; refine wl_mv rfl rfl ?_
  refine wl_bin rfl rfl (bin_catS (by simp; omega)) rfl ?_
  refine wl_as rfl rfl ?_; refine wl_ns ?_; refine wc_ret ?_
  exact we_ret1 rfl rfl ⟨_, rfl, rfl, hs.bel⟩
theorem fill_set {l : List UInt8} {i n : Nat} {b : UInt8} (hb : l[i]? = some b) (hn : l.length = n) :
    (bvs (l.take i) ++ List.replicate (n - i) (Value.int .u8 0)).set i (.int .u8 (b.toNat : Int)) = bvs (l.take (i + 1)) ++ List.replicate (n - (i + 1)) (.int .u8 0) := by
  have hi := (List.getElem?_eq_some_iff.1 hb).1
  have e : (bvs (l.take i)).length = i := by rw [bvs_length, List.length_take]; omega
  rw [List.set_append_right _ _ (by omega), e, Nat.sub_self, show n - i = (n - (i + 1)) + 1 by omega, List.replicate_succ, List.set_cons_zero, List.take_add_one, hb]
  simp [bvs, bv]
theorem hexN_and (f i : Nat) (h : i ≤ 15) : (f / 2 ^ (4 * (15 - i)) &&& 15) = hexN f i := by
  rw [show (15 : Nat) = 2 ^ 4 - 1 from rfl, Nat.and_two_pow_sub_one_eq_mod, Nat.pow_mul]; rfl
theorem hexN_lt (f i : Nat) : hexN f i < 16 := Nat.mod_lt _ (by decide)
theorem hex16_at (f : Nat) {i : Nat} (h : i < 16) : (hex16 f)[i]? = some (dgs.getD (hexN f i) 0) := by
  rw [hex16, List.getElem?_map, List.getElem?_range h]; rfl
theorem dgs_at {k : Nat} (h : k < 16) : dgs[k]? = some (dgs.getD k 0) := by
  rw [List.getD_eq_getElem?_getD, List.getElem?_eq_getElem (show k < dgs.length from h)]; rfl
theorem name_any {g gd : Nat} {A : Option Addr} {n c nx sz f : Nat} {w : World} (ha : Ar w g 90 (lgV gd A n c nx sz)) (hf : f < 2 ^ 64) :
    CallsV Try.prog 46 #[.pointer (some ⟨g, 0, none⟩), .agg (sgC f).toArray] w fun v w' => v = str (nmJ f) ∧ Below w.heap.size w w' := by
  have hs := St.init w
  refine calls_in (N := _) Try.func46 rfl Try.ntmps46 rfl ?_; show WC _ _ _ _ _ _
  refine wc_sr ?_
  refine ws_box (cs := sgC f) hs rfl rfl ?_; clear hs; intro g3 _ hs
  unfold sgC at hs
  refine wl_as rfl rfl ?_; refine wl_ns ?_; refine wc_sr ?_
  refine ws_mk (n := 16) (c := 16) hs tyB rfl rfl rfl rfl (Nat.le_refl _) (by decide) (by decide) rfl ?_
  clear hs; intro B _ hs
  refine wl_as rfl rfl ?_; refine wl_ns ?_; refine wc_seq ?_; refine wc_sr ?_; refine wl_mv rfl rfl ?_; apply wl_val; apply opv_len; exact rfl; exact tyB.sl; exact rfl; refine wl_mv rfl rfl ?_; refine wl_ns ?_; refine wc_block ?_
  refine wc_loop (fun L wr m => ∃ (i : Nat), L = [(0, .pointer (some ⟨g, 0, none⟩)), (3, .pointer (some ⟨g3, 0, none⟩)), (5, .slice B 16 16), (9, .int .i64 ((16 : Nat) : Int)), (10, .int .i64 (i : Int))] ∧ i ≤ 16 ∧ St NoB w wr [.ow 5 B 16 16 (bvs ((hex16 f).take i) ++ List.replicate (16 - i) (.int .u8 0)), .blk g3 100 [.int .u64 (f : Int)]] ∧ m = 16 - i)
    [(0, .pointer (some ⟨g, 0, none⟩)), (3, .pointer (some ⟨g3, 0, none⟩)), (5, .slice B 16 16), (9, .int .i64 ((16 : Nat) : Int)), (10, .int .i64 ((0 : Nat) : Int))] 16 ⟨0, rfl, Nat.zero_le _, hs, rfl⟩ ⟨rfl, rfl, rfl, rfl, rfl, trivial⟩ ?_
  clear hs
  rintro _ w5 m ⟨i, rfl, hi, hs, rfl⟩
  refine wc_sr ?_; refine wl_bin rfl rfl bin_lss rfl ?_; refine wl_ns ?_; refine wc_seq ?_
  refine wc_cond rfl (fun h1 => ?_) (fun h1 => ?_)
  · have hi1 : i < 16 := by omega
    have e4 : (4 : Int) * (15 - (i : Int)) = ((4 * (15 - i) : Nat) : Int) := by omega
    have hq : f / 2 ^ (4 * (15 - i)) < 2 ^ 64 := Nat.lt_of_le_of_lt (Nat.div_le_self _ _) hf
    refine wc_skip ?_; refine we_seq ?_; refine wc_seq ?_; refine wc_block ?_; refine wc_sr ?_; refine wl_mv rfl rfl ?_; refine wl_as rfl rfl ?_; refine wl_ns ?_; refine wc_region ?_; refine wl_mv rfl rfl ?_; refine wl_mv rfl rfl ?_; apply wl_val; apply opv_fa; exact fa_S0; exact rfl; exact rfl; apply wl_val; apply opv_ldX; exact rfl; exact hs.ar 1 rfl; exact j1_u64; exact rfl; exact rfl; refine wl_mv rfl rfl ?_; apply wl_val; apply opv_bin; exact rfl; exact rfl; exact bin_sub64 (by omega); exact rfl
    refine wl_bin rfl rfl ((bin_mul64 (by omega)).to (congrArg (Value.int .i64) e4)) rfl ?_
    refine wl_bin rfl rfl (bin_shr (k := .u64) (by show f < 2 ^ 64; exact hf)) rfl ?_
    refine wl_bin rfl rfl ((bin_and (k := .u64) (b := 15) rfl (by show _ < 2 ^ 64; exact hq) (by decide)).to (congrArg (fun k : Nat => Value.int .u64 (k : Int)) (hexN_and f i (by omega)))) rfl ?_
    refine wl_val (opv_idxS (l := dgs) (kk := hexN f i) Try.underlying9 rfl rfl rfl (dgs_at (hexN_lt f i))) rfl ?_
    refine ws_set hs 0 rfl rfl tyB rfl rfl hi1 (fun _ => rfl) rfl rfl ?_
    clear hs; intro _ _ hs; dsimp only [setC] at hs
    rw [fill_set (hex16_at f hi1) (hex16_len f)] at hs
    refine wl_nil ?_; refine we_block_norm ?_; refine we_seq ?_; refine wc_region ?_; apply wl_val; apply opv_bin; exact rfl; exact rfl; exact bin_add64 (by omega); exact rfl; refine wl_mv rfl rfl ?_; refine wl_nil ?_
    exact we_loop _ (16 - (i + 1)) ⟨i + 1, rfl, by omega, hs, rfl⟩ (by omega) ⟨rfl, rfl, rfl, rfl, by rw [show ((i + 1 : Nat) : Int) = (i : Int) + 1 by omega]; rfl, trivial⟩
  · obtain rfl : i = 16 := by omega
    rw [List.take_of_length_le (by rw [hex16_len]; exact Nat.le_refl _), Nat.sub_self, List.replicate_zero, List.append_nil] at hs
    have hB : RdB w5 B (hex16 f) := by have := (hs.ow 0 rfl).rd; unfold RdB; rw [hex16_len]; exact this
    have hW := (lg_named ha).below hs.bel
    have hq : ∀ w', Below w5.heap.size w5 w' → CallsV Try.prog 58 #[.agg (nmV gd).toArray, str (hex16 f)] w' fun v w2 => v = str (nmJ f) ∧ Below w5.heap.size w5 w2 := fun w' hw => (path_any (by rw [hex16_len]; decide)).mono fun v w2 ⟨hv, h2⟩ => ⟨hv, hw.trans (h2.mono hw.size)⟩
    rw [show RdB w5 B (hex16 f) = Rd w5 B 16 (bvs (hex16 f)) by unfold RdB; rw [hex16_len]] at hB
    refine wc_exit ?_; refine we_seq_exit ?_; refine we_loop_exit ?_; refine we_block_exit ?_; refine we_seq ?_; refine wc_seq ?_
    refine wc_drawB mixed (by kernel_rfl) ?_
    try dsimp only [List.append]
    apply wq_val; intro _ hw_; apply opv_move; exact rfl; exact rfl; apply wq_val; intro _ hw_; apply opv_nilOk; exact rfl; exact rfl; apply wq_val; intro _ hw_; apply opv_fa; exact fa_L0; exact rfl; exact rfl; apply wq_val; intro _ hw_; apply opv_ldG; exact rfl; exact Wi.below (by assumption) hw_; exact sNm; exact rfl; apply wq_val; intro _ hw_; apply opv_move; exact rfl; exact rfl; apply wq_val; intro _ hw_; apply opv_ofBytes; exact tyB.sl; exact Try.underlying5; exact Try.underlying9; exact rfl; exact RdB.below hB hw_; exact rfl
    refine wq_call (v := str (nmJ f)) ok_disk_Named_Path hq ⟨rfl, rfl, trivial⟩ rfl ?_
    apply wq_val; intro _ hw_; apply opv_assign; exact rfl; exact rfl; refine wq_nil fun w1 hw1 => ?_
    refine we_seq ?_; refine wc_ret ?_
    exact we_ret1 rfl rfl ⟨_, rfl, rfl, (hs.below hw1).bel⟩
theorem rdr_last {w : World} {S : BS} {A : Option Addr} {a : List Nat} {k : Nat} (h : RdR 1 w S A (sgR (a ++ [k]))) : ∃ b o, A = some ⟨b, o, none⟩ ∧ Wi w b (o + a.length * 1) (sgC k) := by
  obtain ⟨b, o, cs, hA, h1, h2, h3, h4⟩ := RdR.at (k := 1) (by decide) h (E := rawEl (sgC k)) (i := a.length) (by simp [sgR])
  obtain rfl : cs = sgC k := h3
  exact ⟨b, o, hA, h4⟩
end Go.Proofs.Ytdgagffieobiiaa

/-
  Walks over a log's last segment, whether the next record needs a new one, and Sync.
-/
namespace Go.Proofs.Ytdgagffieobiiaa
open Go.RowKit
section
variable {g gd : Nat} {A : Option Addr} {w : World}
theorem next_any {n c nx sz : Nat} (ha : Ar w g 90 (lgV gd A n c nx sz)) : CallsV Try.prog 18 #[.pointer (some ⟨g, 0, none⟩)] w fun v w' => v = .int .u64 (nx : Int) ∧ w = w' := by
  unfold lgV at ha
  refine calls_in (N := _) Try.func18 rfl Try.ntmps18 rfl ?_; show WC _ _ _ _ _ _
  refine wc_sr ?_; refine wl_as rfl rfl ?_; refine wl_ns ?_; refine wc_sr ?_; refine wl_mv rfl rfl ?_; apply wl_val; apply opv_nilOk; exact rfl; exact rfl; apply wl_val; apply opv_fa; exact fa_L3; exact rfl; exact rfl; apply wl_val; apply opv_ldX; exact rfl; assumption; exact j1_u64; exact rfl; exact rfl; refine wl_as rfl rfl ?_; refine wl_ns ?_; refine wc_ret ?_
  exact we_ret1 rfl rfl ⟨_, rfl, rfl, rfl⟩
theorem last_any {a : List Nat} {k c nx sz : Nat} (hl : a.length ≤ 1048576) (ha : Ar w g 90 (lgV gd A (a.length + 1) c nx sz)) (hr : RdR 1 w All A (sgR (a ++ [k]))) :
    CallsV Try.prog 45 #[.pointer (some ⟨g, 0, none⟩)] w fun v w' => v = .agg (sgC k).toArray ∧ Below w.heap.size w w' := by
  have hs := St.init w
  obtain ⟨b, o, rfl, hW⟩ := rdr_last hr
  unfold lgV sgC at *
  refine calls_in (N := _) Try.func45 rfl Try.ntmps45 rfl ?_; show WC _ _ _ _ _ _
  refine wc_sr ?_
  refine ws_new hs zeroSg rfl ?_; clear hs; intro g2 _ hs
  unfold zSg at hs
  refine wl_ns ?_; refine wc_seq ?_
  refine wc_heldG (fun w' => Ar w' g 90 [.pointer (some ⟨gd, 0, none⟩), str pfJ, .int .i64 50, .slice (some ⟨b, o, none⟩) (a.length + 1) c, .int .u64 (nx : Int), .int .i64 (sz : Int), .bool false] ∧ Wi w' b (o + a.length * 1) [.int .u64 (k : Int)]) 12 mixed ?_
  replace hs := hs.below (Below.refl _ _).drew
  have hS := And.intro (ha.bel hs.bel) (hW.below hs.bel)
  apply wm_take 0; exact rfl; intro _ hw_; apply opv_move; exact rfl; exact rfl; kernel_rfl; exact hS; apply wm_take 1; exact rfl; intro _ hw_; apply opv_nilOk; exact rfl; exact rfl; kernel_rfl; exact hS; apply wm_take 2; exact rfl; intro _ hw_; apply opv_fa; exact fa_L2; exact rfl; exact rfl; kernel_rfl; exact hS; apply wm_take 3; exact rfl; intro _ hw_; apply opv_ldX; exact rfl; exact hw_.1; exact j1_sgs; exact rfl; exact rfl; kernel_rfl; exact hS; apply wm_take 4; exact rfl; intro _ hw_; apply opv_move; exact rfl; exact rfl; kernel_rfl; exact hS; apply wm_take 5; exact rfl; intro _ hw_; apply opv_nilOk; exact rfl; exact rfl; kernel_rfl; exact hS; apply wm_take 6; exact rfl; intro _ hw_; apply opv_fa; exact fa_L2; exact rfl; exact rfl; kernel_rfl; exact hS; apply wm_take 7; exact rfl; intro _ hw_; apply opv_ldX; exact rfl; exact hw_.1; exact j1_sgs; exact rfl; exact rfl; kernel_rfl; exact hS; apply wm_take 8; exact rfl; intro _ hw_; apply opv_len; exact rfl; exact tkSg.sl; exact rfl; kernel_rfl; exact hS; apply wm_take 9; exact rfl; intro _ hw_; apply opv_bin; exact rfl; exact rfl; exact bin_sub64 (by omega); exact rfl; kernel_rfl; exact hS
  refine wm_take 10 rfl (fun _ _ => opv_idxG (kk := a.length) tkSg rfl rfl (by omega) (by omega)) rfl (by kernel_rfl) hS ?_
  apply wm_take 11; exact rfl; intro _ hw_; apply opv_ldG; exact rfl; exact hw_.2; exact sSg; exact rfl; kernel_rfl; exact hS
  clear hS
  refine wm_one 12 (by kernel_rfl) rfl ?_; dsimp only [List.getElem_toArray, List.getElem_cons_succ, List.getElem_cons_zero]
  apply ws_stS hs 0; exact rfl; exact rfl; exact rfl; exact sSg; exact rfl; exact rfl; clear hs; intro _ hs; dsimp only [setC] at hs; refine wl_nil ?_
  refine we_heldM (fun h => absurd h (by decide)) ?_
  refine wm_done (by kernel_rfl) ?_
  refine we_seq ?_; refine wc_ret ?_
  exact we_retC rfl rfl (hs.ar 0 rfl) sSg ⟨_, rfl, rfl, hs.bel⟩
theorem fresh_any {n c nx sz : Nat} (ha : Ar w g 90 (lgV gd A n c nx sz)) :
    CallsV Try.prog 44 #[.pointer (some ⟨g, 0, none⟩)] w fun v w' => v = .bool (decide (n = 0 ∨ 50 ≤ sz)) ∧ Below w.heap.size w w' := by
  unfold lgV at ha
  refine calls_in (N := _) Try.func44 rfl Try.ntmps44 rfl ?_; show WC _ _ _ _ _ _
  by_cases h0 : n = 0
  · have h0' : (n : Int) = 0 := by omega
    rw [show decide (n = 0 ∨ 50 ≤ sz) = true from bT (.inl h0)]
    refine wc_sr ?_; refine wl_as rfl rfl ?_; refine wl_ns ?_; refine wc_seq ?_
    refine wc_drawB mixed (by kernel_rfl) ?_
    try dsimp only [List.append]
    apply wq_val; intro _ hw_; apply opv_move; exact rfl; exact rfl; apply wq_val; intro _ hw_; apply opv_nilOk; exact rfl; exact rfl; apply wq_val; intro _ hw_; apply opv_fa; exact fa_L2; exact rfl; exact rfl; apply wq_val; intro _ hw_; apply opv_ldX; exact rfl; exact Ar.bel (by assumption) hw_; exact j1_sgs; exact rfl; exact rfl; apply wq_val; intro _ hw_; apply opv_len; exact rfl; exact tkSg.sl; exact rfl; apply wq_val; intro _ hw_; apply opv_bin; exact rfl; exact rfl; exact bin_eql; exact rfl; apply wq_val; intro _ hw_; apply opv_move; exact rfl; exact rfl; apply wq_skip; exact rfl; exact rfl; exact rfl; refine bTn ?_; (with_reducible assumption); exact rfl; apply wq_skip; exact rfl; exact rfl; exact rfl; refine bTn ?_; (with_reducible assumption); exact rfl; apply wq_skip; exact rfl; exact rfl; exact rfl; refine bTn ?_; (with_reducible assumption); exact rfl; apply wq_skip; exact rfl; exact rfl; exact rfl; refine bTn ?_; (with_reducible assumption); exact rfl; apply wq_skip; exact rfl; exact rfl; exact rfl; refine bTn ?_; (with_reducible assumption); exact rfl; apply wq_skip; exact rfl; exact rfl; exact rfl; refine bTn ?_; (with_reducible assumption); exact rfl; apply wq_skip; exact rfl; exact rfl; exact rfl; refine bTn ?_; (with_reducible assumption); exact rfl; apply wq_skip; exact rfl; exact rfl; exact rfl; refine bTn ?_; (with_reducible assumption); exact rfl; apply wq_skip; exact rfl; exact rfl; exact rfl; refine bTn ?_; (with_reducible assumption); exact rfl; apply wq_val; intro _ hw_; apply opv_pickT; exact rfl; refine bT ?_; (with_reducible assumption); exact rfl; exact rfl; apply wq_val; intro _ hw_; apply opv_move; exact rfl; exact rfl; apply wq_skip; exact rfl; exact rfl; exact rfl; exact bR1; exact rfl; apply wq_skip; exact rfl; exact rfl; exact rfl; exact bR1; exact rfl; apply wq_skip; exact rfl; exact rfl; exact rfl; exact bR1; exact rfl; apply wq_skip; exact rfl; exact rfl; exact rfl; exact bR1; exact rfl; apply wq_skip; exact rfl; exact rfl; exact rfl; exact bR1; exact rfl; apply wq_skipU; exact rfl; exact rfl; exact rfl; exact rfl; apply wq_skipU; exact rfl; exact rfl; exact rfl; exact rfl; apply wq_skipU; exact rfl; exact rfl; exact rfl; exact rfl; apply wq_skipU; exact rfl; exact rfl; exact rfl; exact rfl; apply wq_skipU; exact rfl; exact rfl; exact rfl; exact rfl; apply wq_skipU; exact rfl; exact rfl; exact rfl; exact rfl; apply wq_skipU; exact rfl; exact rfl; exact rfl; exact rfl; apply wq_skipU; exact rfl; exact rfl; exact rfl; exact rfl; apply wq_skip; exact rfl; exact rfl; exact rfl; exact bR1; exact rfl; apply wq_val; intro _ hw_; apply opv_pickT; exact rfl; exact rfl; exact rfl; exact rfl; apply wq_val; intro _ hw_; apply opv_assign; exact rfl; exact rfl; refine wq_nil fun w1 hw1 => ?_
    refine we_seq ?_; refine wc_ret ?_
    exact we_ret1 rfl rfl ⟨_, rfl, rfl, hw1⟩
  · have h0' : ¬ (n : Int) = 0 := by omega
    by_cases h5 : 50 ≤ sz
    · have h5' : (50 : Int) ≤ (sz : Int) := by omega
      rw [show decide (n = 0 ∨ 50 ≤ sz) = true from bT (.inr h5)]
      refine wc_sr ?_; refine wl_as rfl rfl ?_; refine wl_ns ?_; refine wc_seq ?_
      refine wc_drawB mixed (by kernel_rfl) ?_
      try dsimp only [List.append]
      apply wq_val; intro _ hw_; apply opv_move; exact rfl; exact rfl; apply wq_val; intro _ hw_; apply opv_nilOk; exact rfl; exact rfl; apply wq_val; intro _ hw_; apply opv_fa; exact fa_L2; exact rfl; exact rfl; apply wq_val; intro _ hw_; apply opv_ldX; exact rfl; exact Ar.bel (by assumption) hw_; exact j1_sgs; exact rfl; exact rfl; apply wq_val; intro _ hw_; apply opv_len; exact rfl; exact tkSg.sl; exact rfl; apply wq_val; intro _ hw_; apply opv_bin; exact rfl; exact rfl; exact bin_eql; exact rfl; apply wq_val; intro _ hw_; apply opv_move; exact rfl; exact rfl; apply wq_take; exact rfl; exact rfl; exact rfl; refine bF ?_; (with_reducible assumption); apply wq_val; intro _ hw_; apply opv_move; exact rfl; exact rfl; apply wq_take; exact rfl; exact rfl; exact rfl; refine bF ?_; (with_reducible assumption); apply wq_val; intro _ hw_; apply opv_nilOk; exact rfl; exact rfl; apply wq_take; exact rfl; exact rfl; exact rfl; refine bF ?_; (with_reducible assumption); apply wq_val; intro _ hw_; apply opv_fa; exact fa_L4; exact rfl; exact rfl; apply wq_take; exact rfl; exact rfl; exact rfl; refine bF ?_; (with_reducible assumption); apply wq_val; intro _ hw_; apply opv_ldX; exact rfl; exact Ar.bel (by assumption) hw_; exact d1_int; exact rfl; exact rfl; apply wq_take; exact rfl; exact rfl; exact rfl; refine bF ?_; (with_reducible assumption); apply wq_val; intro _ hw_; apply opv_move; exact rfl; exact rfl; apply wq_take; exact rfl; exact rfl; exact rfl; refine bF ?_; (with_reducible assumption); apply wq_val; intro _ hw_; apply opv_nilOk; exact rfl; exact rfl; apply wq_take; exact rfl; exact rfl; exact rfl; refine bF ?_; (with_reducible assumption); apply wq_val; intro _ hw_; apply opv_fa; exact fa_L1; exact rfl; exact rfl; apply wq_take; exact rfl; exact rfl; exact rfl; refine bF ?_; (with_reducible assumption); apply wq_val; intro _ hw_; apply opv_ldX; exact rfl; exact Ar.bel (by assumption) hw_; exact d1_int; exact rfl; exact rfl; apply wq_take; exact rfl; exact rfl; exact rfl; refine bF ?_; (with_reducible assumption); apply wq_val; intro _ hw_; apply opv_bin; exact rfl; exact rfl; exact bin_geq; exact rfl; apply wq_val; intro _ hw_; apply opv_pickF; exact rfl; refine bF ?_; (with_reducible assumption); exact rfl; exact rfl; apply wq_val; intro _ hw_; apply opv_move; exact rfl; exact rfl; apply wq_skip; exact rfl; exact rfl; exact rfl; refine bTn ?_; (with_reducible assumption); exact rfl; apply wq_skip; exact rfl; exact rfl; exact rfl; refine bTn ?_; (with_reducible assumption); exact rfl; apply wq_skip; exact rfl; exact rfl; exact rfl; refine bTn ?_; (with_reducible assumption); exact rfl; apply wq_skip; exact rfl; exact rfl; exact rfl; refine bTn ?_; (with_reducible assumption); exact rfl; apply wq_skip; exact rfl; exact rfl; exact rfl; refine bTn ?_; (with_reducible assumption); exact rfl; apply wq_skipU; exact rfl; exact rfl; exact rfl; exact rfl; apply wq_skipU; exact rfl; exact rfl; exact rfl; exact rfl; apply wq_skipU; exact rfl; exact rfl; exact rfl; exact rfl; apply wq_skipU; exact rfl; exact rfl; exact rfl; exact rfl; apply wq_skipU; exact rfl; exact rfl; exact rfl; exact rfl; apply wq_skipU; exact rfl; exact rfl; exact rfl; exact rfl; apply wq_skipU; exact rfl; exact rfl; exact rfl; exact rfl; apply wq_skipU; exact rfl; exact rfl; exact rfl; exact rfl; apply wq_skip; exact rfl; exact rfl; exact rfl; refine bTn ?_; (with_reducible assumption); exact rfl; apply wq_val; intro _ hw_; apply opv_pickT; exact rfl; refine bT ?_; (with_reducible assumption); exact rfl; exact rfl; apply wq_val; intro _ hw_; apply opv_assign; exact rfl; exact rfl; refine wq_nil fun w1 hw1 => ?_
      refine we_seq ?_; refine wc_ret ?_
      exact we_ret1 rfl rfl ⟨_, rfl, rfl, hw1⟩
    · have h5' : ¬ (50 : Int) ≤ (sz : Int) := by omega
      rw [show decide (n = 0 ∨ 50 ≤ sz) = false from bF (by omega)]
      refine wc_sr ?_; refine wl_as rfl rfl ?_; refine wl_ns ?_; refine wc_seq ?_
      refine wc_drawB mixed (by kernel_rfl) ?_
      try dsimp only [List.append]
      apply wq_val; intro _ hw_; apply opv_move; exact rfl; exact rfl; apply wq_val; intro _ hw_; apply opv_nilOk; exact rfl; exact rfl; apply wq_val; intro _ hw_; apply opv_fa; exact fa_L2; exact rfl; exact rfl; apply wq_val; intro _ hw_; apply opv_ldX; exact rfl; exact Ar.bel (by assumption) hw_; exact j1_sgs; exact rfl; exact rfl; apply wq_val; intro _ hw_; apply opv_len; exact rfl; exact tkSg.sl; exact rfl; apply wq_val; intro _ hw_; apply opv_bin; exact rfl; exact rfl; exact bin_eql; exact rfl; apply wq_val; intro _ hw_; apply opv_move; exact rfl; exact rfl; apply wq_take; exact rfl; exact rfl; exact rfl; refine bF ?_; (with_reducible assumption); apply wq_val; intro _ hw_; apply opv_move; exact rfl; exact rfl; apply wq_take; exact rfl; exact rfl; exact rfl; refine bF ?_; (with_reducible assumption); apply wq_val; intro _ hw_; apply opv_nilOk; exact rfl; exact rfl; apply wq_take; exact rfl; exact rfl; exact rfl; refine bF ?_; (with_reducible assumption); apply wq_val; intro _ hw_; apply opv_fa; exact fa_L4; exact rfl; exact rfl; apply wq_take; exact rfl; exact rfl; exact rfl; refine bF ?_; (with_reducible assumption); apply wq_val; intro _ hw_; apply opv_ldX; exact rfl; exact Ar.bel (by assumption) hw_; exact d1_int; exact rfl; exact rfl; apply wq_take; exact rfl; exact rfl; exact rfl; refine bF ?_; (with_reducible assumption); apply wq_val; intro _ hw_; apply opv_move; exact rfl; exact rfl; apply wq_take; exact rfl; exact rfl; exact rfl; refine bF ?_; (with_reducible assumption); apply wq_val; intro _ hw_; apply opv_nilOk; exact rfl; exact rfl; apply wq_take; exact rfl; exact rfl; exact rfl; refine bF ?_; (with_reducible assumption); apply wq_val; intro _ hw_; apply opv_fa; exact fa_L1; exact rfl; exact rfl; apply wq_take; exact rfl; exact rfl; exact rfl; refine bF ?_; (with_reducible assumption); apply wq_val; intro _ hw_; apply opv_ldX; exact rfl; exact Ar.bel (by assumption) hw_; exact d1_int; exact rfl; exact rfl; apply wq_take; exact rfl; exact rfl; exact rfl; refine bF ?_; (with_reducible assumption); apply wq_val; intro _ hw_; apply opv_bin; exact rfl; exact rfl; exact bin_geq; exact rfl; apply wq_val; intro _ hw_; apply opv_pickF; exact rfl; refine bF ?_; (with_reducible assumption); exact rfl; exact rfl; apply wq_val; intro _ hw_; apply opv_move; exact rfl; exact rfl; apply wq_take; exact rfl; exact rfl; exact rfl; refine bF ?_; (with_reducible assumption); apply wq_val; intro _ hw_; apply opv_move; exact rfl; exact rfl; apply wq_take; exact rfl; exact rfl; exact rfl; refine bF ?_; (with_reducible assumption); apply wq_val; intro _ hw_; apply opv_nilOk; exact rfl; exact rfl; apply wq_take; exact rfl; exact rfl; exact rfl; refine bF ?_; (with_reducible assumption); apply wq_val; intro _ hw_; apply opv_fa; exact fa_L5; exact rfl; exact rfl; apply wq_take; exact rfl; exact rfl; exact rfl; refine bF ?_; (with_reducible assumption); apply wq_val; intro _ hw_; apply opv_ldX; exact rfl; exact Ar.bel (by assumption) hw_; exact d1_bool; exact rfl; exact rfl; apply wq_take; exact rfl; exact rfl; exact rfl; refine bF ?_; (with_reducible assumption); apply wq_val; intro _ hw_; apply opv_move; exact rfl; exact rfl; apply wq_skip; exact rfl; exact rfl; exact rfl; exact bR2; exact rfl; apply wq_skip; exact rfl; exact rfl; exact rfl; exact bR2; exact rfl; apply wq_skip; exact rfl; exact rfl; exact rfl; exact bR2; exact rfl; apply wq_skip; exact rfl; exact rfl; exact rfl; exact bR2; exact rfl; apply wq_skip; exact rfl; exact rfl; exact rfl; exact bR2; exact rfl; apply wq_skip; exact rfl; exact rfl; exact rfl; exact bR2; exact rfl; apply wq_skip; exact rfl; exact rfl; exact rfl; exact bR2; exact rfl; apply wq_skip; exact rfl; exact rfl; exact rfl; exact bR2; exact rfl; apply wq_take; exact rfl; exact rfl; exact rfl; refine bF ?_; (with_reducible assumption); apply wq_val; intro _ hw_; apply opv_pickF; exact rfl; exact rfl; exact rfl; exact rfl; apply wq_val; intro _ hw_; apply opv_pickF; exact rfl; refine bF ?_; (with_reducible assumption); exact rfl; exact rfl; apply wq_val; intro _ hw_; apply opv_assign; exact rfl; exact rfl; refine wq_nil fun w1 hw1 => ?_
      refine we_seq ?_; refine wc_ret ?_
      exact we_ret1 rfl rfl ⟨_, rfl, rfl, hw1⟩
/-- What is known of a log in memory. -/
def LgR (w : World) (g gd : Nat) (A : Option Addr) (c : Nat) (l : Lg) : Prop := Ar w g 90 (lgV gd A l.segs.length c l.next l.size) ∧ RdR 1 w All A (sgR l.segs)
theorem wsync_any {c : Nat} {l : Lg} {d : Dk} {S : BS} (h0 : Sat w [.ck (dkC gd d)] S) (hok : DkOk d) (hL : ∀ w', Mod S w w' → LgR w' g gd A c l) (hb : ∀ f ∈ l.segs, f < 2 ^ 64) (hsl : l.segs.length ≤ 1048576) :
    CallsV Try.prog 22 #[.pointer (some ⟨g, 0, none⟩)] w fun v w' => v = .int .i64 ((wSync d l).2 : Nat) ∧ St S w w' [.ck (dkC gd (wSync d l).1)] := by
  have hs := St.start h0
  obtain ⟨segs, nx, sz⟩ := l
  unfold LgR at hL
  dsimp only at hL hb
  rcases List.eq_nil_or_concat segs with rfl | ⟨a, k, rfl⟩
  · have ha := (hL _ hs.1).1
    unfold lgV at ha
    dsimp only [List.length_nil] at ha
    refine calls_in (N := _) Try.func22 rfl Try.ntmps22 rfl ?_; show WC _ _ _ _ _ _
    refine wc_sr ?_; refine wl_as rfl rfl ?_; refine wl_ns ?_; refine wc_seq ?_; refine wc_sr ?_; refine wl_mv rfl rfl ?_; apply wl_val; apply opv_nilOk; exact rfl; exact rfl; apply wl_val; apply opv_fa; exact fa_L2; exact rfl; exact rfl; apply wl_val; apply opv_ldX; exact rfl; assumption; exact j1_sgs; exact rfl; exact rfl; apply wl_val; apply opv_len; exact rfl; exact tkSg.sl; exact rfl; refine wl_bin rfl rfl bin_eql rfl ?_; refine wl_ns ?_; apply wc_condTb; exact rfl; exact rfl; refine wc_sr ?_; refine wl_as rfl rfl ?_; refine wl_ns ?_; refine wc_ret ?_; refine we_seq_ret ?_
    exact we_ret1 rfl rfl ⟨_, rfl, rfl, hs⟩
  · rw [List.concat_eq_append] at hL hb ⊢
    rw [List.length_append] at hL
    have hw : wSync d ⟨a ++ [k], nx, sz⟩ = syncD d (nmJ k) := by unfold wSync; rw [if_neg (by simp), lastN_app]
    rw [hw]
    have ha := (hL _ hs.1).1
    unfold lgV at ha
    dsimp only [List.length_cons, List.length_nil] at ha
    have hne : ¬ ((a.length + 1 : Nat) : Int) = 0 := by omega
    refine calls_in (N := _) Try.func22 rfl Try.ntmps22 rfl ?_; show WC _ _ _ _ _ _
    refine wc_sr ?_; refine wl_as rfl rfl ?_; refine wl_ns ?_; refine wc_seq ?_; refine wc_sr ?_; refine wl_mv rfl rfl ?_; apply wl_val; apply opv_nilOk; exact rfl; exact rfl; apply wl_val; apply opv_fa; exact fa_L2; exact rfl; exact rfl; apply wl_val; apply opv_ldX; exact rfl; assumption; exact j1_sgs; exact rfl; exact rfl; apply wl_val; apply opv_len; exact rfl; exact tkSg.sl; exact rfl; refine wl_bin rfl rfl bin_eql rfl ?_; refine wl_ns ?_; apply wc_condFb; exact rfl; exact rfl; refine wc_skip ?_; refine we_seq ?_; refine wc_seq ?_
    replace hs := hs.below (Below.refl _ _).drew
    refine wc_held (fun w' => Ar w' g 90 [.pointer (some ⟨gd, 0, none⟩), str pfJ, .int .i64 50, .slice A (a.length + 1) c, .int .u64 (nx : Int), .int .i64 (sz : Int), .bool false]) mixed ?_
    have hS := (hL _ hs.1).1
    clear ha
    apply wh_takeH 0; exact rfl; intro _ hw_; apply opv_move; exact rfl; exact rfl; kernel_rfl; exact hS; apply wh_takeH 1; exact rfl; intro _ hw_; apply opv_nilOk; exact rfl; exact rfl; kernel_rfl; exact hS; apply wh_takeH 2; exact rfl; intro _ hw_; apply opv_fa; exact fa_L0; exact rfl; exact rfl; kernel_rfl; exact hS; apply wh_takeH 3; exact rfl; intro _ hw_; apply opv_fa; exact fa_N0; exact rfl; exact rfl; kernel_rfl; exact hS; apply wh_takeH 4; exact rfl; intro _ hw_; apply opv_ldX; exact rfl; assumption; exact j1_dp; exact rfl; exact rfl; kernel_rfl; exact hS; apply wh_takeH 5; exact rfl; intro _ hw_; apply opv_move; exact rfl; exact rfl; kernel_rfl; exact hS; apply wh_takeH 6; exact rfl; intro _ hw_; apply opv_move; exact rfl; exact rfl; kernel_rfl; exact hS
    clear hS
    refine wh_one 7 (o := ⟨_, _, _, _, _, _⟩) (by kernel_rfl) rfl ?_
    refine wl_call ok_wal_Log_last (last_any (by simp at hsl; omega) (hL _ hs.1).1 (hL _ hs.1).2) ⟨rfl, trivial⟩ rfl ?_
    rintro _ _ ⟨rfl, hbx⟩
    replace hs := hs.below hbx
    clear hbx
    refine wl_nil ?_
    refine we_held (hL _ hs.1).1 ?_
    refine wh_one 8 (o := ⟨_, _, _, _, _, _⟩) (by kernel_rfl) rfl ?_
    refine wl_call ok_wal_Log_name (name_any (f := k) (hL _ hs.1).1 (hb k (by simp))) ⟨rfl, rfl, trivial⟩ rfl ?_
    rintro _ _ ⟨rfl, hbx⟩
    replace hs := hs.below hbx
    clear hbx
    refine wl_nil ?_
    refine we_held (hL _ hs.1).1 ?_
    refine wh_one 9 (o := ⟨_, _, _, _, _, _⟩) (by kernel_rfl) rfl ?_
    obtain ⟨S2, hS2, hB2, hM2, hH2, hB⟩ := St.lend (H1 := [_]) (H2 := []) hs
    refine wl_call ok_disk_Disk_Sync (sync_any (n := nmJ k) hS2 hok) ⟨rfl, rfl, trivial⟩ rfl ?_
    rintro _ _ ⟨rfl, hsx⟩
    replace hs := hB _ _ hsx
    clear hsx hB hH2 hM2 hB2 hS2
    dsimp only [List.cons_append, List.nil_append] at hs
    refine wl_nil ?_
    refine we_held (hL _ hs.1).1 ?_
    refine wh_one 10 (o := ⟨_, _, _, _, _, _⟩) (by kernel_rfl) rfl ?_
    refine wl_as rfl rfl ?_; refine wl_nil ?_
    refine we_held (hL _ hs.1).1 ?_
    refine wh_done (by kernel_rfl) ?_
    refine we_seq ?_; refine wc_ret ?_
    exact we_ret1 rfl rfl ⟨_, rfl, rfl, hs⟩
end
end Go.Proofs.Ytdgagffieobiiaa

/-
  Walk over a log's Append.
-/
namespace Go.Proofs.Ytdgagffieobiiaa
open Go.RowKit
theorem Sat.lgr {w : World} {S : BS} {H : List Cd} {g gd c : Nat} {A : Option Addr} {l : Lg} (h : Sat w (.blk g 90 (lgV gd A l.segs.length c l.next l.size) :: .rg 1 100 A c (sgR l.segs) :: H) S) : LgR w g gd A c l := by
  obtain ⟨T, _, hc, T2, _, hc2, _⟩ := h
  exact ⟨hc.2, (hc2.2.mono (Nat.le_refl _) fun _ _ _ => trivial : OwR 1 _ w 0 All A c _).rd⟩
theorem sat_ar {w : World} {H : List Cd} {S : BS} {g : Nat} {t : TypeId} {cs : List Value} (h : Sat w H S) (i : Nat) (hi : nthC H i = some (.blk g t cs)) : Ar w g t cs := by
  obtain ⟨T, _, hc, _⟩ := h.front hi
  exact hc.2
theorem sgR_len (l : List Nat) : (sgR l).length = l.length := by simp [sgR]
theorem sgR_snoc (l : List Nat) (k : Nat) : sgR l ++ [rawEl (sgC k)] = sgR (l ++ [k]) := by simp [sgR]
theorem wSync_ok {d : Dk} {l : Lg} (h : DkOk d) : DkOk (wSync d l).1 := by
  unfold wSync
  split
  · exact h
  · exact sync_okG h
/-- The bytes of one record, read by what Append is handed. -/
def One1 (w : World) (R B : Option Addr) (cb : Nat) (b : List UInt8) : Prop := Rd w R 1 [.slice B b.length cb] ∧ RdB w B b ∧ b.length ≤ cb
set_option maxHeartbeats 4000000 in
theorem wapp_any {g gd c cr : Nat} {A R B : Option Addr} {cb : Nat} {l : Lg} {d : Dk} {b : List UInt8} {S : BS} {w : World} (h0 : Sat w [.ck (dkC gd d), .blk g 90 (lgV gd A l.segs.length c l.next l.size), .rg 1 100 A c (sgR l.segs)] S) (hok : DkOk d)
    (hR : ∀ w', Mod S w w' → One1 w' R B cb b) (hb : b.length ≤ 1048576) (hf : ∀ f ∈ l.segs, f < 2 ^ 64) (hsl : l.segs.length ≤ 1048576) (hnx : l.next ≤ 1048576) (hsz : l.size ≤ 1099511627776) :
    CallsV Try.prog 21 #[.pointer (some ⟨g, 0, none⟩), .slice R 1 cr] w fun v w' => v = .tuple #[.int .u64 ((wApp d l b).2.1 : Nat), .int .i64 ((wApp d l b).2.2 : Nat)] ∧ ∃ (A' : Option Addr) (c' : Nat),
      St S w w' [.ck (dkC gd (wApp d l b).1.1), .blk g 90 (lgV gd A' (wApp d l b).1.2.segs.length c' (wApp d l b).1.2.next (wApp d l b).1.2.size), .rg 1 100 A' c' (sgR (wApp d l b).1.2.segs)] := by
  have hs := St.start h0
  clear h0
  obtain ⟨segs, nx, sz⟩ := l
  unfold lgV at hs
  dsimp only at hs hf hsl hnx hsz
  have hmax : maxLen = 9223372036854775807 := rfl
  have hrl := crcRec_length b
  have hse : sealB ([b] : List (List UInt8)).flatten = (crcRec b, 0) := by rw [show ([b] : List (List UInt8)).flatten = b by simp, sealB_ok hb]
  refine calls_in (N := _) Try.func21 rfl Try.ntmps21 rfl ?_; show WC _ _ _ _ _ _
  refine wc_sr ?_; refine wl_as rfl rfl ?_; refine wl_as rfl rfl ?_; refine wl_ns ?_; refine wc_sr ?_; refine wl_as rfl rfl ?_; refine wl_ns ?_; refine wc_seq ?_; refine wc_sr ?_; refine wl_mv rfl rfl ?_; apply wl_val; apply opv_len; exact rfl; exact tyBB.sl; exact rfl; refine wl_mv rfl rfl ?_; refine wl_ns ?_; refine wc_block ?_
  refine wc_loop (fun L wr m => (L = [(0, .pointer (some ⟨g, 0, none⟩)), (1, .slice R 1 cr), (6, .slice none 0 0), (17, .slice R 1 cr), (18, .int .i64 ((1 : Nat) : Int)), (19, .int .i64 0)] ∧ St S w wr [.ck (dkC gd d), .blk g 90 [.pointer (some ⟨gd, 0, none⟩), str pfJ, .int .i64 50, .slice A segs.length c, .int .u64 (nx : Int), .int .i64 (sz : Int), .bool false], .rg 1 100 A c (sgR segs)] ∧ m = 1) ∨
      ∃ (X : Option Addr) (cx : Nat) (Z : Option Addr) (cz : Nat), L = [(0, .pointer (some ⟨g, 0, none⟩)), (1, .slice R 1 cr), (6, .slice X 1 cx), (17, .slice R 1 cr), (18, .int .i64 ((1 : Nat) : Int)), (19, .int .i64 1)] ∧ (crcRec b).length ≤ cz ∧ 1 ≤ cx ∧ St S w wr [.ow 30 X 1 cx [.slice Z (crcRec b).length cz], .ck (rdC Z (crcRec b)), .ck (dkC gd d), .blk g 90 [.pointer (some ⟨gd, 0, none⟩), str pfJ, .int .i64 50, .slice A segs.length c, .int .u64 (nx : Int), .int .i64 (sz : Int), .bool false], .rg 1 100 A c (sgR segs)] ∧ m = 0)
    [(0, .pointer (some ⟨g, 0, none⟩)), (1, .slice R 1 cr), (6, .slice none 0 0), (17, .slice R 1 cr), (18, .int .i64 ((1 : Nat) : Int)), (19, .int .i64 0)] 1 (.inl ⟨rfl, hs, rfl⟩) ⟨rfl, rfl, rfl, rfl, rfl, rfl, trivial⟩ ?_
  clear hs
  rintro _ w5 m (⟨rfl, hs, rfl⟩ | ⟨X, cx, Z, cz, rfl, hcz, hcx, hs, rfl⟩)
  · obtain ⟨hrd, _, hcb⟩ := hR _ hs.1
    refine wc_sr ?_; refine wl_bin rfl rfl bin_lss rfl ?_; refine wl_ns ?_; refine wc_seq ?_; apply wc_condTb; exact rfl; exact rfl; refine wc_skip ?_; refine we_seq ?_; refine wc_seq ?_; refine wc_block ?_; refine wc_sr ?_
    refine wl_val (opv_idxR (kk := 0) (u := .slice B b.length cb) tyBB rfl rfl hrd rfl rfl) rfl ?_
    refine wl_val (opv_loadR (kk := 0) (u := .slice B b.length cb) tyBB rfl hrd rfl) rfl ?_
    refine wl_as rfl rfl ?_; refine wl_ns ?_; refine wc_sr ?_; refine wl_mv rfl rfl ?_
    refine ws_bs (vs := [.slice B b.length cb]) hs tyBB ⟨rfl, rfl, rfl, trivial⟩ rfl (by decide) rfl ?_
    clear hs hrd; intro Q w9 hs
    have hcall := seal_any (RdBB.one (r := b) (hs.ow 0 rfl).rd (hR _ hs.1).2.1 hcb) rfl (Nat.le_refl 1) (by simp; omega) (by simp [hmax])
    rw [hse] at hcall
    refine wl_call ok_crc_Seal hcall ⟨rfl, trivial⟩ rfl ?_
    clear hcall
    rintro _ _ ⟨Z, cz, rfl, o_, hbx⟩
    have hcz := o_.cap
    replace hs := (hs.newR hbx o_).nilO 30
    clear hbx o_
    refine wl_mv rfl rfl ?_; apply wl_val; apply opv_extract; exact rfl; exact rfl; exact rfl; apply wl_val; apply opv_extract; exact rfl; exact rfl; exact rfl; refine wl_as rfl rfl ?_; refine wl_as rfl rfl ?_; refine wl_ns ?_; refine wc_seq ?_; refine wc_sr ?_; refine wl_mv rfl rfl ?_; refine wl_bin rfl rfl bin_neq rfl ?_; refine wl_ns ?_; apply wc_condFb; exact rfl; exact rfl; refine wc_skip ?_; refine we_seq ?_; refine wc_region ?_; refine wl_mv rfl rfl ?_; refine wl_mv rfl rfl ?_
    refine ws_push (vs := [.slice Z (crcRec b).length cz]) hs 0 rfl rfl tyBB ⟨rfl, rfl, rfl, trivial⟩ rfl (by decide) rfl (by omega) (by omega) rfl rfl ?_
    clear hs; intro _ X cx w10 hs; dsimp only [setC, List.nil_append] at hs
    have hcx := ow_capD (hs.ow 0 rfl)
    replace hs := hs.drop 2 rfl
    dsimp only [delC] at hs
    refine wl_as rfl rfl ?_; refine wl_nil ?_; refine we_block_norm ?_; refine we_seq ?_; refine wc_region ?_; apply wl_val; apply opv_bin; exact rfl; exact rfl; exact bin_add64 (by omega); exact rfl; refine wl_mv rfl rfl ?_; refine wl_nil ?_
    exact we_loop _ 0 (.inr ⟨X, cx, Z, cz, rfl, hcz, hcx, hs, rfl⟩) (by omega) ⟨rfl, rfl, rfl, rfl, rfl, rfl, trivial⟩
  · refine wc_sr ?_; refine wl_bin rfl rfl bin_lss rfl ?_; refine wl_ns ?_; refine wc_seq ?_; apply wc_condFb; exact rfl; exact rfl; refine wc_exit ?_; refine we_seq_exit ?_; refine we_loop_exit ?_; refine we_block_exit ?_; refine we_seq ?_; refine wc_seq ?_; refine wc_sr ?_; refine wl_mv rfl rfl ?_; apply wl_val; apply opv_len; exact rfl; exact tyBB.sl; exact rfl; refine wl_bin rfl rfl bin_eql rfl ?_; refine wl_ns ?_; apply wc_condFb; exact rfl; exact rfl; refine wc_skip ?_; refine we_seq ?_; refine wc_seq ?_
    refine wc_cutE (fun L w' => ∃ (g11 : Nat), L = [(0, .pointer (some ⟨g, 0, none⟩)), (1, .slice R 1 cr), (6, .slice X 1 cx), (11, .pointer (some ⟨g11, 0, none⟩)), (12, .bool (decide (segs.length = 0 ∨ 50 ≤ sz)))] ∧ St S w w' [.blk g11 100 (sgC nx), .ow 30 X 1 cx [.slice Z (crcRec b).length cz], .ck (rdC Z (crcRec b)), .ck (dkC gd d), .blk g 90 [.pointer (some ⟨gd, 0, none⟩), str pfJ, .int .i64 50, .slice A segs.length c, .int .u64 (nx : Int), .int .i64 (sz : Int), .bool false], .rg 1 100 A c (sgR segs)]) ?_ ?_
    · refine wc_heldG (fun w' => Ar w' g 90 [.pointer (some ⟨gd, 0, none⟩), str pfJ, .int .i64 50, .slice A segs.length c, .int .u64 (nx : Int), .int .i64 (sz : Int), .bool false]) 9 mixed ?_
      replace hs := hs.below (Below.refl _ _).drew
      have hS := hs.ar 3 rfl
      apply wm_take 0; exact rfl; intro _ hw_; apply opv_move; exact rfl; exact rfl; kernel_rfl; exact hS; apply wm_take 1; exact rfl; intro _ hw_; apply opv_nilOk; exact rfl; exact rfl; kernel_rfl; exact hS; apply wm_take 2; exact rfl; intro _ hw_; apply opv_fa; exact fa_L3; exact rfl; exact rfl; kernel_rfl; exact hS; apply wm_take 3; exact rfl; intro _ hw_; apply opv_ldX; exact rfl; assumption; exact j1_u64; exact rfl; exact rfl; kernel_rfl; exact hS
      refine wm_take 4 rfl (fun _ _ => opv_build (vs := [(0, .int .u64 (nx : Int))]) (cs := sgC nx) ⟨rfl, rfl, trivial⟩ (by kernel_rfl)) rfl (by kernel_rfl) hS ?_
      apply wm_take 5; exact rfl; intro _ hw_; apply opv_move; exact rfl; exact rfl; kernel_rfl; exact hS
      clear hS
      refine wm_two 6 7 (by kernel_rfl) rfl rfl ?_ ?_ <;> dsimp only [List.getElem_toArray, List.getElem_cons_succ, List.getElem_cons_zero]
      · refine wl_call ok_wal_Log_fresh (fresh_any (hs.ar 3 rfl)) ⟨rfl, trivial⟩ rfl ?_
        rintro _ _ ⟨rfl, hbx⟩
        replace hs := hs.below hbx
        clear hbx
        refine wl_nil ?_
        refine we_heldM (fun _ => hs.ar 3 rfl) ?_
        refine wm_one 7 (by kernel_rfl) rfl ?_; dsimp only [List.getElem_toArray, List.getElem_cons_succ, List.getElem_cons_zero]
        refine ws_new hs zeroSg rfl ?_; clear hs; intro g11 _ hs
        unfold zSg at hs
        refine wl_nil ?_
        refine we_heldM (fun _ => hs.ar 4 rfl) ?_
        refine wm_one 8 (by kernel_rfl) rfl ?_; dsimp only [List.getElem_toArray, List.getElem_cons_succ, List.getElem_cons_zero]
        apply ws_stS hs 0; exact rfl; exact rfl; exact rfl; exact sSg; exact rfl; exact rfl; clear hs; intro _ hs; dsimp only [setC] at hs; refine wl_nil ?_
        refine we_heldM (fun _ => hs.ar 4 rfl) ?_
        refine wm_one 9 (by kernel_rfl) rfl ?_; dsimp only [List.getElem_toArray, List.getElem_cons_succ, List.getElem_cons_zero]
        refine wl_as rfl rfl ?_; refine wl_nil ?_
        refine we_heldM (fun h => absurd h (by decide)) ?_
        refine wm_done (by kernel_rfl) ?_
        exact we_cut _ ⟨g11, rfl, hs⟩ ⟨rfl, rfl, rfl, rfl, rfl, trivial⟩
      · refine ws_new hs zeroSg rfl ?_; clear hs; intro g11 _ hs
        unfold zSg at hs
        refine wl_nil ?_
        refine we_heldM (fun _ => hs.ar 4 rfl) ?_
        refine wm_one 6 (by kernel_rfl) rfl ?_; dsimp only [List.getElem_toArray, List.getElem_cons_succ, List.getElem_cons_zero]
        refine wl_call ok_wal_Log_fresh (fresh_any (hs.ar 4 rfl)) ⟨rfl, trivial⟩ rfl ?_
        rintro _ _ ⟨rfl, hbx⟩
        replace hs := hs.below hbx
        clear hbx
        refine wl_nil ?_
        refine we_heldM (fun _ => hs.ar 4 rfl) ?_
        refine wm_one 8 (by kernel_rfl) rfl ?_; dsimp only [List.getElem_toArray, List.getElem_cons_succ, List.getElem_cons_zero]
        apply ws_stS hs 0; exact rfl; exact rfl; exact rfl; exact sSg; exact rfl; exact rfl; clear hs; intro _ hs; dsimp only [setC] at hs; refine wl_nil ?_
        refine we_heldM (fun _ => hs.ar 4 rfl) ?_
        refine wm_one 9 (by kernel_rfl) rfl ?_; dsimp only [List.getElem_toArray, List.getElem_cons_succ, List.getElem_cons_zero]
        refine wl_as rfl rfl ?_; refine wl_nil ?_
        refine we_heldM (fun h => absurd h (by decide)) ?_
        refine wm_done (by kernel_rfl) ?_
        exact we_cut _ ⟨g11, rfl, hs⟩ ⟨rfl, rfl, rfl, rfl, rfl, trivial⟩
    clear hs
    rintro _ w6 ⟨g11, rfl, hs⟩
    refine we_seq ?_; refine wc_seq ?_; refine wc_sr ?_; refine wl_mv rfl rfl ?_; apply wl_val; apply opv_notD; exact rfl; exact rfl; refine wl_ns ?_
    refine wc_cutE (fun L w' => ∃ (f : Nat) (d1 : Dk) (bg : Bool), L = [(0, .pointer (some ⟨g, 0, none⟩)), (1, .slice R 1 cr), (6, .slice X 1 cx), (11, .pointer (some ⟨g11, 0, none⟩)), (12, .bool bg)] ∧ ((bg = true ∧ f = nx ∧ d1 = (wSync d ⟨segs, nx, sz⟩).1 ∧ (wSync d ⟨segs, nx, sz⟩).2 = 0 ∧ (segs.length = 0 ∨ 50 ≤ sz)) ∨ (bg = false ∧ f = lastN ⟨segs, nx, sz⟩ ∧ d1 = d ∧ ¬ (segs.length = 0 ∨ 50 ≤ sz))) ∧ f < 2 ^ 64 ∧ DkOk d1 ∧
        St S w w' [.blk g11 100 (sgC f), .ow 30 X 1 cx [.slice Z (crcRec b).length cz], .ck (rdC Z (crcRec b)), .ck (dkC gd d1), .blk g 90 [.pointer (some ⟨gd, 0, none⟩), str pfJ, .int .i64 50, .slice A segs.length c, .int .u64 (nx : Int), .int .i64 (sz : Int), .bool false], .rg 1 100 A c (sgR segs)]) ?_ ?_
    · by_cases hbg : segs.length = 0 ∨ 50 ≤ sz
      · have hnb : ¬ ¬ (segs.length = 0 ∨ 50 ≤ sz) := fun h => h hbg
        apply wc_decF; exact rfl; (with_reducible assumption); refine wc_sr ?_; refine wl_mv rfl rfl ?_
        replace hs := ((((((hs.front 2 rfl).front 2 rfl).front 2 rfl).front 5 rfl).front 5 rfl).front 5 rfl)
        dsimp only [delC] at hs
        obtain ⟨S2, hS2, hB2, hM2, hH2, hB⟩ := St.lend (H1 := [_]) (H2 := [_, _, _, _, _]) hs
        have hcall := wsync_any (l := ⟨segs, nx, sz⟩) hS2 hok (fun w' k => (hH2 w' k).lgr) hf hsl
        obtain ⟨⟨d1, e1⟩, hq⟩ : ∃ q, wSync d ⟨segs, nx, sz⟩ = q := ⟨_, rfl⟩
        have hok1 := wSync_ok (l := ⟨segs, nx, sz⟩) hok
        rw [hq] at hcall hok1
        dsimp only at hcall hok1
        refine wl_call ok_wal_Log_Sync hcall ⟨rfl, trivial⟩ rfl ?_
        clear hcall
        rintro _ _ ⟨rfl, hsx⟩
        replace hs := hB _ _ hsx
        clear hsx hB hH2 hM2 hB2 hS2
        dsimp only [List.cons_append, List.nil_append] at hs
        by_cases he : e1 = 0
        · subst he
          refine wl_as rfl rfl ?_; refine wl_ns ?_; refine wc_sr ?_; refine wl_mv rfl rfl ?_; refine wl_bin rfl rfl bin_neq rfl ?_; refine wl_ns ?_; apply wc_condFb; exact rfl; exact rfl; refine wc_skip ?_
          exact we_cut _ ⟨nx, d1, true, rfl, .inl ⟨rfl, rfl, by rw [hq], by rw [hq], hbg⟩, by omega, hok1, ((((((hs.front 2 rfl).front 2 rfl).front 2 rfl).front 5 rfl).front 5 rfl).front 5 rfl)⟩ ⟨rfl, rfl, rfl, rfl, congrArg (fun b => some (Value.bool b)) (bT hbg), trivial⟩
        · have he' : ¬ ((e1 : Nat) : Int) = 0 := by omega
          have hw1 : wApp d ⟨segs, nx, sz⟩ b = ((d1, ⟨segs, nx, sz⟩), (0, e1)) := by
            unfold wApp
            dsimp only
            rw [if_pos (hbg.imp List.length_eq_zero_iff.1 id), hq, if_pos he]
          refine wl_as rfl rfl ?_; refine wl_ns ?_; refine wc_sr ?_; refine wl_mv rfl rfl ?_; refine wl_bin rfl rfl bin_neq rfl ?_; refine wl_ns ?_; apply wc_decT; exact rfl; (with_reducible assumption); refine wc_sr ?_; refine wl_mv rfl rfl ?_; refine wl_as rfl rfl ?_; refine wl_as rfl rfl ?_; refine wl_ns ?_; refine wc_ret ?_; refine we_cut_ret ?_; refine we_seq_ret ?_
          rw [hw1]
          exact we_ret2 rfl rfl rfl ⟨_, rfl, rfl, A, c, ((((((hs.front 2 rfl).front 2 rfl).front 2 rfl).drop 3 rfl).drop 3 rfl).drop 3 rfl)⟩
      · obtain ⟨a, k, rfl⟩ : ∃ a k, segs = a ++ [k] := by
          rcases List.eq_nil_or_concat segs with h | ⟨a, k, h⟩
          · exact absurd (.inl (by rw [h]; rfl)) hbg
          · exact ⟨a, k, by rw [h, List.concat_eq_append]⟩
        apply wc_decT; exact rfl; (with_reducible assumption); refine wc_region ?_; refine wl_mv rfl rfl ?_
        have hlog := hs.ar 4 rfl
        rw [show (a ++ [k]).length = a.length + 1 by simp] at hlog
        refine wl_call ok_wal_Log_last (last_any (by simp at hsl; omega) hlog (hs.rg 5 rfl).rd) ⟨rfl, trivial⟩ rfl ?_
        rintro _ _ ⟨rfl, hbx⟩
        replace hs := hs.below hbx
        clear hbx hlog
        apply ws_stS hs 0; exact rfl; exact rfl; exact rfl; exact sSg; exact rfl; exact rfl; clear hs; intro _ hs; dsimp only [setC] at hs; refine wl_nil ?_
        exact we_cut _ ⟨k, d, false, rfl, .inr ⟨rfl, (lastN_app a k nx sz).symm, rfl, hbg⟩, hf k (by simp), hok, hs⟩ ⟨rfl, rfl, rfl, rfl, congrArg (fun b => some (Value.bool b)) (bF hbg), trivial⟩
    clear hs
    rintro _ w7 ⟨f, d1, bg, rfl, hcase, hf64, hok1, hs⟩
    refine we_seq ?_; refine wc_sr ?_; refine wl_mv rfl rfl ?_
    have hj := bJoin_any (RdBB.one (r := crcRec b) (hs.ow 1 rfl).rd (Sat.rdc (i := 2) hs.2 rfl) hcz) rfl hcx (by simp; omega) (by simp [hmax])
    rw [show ([crcRec b] : List (List UInt8)).flatten = crcRec b by simp] at hj
    refine wl_call ok_bytes_Join hj ⟨rfl, rfl, trivial⟩ rfl ?_
    rintro _ _ ⟨J, cj, rfl, o_, hbx⟩
    have hcj := o_.cap
    replace hs := hs.newR hbx o_
    clear hbx o_ hj
    obtain ⟨⟨d2, e2⟩, hq2⟩ : ∃ q, appD d1 (nmJ f) (crcRec b) = q := ⟨_, rfl⟩
    refine wl_as rfl rfl ?_; refine wl_ns ?_; refine wc_seq ?_; refine wc_seq ?_
    refine wc_cutE (fun L w' => L = [(0, .pointer (some ⟨g, 0, none⟩)), (1, .slice R 1 cr), (11, .pointer (some ⟨g11, 0, none⟩)), (12, .bool bg), (14, .slice J (crcRec b).length cj), (15, .int .i64 (e2 : Int))] ∧ St S w w' [.ck (dkC gd d2), .blk g11 100 (sgC f), .blk g 90 [.pointer (some ⟨gd, 0, none⟩), str pfJ, .int .i64 50, .slice A segs.length c, .int .u64 (nx : Int), .int .i64 (sz : Int), .bool false], .rg 1 100 A c (sgR segs)]) ?_ ?_
    · replace hs := hs.below (Below.refl _ _).drew
      refine wc_held (fun w' => Ar w' g 90 [.pointer (some ⟨gd, 0, none⟩), str pfJ, .int .i64 50, .slice A segs.length c, .int .u64 (nx : Int), .int .i64 (sz : Int), .bool false] ∧ Ar w' g11 100 (sgC f)) mixed ?_
      have hS := And.intro (hs.ar 5 rfl) (hs.ar 1 rfl)
      apply wh_takeH 0; exact rfl; intro _ hw_; apply opv_move; exact rfl; exact rfl; kernel_rfl; exact hS; apply wh_takeH 1; exact rfl; intro _ hw_; apply opv_nilOk; exact rfl; exact rfl; kernel_rfl; exact hS; apply wh_takeH 2; exact rfl; intro _ hw_; apply opv_fa; exact fa_L0; exact rfl; exact rfl; kernel_rfl; exact hS; apply wh_takeH 3; exact rfl; intro _ hw_; apply opv_fa; exact fa_N0; exact rfl; exact rfl; kernel_rfl; exact hS; apply wh_takeH 4; exact rfl; intro _ hw_; apply opv_ldX; exact rfl; exact hw_.1; exact j1_dp; exact rfl; exact rfl; kernel_rfl; exact hS; apply wh_takeH 5; exact rfl; intro _ hw_; apply opv_move; exact rfl; exact rfl; kernel_rfl; exact hS; apply wh_takeH 6; exact rfl; intro _ hw_; apply opv_loadX; exact rfl; exact hw_.2; exact sSg; exact rfl; kernel_rfl; exact hS; apply wh_takeH 8; exact rfl; intro _ hw_; apply opv_move; exact rfl; exact rfl; kernel_rfl; exact hS
      clear hS
      refine wh_one 7 (o := ⟨_, _, _, _, _, _⟩) (by kernel_rfl) rfl ?_
      refine wl_call ok_wal_Log_name (name_any (f := f) (hs.ar 5 rfl) hf64) ⟨rfl, rfl, trivial⟩ rfl ?_
      rintro _ _ ⟨rfl, hbx⟩
      replace hs := hs.below hbx
      clear hbx
      refine wl_nil ?_
      refine we_held ⟨hs.ar 5 rfl, hs.ar 1 rfl⟩ ?_
      refine wh_one 9 (o := ⟨_, _, _, _, _, _⟩) (by kernel_rfl) rfl ?_
      replace hs := hs.front 4 rfl
      dsimp only [delC] at hs
      obtain ⟨S2, hS2, hB2, hM2, hH2, hB⟩ := St.lend (H1 := [_]) (H2 := [_, _, _, _, _, _]) hs
      have hcall := append_any (n := nmJ f) (b := crcRec b) (B := J) (cb := cj) hS2 hok1 (fun w' k => (hH2 w' k).rdc (i := 0) rfl) hcj (by omega)
      rw [hq2] at hcall
      dsimp only at hcall
      refine wl_call ok_disk_Disk_Append hcall ⟨rfl, rfl, rfl, trivial⟩ rfl ?_
      clear hcall
      rintro _ _ ⟨rfl, hsx⟩
      replace hs := hB _ _ hsx
      clear hsx hB hH2 hM2 hB2 hS2
      dsimp only [List.cons_append, List.nil_append] at hs
      refine wl_nil ?_
      refine we_held ⟨hs.ar 5 rfl, hs.ar 2 rfl⟩ ?_
      refine wh_one 10 (o := ⟨_, _, _, _, _, _⟩) (by kernel_rfl) rfl ?_
      refine wl_as rfl rfl ?_; refine wl_nil ?_
      refine we_held ⟨hs.ar 5 rfl, hs.ar 2 rfl⟩ ?_
      refine wh_done (by kernel_rfl) ?_
      exact we_cut _ ⟨rfl, (((((((hs.front 6 rfl).front 6 rfl).front 4 rfl).front 3 rfl).drop 4 rfl).drop 4 rfl).drop 4 rfl)⟩ ⟨rfl, rfl, rfl, rfl, rfl, rfl, trivial⟩
    clear hs
    rintro _ w8 ⟨rfl, hs⟩
    have hcond : segs.length = 0 ∨ 50 ≤ sz ↔ segs = [] ∨ 50 ≤ sz := by rw [List.length_eq_zero_iff]
    by_cases he2 : e2 = 0
    rotate_left
    · have he2' : ¬ ((e2 : Nat) : Int) = 0 := by omega
      have hw2 : wApp d ⟨segs, nx, sz⟩ b = ((d2, ⟨segs, nx, sz⟩), (0, e2)) := by
        unfold wApp
        dsimp only
        rcases hcase with ⟨_, rfl, rfl, h0, hbg⟩ | ⟨_, rfl, rfl, hbg⟩
        · rw [if_pos (hcond.1 hbg), if_neg (by rw [h0]; decide), hq2, if_pos he2]
        · rw [if_neg (fun h => hbg (hcond.2 h)), hq2, if_pos he2]
      refine we_seq ?_; refine wc_sr ?_; refine wl_mv rfl rfl ?_; refine wl_bin rfl rfl bin_neq rfl ?_; refine wl_ns ?_; apply wc_decT; exact rfl; (with_reducible assumption); refine wc_sr ?_; refine wl_mv rfl rfl ?_; refine wl_as rfl rfl ?_; refine wl_as rfl rfl ?_; refine wl_ns ?_; refine wc_ret ?_; refine we_seq_ret ?_
      rw [hw2]
      exact we_ret2 rfl rfl rfl ⟨_, rfl, rfl, A, c, ((((hs.front 3 rfl).front 3 rfl).front 2 rfl).drop 3 rfl)⟩
    subst he2
    have hw : IntKind.u64.wrap ((nx : Int) + ((1 : Nat) : Int)) = ((nx + 1 : Nat) : Int) := by rw [IntWalk.u64_in _ (by omega)]; omega
    rcases hcase with ⟨rfl, rfl, rfl, h0, hbg⟩ | ⟨rfl, rfl, rfl, hbg⟩
    · have hw2 : wApp d ⟨segs, f, sz⟩ b = ((d2, ⟨segs ++ [f], f + 1, (crcRec b).length⟩), (f, 0)) := by
        unfold wApp
        dsimp only
        rw [if_pos (hcond.1 hbg), if_neg (by rw [h0]; decide), hq2, if_neg (fun h => h rfl)]
      refine we_seq ?_; refine wc_sr ?_; refine wl_mv rfl rfl ?_; refine wl_bin rfl rfl bin_neq rfl ?_; refine wl_ns ?_; apply wc_condFb; exact rfl; exact rfl; refine wc_skip ?_; refine we_seq ?_; refine wc_seq ?_; refine wc_sr ?_; refine wl_mv rfl rfl ?_; refine wl_ns ?_; apply wc_condTb; exact rfl; exact rfl
      refine wc_heldG (fun w' => Ar w' g 90 [.pointer (some ⟨gd, 0, none⟩), str pfJ, .int .i64 50, .slice A segs.length c, .int .u64 (f : Int), .int .i64 (sz : Int), .bool false] ∧ Ar w' g11 100 (sgC f)) 12 mixed ?_
      replace hs := hs.below (Below.refl _ _).drew
      have hS := And.intro (hs.ar 2 rfl) (hs.ar 1 rfl)
      apply wm_take 0; exact rfl; intro _ hw_; apply opv_move; exact rfl; exact rfl; kernel_rfl; exact hS; apply wm_takeP 1; exact rfl; intro _; apply opv_move; exact rfl; exact rfl; kernel_rfl; exact fun _ => hS; apply wm_takeP 2; exact rfl; intro _; apply opv_move; exact rfl; exact rfl; kernel_rfl; exact fun _ => hS; apply wm_take 3; exact rfl; intro _ hw_; apply opv_move; exact rfl; exact rfl; kernel_rfl; exact hS; apply wm_take 4; exact rfl; intro _ hw_; apply opv_nilOk; exact rfl; exact rfl; kernel_rfl; exact hS; apply wm_take 5; exact rfl; intro _ hw_; apply opv_fa; exact fa_L2; exact rfl; exact rfl; kernel_rfl; exact hS; apply wm_take 6; exact rfl; intro _ hw_; apply opv_ldX; exact rfl; exact hw_.1; exact j1_sgs; exact rfl; exact rfl; kernel_rfl; exact hS; apply wm_take 7; exact rfl; intro _ hw_; apply opv_loadX; exact rfl; exact hw_.2; exact sSg; exact rfl; kernel_rfl; exact hS
      clear hS
      refine wm_one 8 (by kernel_rfl) rfl ?_; dsimp only [List.getElem_toArray, List.getElem_cons_succ, List.getElem_cons_zero]
      refine ws_bsR (cs := sgC f) hs tkSg ⟨_, rfl, rfl⟩ rfl (by decide) rfl ?_
      clear hs; intro B3 _ hs
      refine wl_nil ?_
      refine we_heldM (fun _ => ⟨hs.ar 3 rfl, hs.ar 2 rfl⟩) ?_
      refine wm_one 9 (by kernel_rfl) rfl ?_; dsimp only [List.getElem_toArray, List.getElem_cons_succ, List.getElem_cons_zero]
      refine ws_appR (css := [sgC f]) hs 4 rfl rfl tkSg (sgR_len _) rfl (hs.rg 0 rfl).rd rfl (by simp [sgC, Value.oneCell']) (by omega) (by simp only [maxLen]; omega) rfl ?_
      clear hs; intro G2 gc2 _ hs; dsimp only [setC] at hs
      refine wl_nil ?_
      refine we_heldM (fun _ => ⟨hs.ar 3 rfl, hs.ar 2 rfl⟩) ?_
      refine wm_one 10 (by kernel_rfl) rfl ?_; dsimp only [List.getElem_toArray, List.getElem_cons_succ, List.getElem_cons_zero]
      apply wl_val; apply opv_nilOk; exact rfl; exact rfl; refine wl_nil ?_
      refine we_heldM (fun _ => ⟨hs.ar 3 rfl, hs.ar 2 rfl⟩) ?_
      refine wm_one 11 (by kernel_rfl) rfl ?_; dsimp only [List.getElem_toArray, List.getElem_cons_succ, List.getElem_cons_zero]
      apply wl_val; apply opv_fa; exact fa_L2; exact rfl; exact rfl; refine wl_nil ?_
      refine we_heldM (fun _ => ⟨hs.ar 3 rfl, hs.ar 2 rfl⟩) ?_
      refine wm_one 12 (by kernel_rfl) rfl ?_; dsimp only [List.getElem_toArray, List.getElem_cons_succ, List.getElem_cons_zero]
      apply ws_st hs 3; exact rfl; exact rfl; exact j1_sgs; exact rfl; exact rfl; exact rfl; clear hs; intro _ hs; dsimp only [setC, List.set] at hs; refine wl_nil ?_
      refine we_heldM (fun h => absurd h (by decide)) ?_
      refine wm_one 13 (by kernel_rfl) rfl ?_; dsimp only [List.getElem_toArray, List.getElem_cons_succ, List.getElem_cons_zero]
      apply wl_val; apply opv_nilOk; exact rfl; exact rfl; refine wl_nil ?_
      refine we_heldM (fun h => absurd h (by decide)) ?_
      refine wm_one 14 (by kernel_rfl) rfl ?_; dsimp only [List.getElem_toArray, List.getElem_cons_succ, List.getElem_cons_zero]
      apply wl_val; apply opv_fa; exact fa_L4; exact rfl; exact rfl; refine wl_nil ?_
      refine we_heldM (fun h => absurd h (by decide)) ?_
      refine wm_one 15 (by kernel_rfl) rfl ?_; dsimp only [List.getElem_toArray, List.getElem_cons_succ, List.getElem_cons_zero]
      apply ws_st hs 3; exact rfl; exact rfl; exact d1_int; exact rfl; exact rfl; exact rfl; clear hs; intro _ hs; dsimp only [setC, List.set] at hs; refine wl_nil ?_
      refine we_heldM (fun h => absurd h (by decide)) ?_
      refine wm_one 16 (by kernel_rfl) rfl ?_; dsimp only [List.getElem_toArray, List.getElem_cons_succ, List.getElem_cons_zero]
      apply wl_val; apply opv_nilOk; exact rfl; exact rfl; refine wl_nil ?_
      refine we_heldM (fun h => absurd h (by decide)) ?_
      refine wm_one 17 (by kernel_rfl) rfl ?_; dsimp only [List.getElem_toArray, List.getElem_cons_succ, List.getElem_cons_zero]
      apply wl_val; apply opv_fa; exact fa_L5; exact rfl; exact rfl; refine wl_nil ?_
      refine we_heldM (fun h => absurd h (by decide)) ?_
      refine wm_one 18 (by kernel_rfl) rfl ?_; dsimp only [List.getElem_toArray, List.getElem_cons_succ, List.getElem_cons_zero]
      apply ws_st hs 3; exact rfl; exact rfl; exact d1_bool; exact rfl; exact rfl; exact rfl; clear hs; intro _ hs; dsimp only [setC, List.set] at hs; refine wl_nil ?_
      refine we_heldM (fun h => absurd h (by decide)) ?_
      refine wm_done (by kernel_rfl) ?_
      refine we_seq ?_; refine wc_sr ?_; refine wl_mv rfl rfl ?_; apply wl_val; apply opv_nilOk; exact rfl; exact rfl; apply wl_val; apply opv_fa; exact fa_L3; exact rfl; exact rfl; apply wl_val; apply opv_ldX; exact rfl; exact hs.ar 3 rfl; exact j1_u64; exact rfl; exact rfl; refine wl_as rfl rfl ?_; refine wl_ns ?_; refine wc_sr ?_; refine wl_mv rfl rfl ?_; apply wl_val; apply opv_nilOk; exact rfl; exact rfl; apply wl_val; apply opv_fa; exact fa_L4; exact rfl; exact rfl; apply wl_val; apply opv_ldX; exact rfl; exact hs.ar 3 rfl; exact d1_int; exact rfl; exact rfl; refine wl_mv rfl rfl ?_; apply wl_val; apply opv_len; exact rfl; exact tyB.sl; exact rfl; apply wl_val; apply opv_bin; exact rfl; exact rfl; exact bin_add64 (by omega); exact rfl; apply wl_val; apply opv_nilOk; exact rfl; exact rfl; apply wl_val; apply opv_fa; exact fa_L4; exact rfl; exact rfl; apply ws_st hs 3; exact rfl; exact rfl; exact d1_int; exact rfl; exact rfl; exact rfl; clear hs; intro _ hs; dsimp only [setC, List.set] at hs; refine wl_ns ?_; refine wc_sr ?_; refine wl_mv rfl rfl ?_; apply wl_val; apply opv_nilOk; exact rfl; exact rfl; apply wl_val; apply opv_fa; exact fa_L3; exact rfl; exact rfl; apply wl_val; apply opv_ldX; exact rfl; exact hs.ar 3 rfl; exact j1_u64; exact rfl; exact rfl; refine wl_mv rfl rfl ?_; apply wl_val; apply opv_len; exact rfl; exact tyBB.sl; exact rfl; apply wl_val; apply opv_convR; exact rfl; exact Try.underlying3; exact Try.underlying47; exact IntWalk.u64_in _ (by omega); exact rfl
      refine wl_bin rfl rfl (bin_add.to (congrArg (Value.int .u64) hw)) rfl ?_
      apply wl_val; apply opv_nilOk; exact rfl; exact rfl; apply wl_val; apply opv_fa; exact fa_L3; exact rfl; exact rfl; apply ws_st hs 3; exact rfl; exact rfl; exact j1_u64; exact rfl; exact rfl; exact rfl; clear hs; intro _ hs; dsimp only [setC, List.set] at hs; refine wl_ns ?_; refine wc_sr ?_; refine wl_mv rfl rfl ?_; refine wl_as rfl rfl ?_; refine wl_as rfl rfl ?_; refine wl_ns ?_; refine wc_ret ?_
      rw [hw2]
      rw [Int.zero_add] at hs
      refine we_ret2 rfl rfl rfl ⟨_, rfl, rfl, G2, gc2, ?_⟩
      dsimp only
      rw [show (segs ++ [f]).length = segs.length + 1 by simp, ← sgR_snoc]
      exact (((((hs.front 4 rfl).front 4 rfl).front 3 rfl).drop 3 rfl).drop 3 rfl)
    · have hw2 : wApp d1 ⟨segs, nx, sz⟩ b = ((d2, ⟨segs, nx + 1, sz + (crcRec b).length⟩), (nx, 0)) := by
        unfold wApp
        dsimp only
        rw [if_neg (fun h => hbg (hcond.2 h)), hq2, if_neg (fun h => h rfl)]
      refine we_seq ?_; refine wc_sr ?_; refine wl_mv rfl rfl ?_; refine wl_bin rfl rfl bin_neq rfl ?_; refine wl_ns ?_; apply wc_condFb; exact rfl; exact rfl; refine wc_skip ?_; refine we_seq ?_; refine wc_seq ?_; refine wc_sr ?_; refine wl_mv rfl rfl ?_; refine wl_ns ?_; apply wc_condFb; exact rfl; exact rfl; refine wc_skip ?_; refine we_seq ?_; refine wc_sr ?_; refine wl_mv rfl rfl ?_; apply wl_val; apply opv_nilOk; exact rfl; exact rfl; apply wl_val; apply opv_fa; exact fa_L3; exact rfl; exact rfl; apply wl_val; apply opv_ldX; exact rfl; exact hs.ar 2 rfl; exact j1_u64; exact rfl; exact rfl; refine wl_as rfl rfl ?_; refine wl_ns ?_; refine wc_sr ?_; refine wl_mv rfl rfl ?_; apply wl_val; apply opv_nilOk; exact rfl; exact rfl; apply wl_val; apply opv_fa; exact fa_L4; exact rfl; exact rfl; apply wl_val; apply opv_ldX; exact rfl; exact hs.ar 2 rfl; exact d1_int; exact rfl; exact rfl; refine wl_mv rfl rfl ?_; apply wl_val; apply opv_len; exact rfl; exact tyB.sl; exact rfl; apply wl_val; apply opv_bin; exact rfl; exact rfl; exact bin_add64 (by omega); exact rfl; apply wl_val; apply opv_nilOk; exact rfl; exact rfl; apply wl_val; apply opv_fa; exact fa_L4; exact rfl; exact rfl; apply ws_st hs 2; exact rfl; exact rfl; exact d1_int; exact rfl; exact rfl; exact rfl; clear hs; intro _ hs; dsimp only [setC, List.set] at hs; refine wl_ns ?_; refine wc_sr ?_; refine wl_mv rfl rfl ?_; apply wl_val; apply opv_nilOk; exact rfl; exact rfl; apply wl_val; apply opv_fa; exact fa_L3; exact rfl; exact rfl; apply wl_val; apply opv_ldX; exact rfl; exact hs.ar 2 rfl; exact j1_u64; exact rfl; exact rfl; refine wl_mv rfl rfl ?_; apply wl_val; apply opv_len; exact rfl; exact tyBB.sl; exact rfl; apply wl_val; apply opv_convR; exact rfl; exact Try.underlying3; exact Try.underlying47; exact IntWalk.u64_in _ (by omega); exact rfl
      refine wl_bin rfl rfl (bin_add.to (congrArg (Value.int .u64) hw)) rfl ?_
      apply wl_val; apply opv_nilOk; exact rfl; exact rfl; apply wl_val; apply opv_fa; exact fa_L3; exact rfl; exact rfl; apply ws_st hs 2; exact rfl; exact rfl; exact j1_u64; exact rfl; exact rfl; exact rfl; clear hs; intro _ hs; dsimp only [setC, List.set] at hs; refine wl_ns ?_; refine wc_sr ?_; refine wl_mv rfl rfl ?_; refine wl_as rfl rfl ?_; refine wl_as rfl rfl ?_; refine wl_ns ?_; refine wc_ret ?_
      rw [hw2]
      rw [← Int.natCast_add] at hs
      exact we_ret2 rfl rfl rfl ⟨_, rfl, rfl, A, c, ((((hs.front 3 rfl).front 3 rfl).front 2 rfl).drop 3 rfl)⟩
end Go.Proofs.Ytdgagffieobiiaa

/-
  Walks over prefixes, runes of a few digits, and the index that a file's name says.
-/
namespace Go.Proofs.Ytdgagffieobiiaa
open Go.RowKit
theorem opv_ext2 {P : Program} {L : FL} {w w' : World} {f : FuncId} {x y : Operand} {ats : Array TypeId} {ty : TypeId} {u u2 v : Value} (hx : look L x = some u) (hy : look L y = some u2) (hrun : (callFunc f #[u, u2]).run P w = .ok (.value v) w') :
    OpV P (.call { callee := .value (.func f), args := #[x, y], argTypes := ats }) ty L w v w' := fun ρ o hρ ho _ => by
  have h1 := hρ _ _ hx
  have h2 := hρ _ _ hy
  unfold execOp
  simp only [ho, resolve, Deferred.ofValue, Sem.run_bind, Sem.run_pure, Result.andThen_ok, invoke]
  simpa [h1, h2, hρ (.func f) _ rfl, Deferred.ofValue, invoke] using hrun
theorem okHp : CallOk Try.prog 90 := callOk Try.func90 (by kernel_rfl) rfl
theorem okCp : CallOk Try.prog 91 := callOk Try.func91 (by kernel_rfl) rfl
theorem okIb : CallOk Try.prog 102 := callOk Try.func102 (by kernel_rfl) rfl
section
variable {p r : List UInt8} {w : World}
theorem hp0_any (hl : (p ++ r).length ≤ 1048576) : CallsV Try.prog 90 #[str (p ++ r), str p] w fun v w' => v = .bool true ∧ w = w' := by
  have hle : (p.length : Int) ≤ ((p ++ r).length : Int) := by rw [List.length_append]; omega
  refine calls_in (N := _) Try.func90 rfl Try.ntmps90 rfl ?_; show WC _ _ _ _ _ _
  refine wc_sr ?_; refine wl_as rfl rfl ?_; refine wl_ns ?_; refine wc_sr ?_; refine wl_mv rfl rfl ?_; apply wl_val; apply opv_lenL; exact rfl; exact Try.underlying9; exact rfl; refine wl_mv rfl rfl ?_; apply wl_val; apply opv_lenL; exact rfl; exact Try.underlying9; exact rfl; refine wl_bin rfl rfl bin_geq rfl ?_; refine wl_mv rfl rfl ?_; apply wl_take; exact rfl; exact rfl; exact rfl; refine bT ?_; (with_reducible assumption); refine wl_mv rfl rfl ?_; apply wl_take; exact rfl; exact rfl; exact rfl; refine bT ?_; (with_reducible assumption); refine wl_mv rfl rfl ?_; apply wl_take; exact rfl; exact rfl; exact rfl; refine bT ?_; (with_reducible assumption); apply wl_val; apply opv_lenL; exact rfl; exact Try.underlying9; exact rfl; apply wl_take; exact rfl; exact rfl; exact rfl; refine bT ?_; (with_reducible assumption)
  refine wl_val (opv_slS (a := 0) (b := p.length) Try.underlying9 rfl rfl ⟨_, rfl⟩ (Nat.zero_le _) (by rw [List.length_append]; omega)) rfl ?_
  rw [List.take_left, List.drop_zero]
  apply wl_take; exact rfl; exact rfl; exact rfl; refine bT ?_; (with_reducible assumption); refine wl_mv rfl rfl ?_; apply wl_take; exact rfl; exact rfl; exact rfl; refine bT ?_; (with_reducible assumption); refine wl_bin rfl rfl bin_eqlS rfl ?_; apply wl_val; apply opv_pickT; exact rfl; refine bT ?_; (with_reducible assumption); exact rfl; exact rfl; refine wl_as rfl rfl ?_; refine wl_ns ?_; refine wc_ret ?_
  exact we_ret1 rfl rfl ⟨_, rfl, congrArg Value.bool (bT rfl), rfl⟩
theorem hp_any (hl : (p ++ r).length ≤ 1048576) : CallsV Try.prog 75 #[str (p ++ r), str p] w fun v w' => v = .bool true ∧ w = w' := by
  refine calls_in (N := _) Try.func75 rfl Try.ntmps75 rfl ?_; show WC _ _ _ _ _ _
  refine wc_sr ?_; refine wl_as rfl rfl ?_; refine wl_ns ?_; refine wc_sr ?_; refine wl_mv rfl rfl ?_; refine wl_mv rfl rfl ?_
  refine wl_callX (vs := [_, _]) okHp ⟨rfl, rfl, trivial⟩ rfl (hp0_any hl) ?_
  rintro _ _ ⟨rfl, rfl⟩
  refine wl_as rfl rfl ?_; refine wl_ns ?_; refine wc_ret ?_
  exact we_ret1 rfl rfl ⟨_, rfl, rfl, rfl⟩
theorem cp0_any (hl : (p ++ r).length ≤ 1048576) : CallsV Try.prog 91 #[str (p ++ r), str p] w fun v w' => v = .tuple #[str r, .bool true] ∧ w = w' := by
  refine calls_in (N := _) Try.func91 rfl Try.ntmps91 rfl ?_; show WC _ _ _ _ _ _
  refine wc_sr ?_; refine wl_as rfl rfl ?_; refine wl_as rfl rfl ?_; refine wl_ns ?_; refine wc_seq ?_; refine wc_sr ?_; refine wl_mv rfl rfl ?_; refine wl_mv rfl rfl ?_
  refine wl_callX (vs := [_, _]) okHp ⟨rfl, rfl, trivial⟩ rfl (hp0_any hl) ?_
  rintro _ _ ⟨rfl, rfl⟩
  apply wl_val; apply opv_not; exact rfl; exact rfl; refine wl_ns ?_; apply wc_condFb; exact rfl; exact Bool.not_true; refine wc_skip ?_; refine we_seq ?_; refine wc_sr ?_; refine wl_mv rfl rfl ?_; refine wl_mv rfl rfl ?_; apply wl_val; apply opv_lenL; exact rfl; exact Try.underlying9; exact rfl
  refine wl_val (opv_slS (a := p.length) (b := (p ++ r).length) Try.underlying9 rfl ⟨_, rfl⟩ rfl (by rw [List.length_append]; omega) (Nat.le_refl _)) rfl ?_
  rw [List.take_length, List.drop_left]
  refine wl_as rfl rfl ?_; refine wl_as rfl rfl ?_; refine wl_ns ?_; refine wc_ret ?_
  exact we_ret2 rfl rfl rfl ⟨_, rfl, rfl, rfl⟩
theorem cp_any (hl : (p ++ r).length ≤ 1048576) : CallsV Try.prog 76 #[str (p ++ r), str p] w fun v w' => v = .tuple #[str r, .bool true] ∧ w = w' := by
  refine calls_in (N := _) Try.func76 rfl Try.ntmps76 rfl ?_; show WC _ _ _ _ _ _
  refine wc_sr ?_; refine wl_as rfl rfl ?_; refine wl_as rfl rfl ?_; refine wl_ns ?_; refine wc_sr ?_; refine wl_mv rfl rfl ?_; refine wl_mv rfl rfl ?_
  refine wl_callX (vs := [_, _]) okCp ⟨rfl, rfl, trivial⟩ rfl (cp0_any hl) ?_
  rintro _ _ ⟨rfl, rfl⟩
  apply wl_val; apply opv_extract; exact rfl; exact rfl; exact rfl; apply wl_val; apply opv_extract; exact rfl; exact rfl; exact rfl; refine wl_as rfl rfl ?_; refine wl_as rfl rfl ?_; refine wl_ns ?_; refine wc_ret ?_
  exact we_ret2 rfl rfl rfl ⟨_, rfl, rfl, rfl⟩
end
def dgS : ByteArray := ⟨#[48, 49, 50, 51, 52, 53, 54, 55, 56, 57, 97, 98, 99, 100, 101, 102]⟩
theorem dg_idx : ∀ k < 16, firstIdx dgS (((dgs.getD k 0).toNat : Int)).toNat.toUInt8 = (k : Int) ∧ (dgs.getD k 0).toNat < 128 := by decide +kernel
theorem ib_run {k : Nat} (hk : k < 16) (w : World) : (callFunc 104 #[.string dgS, .int .u8 ((dgs.getD k 0).toNat : Int)]).run Try.prog w = .ok (.value (.int .i64 (k : Int))) w := by
  rw [run_callFunc_extern Try.func104 (by kernel_rfl) (by kernel_rfl) (by kernel_rfl) (e := Extern.BytealgIndexByte.indexByte) (by kernel_rfl), run_indexByte_string, (dg_idx k hk).1]
  rfl
theorem ib0_any {k : Nat} (hk : k < 16) (w : World) : CallsV Try.prog 102 #[.string dgS, .int .u8 ((dgs.getD k 0).toNat : Int)] w fun v w' => v = .int .i64 (k : Int) ∧ w = w' := by
  refine calls_in (N := _) Try.func102 rfl Try.ntmps102 rfl ?_; show WC _ _ _ _ _ _
  refine wc_sr ?_; refine wl_as rfl rfl ?_; refine wl_ns ?_; refine wc_sr ?_; refine wl_mv rfl rfl ?_; refine wl_mv rfl rfl ?_
  refine wl_val (opv_ext2 rfl rfl (ib_run hk w)) rfl ?_
  refine wl_as rfl rfl ?_; refine wl_ns ?_; refine wc_ret ?_
  exact we_ret1 rfl rfl ⟨_, rfl, rfl, rfl⟩
theorem ib_any {k : Nat} (hk : k < 16) (w : World) : CallsV Try.prog 92 #[.string dgS, .int .u8 ((dgs.getD k 0).toNat : Int)] w fun v w' => v = .int .i64 (k : Int) ∧ w = w' := by
  refine calls_in (N := _) Try.func92 rfl Try.ntmps92 rfl ?_; show WC _ _ _ _ _ _
  refine wc_sr ?_; refine wl_as rfl rfl ?_; refine wl_ns ?_; refine wc_sr ?_; refine wl_mv rfl rfl ?_; refine wl_mv rfl rfl ?_
  refine wl_callX (vs := [_, _]) okIb ⟨rfl, rfl, trivial⟩ rfl (ib0_any hk w) ?_
  rintro _ _ ⟨rfl, rfl⟩
  refine wl_as rfl rfl ?_; refine wl_ns ?_; refine wc_ret ?_
  exact we_ret1 rfl rfl ⟨_, rfl, rfl, rfl⟩
theorem ir_any {k : Nat} (hk : k < 16) (w : World) : CallsV Try.prog 77 #[.string dgS, .int .i32 ((dgs.getD k 0).toNat : Int)] w fun v w' => v = .int .i64 (k : Int) ∧ w = w' := by
  obtain ⟨q, hq⟩ : ∃ q, (dgs.getD k 0).toNat = q := ⟨_, rfl⟩
  have h8 := (dg_idx k hk).2
  have hib := ib_any hk w
  rw [hq] at h8 hib ⊢
  have h8' : (q : Int) < 128 := by omega
  have h0' : (0 : Int) ≤ (q : Int) := by omega
  refine calls_in (N := _) Try.func77 rfl Try.ntmps77 rfl ?_; show WC _ _ _ _ _ _
  refine wc_sr ?_; refine wl_as rfl rfl ?_; refine wl_ns ?_; refine wc_block ?_; refine wc_sr ?_; refine wl_mv rfl rfl ?_; refine wl_bin rfl rfl bin_leq rfl ?_; refine wl_mv rfl rfl ?_; apply wl_take; exact rfl; exact rfl; exact rfl; refine bT ?_; (with_reducible assumption); refine wl_mv rfl rfl ?_; apply wl_take; exact rfl; exact rfl; exact rfl; refine bT ?_; (with_reducible assumption); refine wl_bin rfl rfl bin_lss rfl ?_; apply wl_val; apply opv_pickT; exact rfl; refine bT ?_; (with_reducible assumption); exact rfl; exact rfl; refine wl_as rfl rfl ?_; refine wl_ns ?_; apply wc_decT; exact rfl; (with_reducible assumption); refine wc_sr ?_; refine wl_mv rfl rfl ?_; refine wl_mv rfl rfl ?_; apply wl_val; apply opv_convR; exact rfl; exact Try.underlying21; exact Try.underlying5; exact IntWalk.u8_in _ (by omega); exact rfl
  refine wl_callX (vs := [_, _]) ok_strings_IndexByte ⟨rfl, rfl, trivial⟩ rfl hib ?_
  rintro _ _ ⟨rfl, rfl⟩
  refine wl_as rfl rfl ?_; refine wl_ns ?_; refine wc_ret ?_; refine we_block_ret ?_
  exact we_ret1 rfl rfl ⟨_, rfl, rfl, rfl⟩
end Go.Proofs.Ytdgagffieobiiaa

/-
  Walks over the index that a file's name says, a disk's list of names, and a log's segments found.
-/
namespace Go.Proofs.Ytdgagffieobiiaa
open Go.RowKit
theorem dec_hex {k : Nat} (hk : k < 16) (l : List UInt8) : dec (dgs.getD k 0 :: l) = ((dgs.getD k 0).toNat, 1) := by
  have h := dec_enc (c := (dgs.getD k 0).toNat) (by unfold Val; have := (dg_idx k hk).2; omega) l
  have e : enc (dgs.getD k 0).toNat = [dgs.getD k 0] := by
    have : ∀ k < 16, enc (dgs.getD k 0).toNat = [dgs.getD k 0] := by decide +kernel
    exact this k hk
  rw [e] at h
  exact h
theorem hexN_step (f i : Nat) (h : i < 16) : f / 16 ^ (16 - (i + 1)) = f / 16 ^ (16 - i) * 16 + hexN f i := by
  have e : 16 ^ (16 - i) = 16 ^ (16 - (i + 1)) * 16 := by rw [← Nat.pow_succ]; congr 1; omega
  rw [e, ← Nat.div_div_eq_div_mul]
  unfold hexN
  rw [show 15 - i = 16 - (i + 1) by omega]
  all_goals omega
theorem or_hex {a b : Nat} (hb : b < 16) (ha : a * 16 < 2 ^ 64) : (a * 2 ^ 4 % 2 ^ 64 ||| b) = a * 16 + b := by
  rw [Nat.mod_eq_of_lt (by omega), show a * 2 ^ 4 = 2 ^ 4 * a by omega, ← Nat.two_pow_add_eq_or_of_lt (by omega)]
  all_goals omega
def IxI (w : World) (f k : Nat) : FL → World → Nat → Prop := fun L wr m =>
  ∃ (i : Nat), L = [(8, .int .u64 ((f / 16 ^ (16 - i) : Nat) : Int)), (26, .pointer (some ⟨k, 0, none⟩))] ∧ i ≤ 16 ∧ It wr k (hex16 f) i ∧ Below w.heap.size w wr ∧ m = 16 - i
theorem index_any {f : Nat} (hf : f < 2 ^ 64) (w : World) : CallsV Try.prog 66 #[str (nmJ f), str pfJ] w fun v w' => v = .tuple #[.int .u64 (f : Int), .bool true] ∧ Below w.heap.size w w' := by
  have hlen : ((hex16 f).length : Int) = 16 := by rw [hex16_len]; rfl
  have hdrop : ∀ i, i < 16 → (hex16 f).drop i = dgs.getD (hexN f i) 0 :: (hex16 f).drop (i + 1) := fun i hi => by
    obtain ⟨h, e⟩ := List.getElem?_eq_some_iff.1 (hex16_at f hi)
    rw [List.drop_eq_getElem_cons h, e]
  have h00 : f / 16 ^ (16 - 0) = 0 := Nat.div_eq_of_lt (Nat.lt_of_lt_of_le hf (by decide))
  refine calls_in (N := _) Try.func66 rfl Try.ntmps66 rfl ?_; show WC _ _ _ _ _ _
  refine wc_sr ?_; refine wl_as rfl rfl ?_; refine wl_as rfl rfl ?_; refine wl_ns ?_; refine wc_sr ?_; refine wl_mv rfl rfl ?_; refine wl_mv rfl rfl ?_
  refine wl_callX (vs := [str (pfJ ++ hex16 f), str pfJ]) ok_strings_CutPrefix ⟨rfl, rfl, trivial⟩ rfl (cp_any (by simp [hex16_len])) ?_
  rintro _ _ ⟨rfl, rfl⟩
  refine wl_mv rfl rfl ?_; apply wl_val; apply opv_extract; exact rfl; exact rfl; exact rfl; apply wl_val; apply opv_extract; exact rfl; exact rfl; exact rfl; refine wl_as rfl rfl ?_; refine wl_as rfl rfl ?_; refine wl_ns ?_; refine wc_seq ?_; refine wc_sr ?_; refine wl_mv rfl rfl ?_; apply wl_val; apply opv_not; exact rfl; exact rfl; refine wl_mv rfl rfl ?_; apply wl_take; exact rfl; exact rfl; exact rfl; exact Bool.not_true; refine wl_mv rfl rfl ?_; apply wl_take; exact rfl; exact rfl; exact rfl; exact Bool.not_true; apply wl_val; apply opv_lenL; exact rfl; exact Try.underlying9; exact rfl; apply wl_take; exact rfl; exact rfl; exact rfl; exact Bool.not_true; refine wl_bin rfl rfl bin_neq rfl ?_; apply wl_val; apply opv_pickF; exact rfl; exact Bool.not_true; exact rfl; exact rfl; refine wl_ns ?_; apply wc_condFb; exact rfl; exact rfl; refine wc_skip ?_; refine we_seq ?_; refine wc_sr ?_; refine wl_as rfl rfl ?_; refine wl_ns ?_; refine wc_seq ?_; refine wc_sr ?_; refine wl_mv rfl rfl ?_
  refine wl_range Try.underlying9 rfl rfl fun k w1 hk hi hb => ?_
  refine wl_ns ?_; refine wc_block ?_
  refine wc_loop (IxI w f k) [(8, .int .u64 ((f / 16 ^ (16 - 0) : Nat) : Int)), (26, .pointer (some ⟨k, 0, none⟩))] 16 ⟨0, rfl, Nat.zero_le _, hi, hb, rfl⟩ ⟨by rw [h00]; rfl, rfl, trivial⟩ ?_
  clear hi hb
  rintro _ w2 m ⟨i, rfl, hi16, hi, hb, rfl⟩
  by_cases hlt : i < 16
  · refine wc_sr ?_
    refine wl_next rfl hi (by rw [hex16_len]; exact hlt) rfl fun w3 hi3 hg hsz => ?_
    rw [hdrop i hlt, dec_hex (hexN_lt f i)] at hi3 ⊢
    have hb3 := hg.belowI hb (by omega) hb.size
    clear hi hb hg hsz
    obtain ⟨q, hq⟩ : ∃ q, (dgs.getD (hexN f i) 0).toNat = q := ⟨_, rfl⟩
    have hir := ir_any (hexN_lt f i) w3
    rw [hq] at hir ⊢
    have hn0 : ¬ ((hexN f i : Nat) : Int) < 0 := by omega
    have hbnd : f / 16 ^ (16 - i) * 16 < 2 ^ 64 := by
      have e : 16 ^ (16 - i) = 16 ^ (16 - (i + 1)) * 16 := by rw [← Nat.pow_succ]; congr 1; omega
      have h1 : f / 16 ^ (16 - i) * 16 ≤ f / 16 ^ (16 - (i + 1)) := by rw [hexN_step f i hlt]; exact Nat.le_add_right _ _
      have h2 := Nat.div_le_self f (16 ^ (16 - (i + 1)))
      omega
    apply wl_val; apply opv_extract; exact rfl; exact rfl; exact rfl; refine wl_ns ?_; refine wc_seq ?_; apply wc_condTb; exact rfl; exact rfl; refine wc_skip ?_; refine we_seq ?_; refine wc_block ?_; refine wc_sr ?_; apply wl_val; apply opv_extract; exact rfl; exact rfl; exact rfl; refine wl_as rfl rfl ?_; refine wl_ns ?_; refine wc_sr ?_; refine wl_mv rfl rfl ?_
    refine wl_callX (vs := [_, _]) ok_strings_IndexRune ⟨rfl, rfl, trivial⟩ rfl hir ?_
    rintro _ _ ⟨rfl, rfl⟩
    refine wl_as rfl rfl ?_; refine wl_ns ?_; refine wc_seq ?_; refine wc_sr ?_; refine wl_mv rfl rfl ?_; refine wl_bin rfl rfl bin_lss rfl ?_; refine wl_ns ?_; apply wc_condFb; exact rfl; exact rfl; refine wc_skip ?_; refine we_seq ?_; refine wc_region ?_; refine wl_mv rfl rfl ?_
    refine wl_bin rfl rfl (bin_shl (k := .u64) (y := 4) rfl) rfl ?_
    refine wl_mv rfl rfl ?_; apply wl_val; apply opv_convR; exact rfl; exact Try.underlying3; exact Try.underlying47; exact wrap_nat rfl _; exact rfl
    rw [show hexN f i % 2 ^ IntKind.u64.bits = hexN f i from Nat.mod_eq_of_lt (by show _ < 2 ^ 64; have := hexN_lt f i; omega)]
    refine wl_bin rfl rfl ((bin_or (k := .u64) rfl (Nat.mod_lt _ (by decide)) (by show _ < 2 ^ 64; have := hexN_lt f i; omega)).to (congrArg (fun k : Nat => Value.int .u64 (k : Int)) (show (f / 16 ^ (16 - i) * 2 ^ 4 % 2 ^ 64 ||| hexN f i) = f / 16 ^ (16 - (i + 1)) by rw [or_hex (hexN_lt f i) hbnd, hexN_step f i hlt]))) rfl ?_
    refine wl_as rfl rfl ?_; refine wl_nil ?_; refine we_block_norm ?_
    exact we_loop _ (16 - (i + 1)) ⟨i + 1, rfl, by omega, hi3, hb3, rfl⟩ (by omega) ⟨rfl, rfl, trivial⟩
  · obtain rfl : i = 16 := by omega
    refine wc_sr ?_
    refine wl_nextE rfl hi (by rw [hex16_len]; omega) rfl ?_
    rw [show 16 ^ (16 - 16) = 1 from rfl, Nat.div_one]
    apply wl_val; apply opv_extract; exact rfl; exact rfl; exact rfl; refine wl_ns ?_; refine wc_seq ?_; apply wc_condFb; exact rfl; exact rfl; refine wc_exit ?_; refine we_seq_exit ?_; refine we_loop_exit ?_; refine we_block_exit ?_; refine we_seq ?_; refine wc_sr ?_; refine wl_mv rfl rfl ?_; refine wl_as rfl rfl ?_; refine wl_as rfl rfl ?_; refine wl_ns ?_; refine wc_ret ?_
    exact we_ret2 rfl rfl rfl ⟨_, rfl, rfl, hb⟩
end Go.Proofs.Ytdgagffieobiiaa

/-
  Walks over a disk's list of names, and a log's segments found.
-/
namespace Go.Proofs.Ytdgagffieobiiaa
open Go.RowKit
section
variable {P : Program} {N : Nat} {ops : Array Oper} {Q : Exit → Act → World → Prop} {rest : List Oper} {L : FL} {w w' : World} {ty : TypeId}
theorem opv_mkFunc {f : FuncId} {xs : List Operand} {us : List Value} (hx : Looks L xs us) : OpV P (.makeFunc (.func f) #[] xs.toArray) ty L w (.func (.func f) #[] us.toArray) w := fun ρ o hρ ho _ => by
  have hm := Looks.map hρ hx
  unfold execOp
  simp only [ho, Instr.makeFunc]
  have e : xs.toArray.map ρ = us.toArray := by simp [hm]
  rw [e]
  simp
theorem exec_callF {ρ : Operand → Value} {o : Oper} {x : Operand} {f : FuncId} {fs us : Array Value} {xs : List Operand} {vs : List Value} {ats : Array TypeId} (ho : o.op = .call { callee := .value x, args := xs.toArray, argTypes := ats })
    (hc : CallOk P f) (hρ : ∀ x u, look L x = some u → ρ x = u) (hf : look L x = some (.func (.func f) fs us)) (hx : Looks L xs vs) : (execOp ρ o).run P w = .ok (.enter f (fs ++ vs.toArray ++ us)) w := by
  have hf := hρ _ _ hf
  have hm := Looks.map hρ hx
  unfold execOp
  simp only [ho, resolve, Deferred.ofValue, hf, Sem.run_bind, Sem.run_pure, Result.andThen_ok, invoke]
  have : Array.map ρ xs.toArray = vs.toArray := by simp [hm]
  rw [this]
  exact hc _ _
/-- A call of a function that is a value. -/
theorem wl_callF {d : Nat} {x : Operand} {f : FuncId} {fs us : Array Value} {xs : List Operand} {ats : Array TypeId} {ty : TypeId} {pos : String} {aft : Array Edge} {vs : List Value} {R : Value → World → Prop}
    (hc : CallOk P f) (hf : look L x = some (.func (.func f) fs us)) (hr : CallsV P f (fs ++ vs.toArray ++ us) w R) (hx : Looks L xs vs) (hd : Nat.blt d N = true)
    (h : ∀ v w', R v w' → WL P N ops Q rest ((d, v) :: L) w') :
    WL P N ops Q (⟨some d, .call { callee := .value x, args := xs.toArray, argTypes := ats }, ty, pos, aft, none⟩ :: rest) L w := fun a ha =>
  wpList_plain rfl fun K hK => by
    unfold Oper.wp
    rw [exec_callF rfl hc (fun x u hx => ha.eval hx) hf hx]
    refine Calls.mono hr ?_
    rintro _ w' ⟨v, rfl, hv⟩
    exact hK _ _ (h v w' hv _ (ha.put hd v))
end
theorem ws_box1 {P : Program} {N : Nat} {ops : Array Oper} {Q : Exit → Act → World → Prop} {rest : List Oper} {L : FL} {w0 w : World} {M : BS} {H : List Cd} {t : TypeId} {u : Value} {d : Nat} {x : Operand} {ty : TypeId} {pos : String} {aft : Array Edge} (hs : St M w0 w H) (hx : look L x = some u) (h1 : u.oneCell' = true) (hd : Nat.blt d N = true)
    (h : ∀ g w', St M w0 w' (.blk g t [u] :: H) → WL P N ops Q rest ((d, .pointer (some ⟨g, 0, none⟩)) :: L) w') :
    WL P N ops Q (⟨some d, .box t x, ty, pos, aft, none⟩ :: rest) L w := by
  refine wl_val (opv_box hx) hd ?_
  rw [cells_one h1]
  exact h _ _ (hs.newA ((Below.refl _ _).alloc (Nat.le_refl _) _) (Nat.le_refl _) (Ar.new w t [u]))
theorem okDf : CallOk Try.prog 73 := callOk Try.func73 (by kernel_rfl) rfl
theorem okIf : CallOk Try.prog 89 := callOk Try.func89 (by kernel_rfl) rfl
theorem okL1 : CallOk Try.prog 74 := callOk Try.func74 (by kernel_rfl) rfl
theorem list1_any {g : Nat} {r : List UInt8} {w : World} (ha : Ar w g 9 [str pfJ]) (hl : (pfJ ++ r).length ≤ 1048576) :
    CallsV Try.prog 74 #[str (pfJ ++ r), .pointer (some ⟨g, 0, none⟩)] w fun v w' => v = .bool false ∧ Below w.heap.size w w' := by
  refine calls_in (N := _) Try.func74 rfl Try.ntmps74 rfl ?_; show WC _ _ _ _ _ _
  refine wc_sr ?_; refine wl_as rfl rfl ?_; refine wl_ns ?_; refine wc_sr ?_; refine wl_mv rfl rfl ?_; apply wl_val; apply opv_ldX; exact rfl; assumption; exact j1_str; exact rfl; exact rfl
  refine wl_callX (vs := [_, _]) ok_strings_HasPrefix ⟨rfl, rfl, trivial⟩ rfl (hp_any hl) ?_
  rintro _ _ ⟨rfl, rfl⟩
  apply wl_val; apply opv_not; exact rfl; exact rfl; refine wl_as rfl rfl ?_; refine wl_ns ?_; refine wc_ret ?_
  exact we_ret1 rfl rfl ⟨_, rfl, rfl, Below.refl _ _⟩
theorem indexF_any {A : Option Addr} {c n : Nat} {l : List (List UInt8)} {f : FuncId} {us : Array Value} {w : World} (hok : CallOk Try.prog f) (hr : Rd w A n (l.map str)) (hn : l.length = n) (hl : l.length ≤ 1048576)
    (hf : ∀ s ∈ l, ∀ w', Below w.heap.size w w' → CallsV Try.prog f (#[] ++ [str s].toArray ++ us) w' fun v w'' => v = .bool false ∧ Below w'.heap.size w' w'') :
    CallsV Try.prog 89 #[.slice A n c, .func (.func f) #[] us] w fun v w' => v = .int .i64 (-1) ∧ Below w.heap.size w w' := by
  subst hn
  refine calls_in (N := _) Try.func89 rfl Try.ntmps89 rfl ?_; show WC _ _ _ _ _ _
  refine wc_sr ?_; refine wl_as rfl rfl ?_; refine wl_ns ?_; refine wc_seq ?_; refine wc_sr ?_; refine wl_mv rfl rfl ?_; apply wl_val; apply opv_len; exact rfl; exact tyNm.sl; exact rfl; refine wl_mv rfl rfl ?_; refine wl_ns ?_; refine wc_block ?_
  refine wc_loop (fun L wr m => ∃ i : Nat, L = [(0, .slice A l.length c), (1, .func (.func f) #[] us), (7, .int .i64 (l.length : Int)), (8, .int .i64 (i : Int))] ∧ i ≤ l.length ∧ Below w.heap.size w wr ∧ m = l.length - i)
    [(0, .slice A l.length c), (1, .func (.func f) #[] us), (7, .int .i64 (l.length : Int)), (8, .int .i64 ((0 : Nat) : Int))] l.length ⟨0, rfl, Nat.zero_le _, Below.refl _ _, rfl⟩ ⟨rfl, rfl, rfl, rfl, trivial⟩ ?_
  rintro _ w1 m ⟨i, rfl, hi, hb, rfl⟩
  refine wc_sr ?_; refine wl_bin rfl rfl bin_lss rfl ?_; refine wl_ns ?_; refine wc_seq ?_
  refine wc_cond rfl (fun h1 => ?_) (fun h1 => ?_)
  · obtain ⟨s, hs⟩ : ∃ s, l[i]? = some s := ⟨_, List.getElem?_eq_getElem (by omega)⟩
    have hu : (l.map str)[i]? = some (str s) := by rw [List.getElem?_map, hs]; rfl
    refine wc_skip ?_; refine we_seq ?_; refine wc_seq ?_; refine wc_block ?_; refine wc_sr ?_; refine wl_mv rfl rfl ?_; refine wl_as rfl rfl ?_; refine wl_ns ?_; refine wc_sr ?_; refine wl_mv rfl rfl ?_; refine wl_mv rfl rfl ?_; refine wl_mv rfl rfl ?_
    refine wl_val (opv_idxR (kk := i) (u := str s) tyNm rfl rfl (hr.below hb) rfl hu) rfl ?_
    refine wl_val (opv_loadR (kk := i) (u := str s) tyNm rfl (hr.below hb) hu) rfl ?_
    skip
    refine wl_callF hok rfl (hf s (List.mem_of_getElem? hs) w1 hb) ⟨rfl, trivial⟩ rfl ?_
    rintro _ w2 ⟨rfl, hb2⟩
    replace hb2 := hb.trans (hb2.mono hb.size)
    refine wl_ns ?_; apply wc_condFb; exact rfl; exact rfl; refine wc_skip ?_; refine we_block_norm ?_; refine we_seq ?_; refine wc_region ?_; apply wl_val; apply opv_bin; exact rfl; exact rfl; exact bin_add64 (by omega); exact rfl; refine wl_mv rfl rfl ?_; refine wl_nil ?_
    exact we_loop _ (l.length - (i + 1)) ⟨i + 1, rfl, by omega, hb2, rfl⟩ (by omega) ⟨rfl, rfl, rfl, by rw [show ((i + 1 : Nat) : Int) = (i : Int) + 1 by omega]; rfl, trivial⟩
  · refine wc_exit ?_; refine we_seq_exit ?_; refine we_loop_exit ?_; refine we_block_exit ?_; refine we_seq ?_; refine wc_sr ?_; refine wl_as rfl rfl ?_; refine wl_ns ?_; refine wc_ret ?_
    exact we_ret1 rfl rfl ⟨_, rfl, rfl, hb⟩
theorem deleteF_any {A : Option Addr} {c n : Nat} {l : List (List UInt8)} {f : FuncId} {us : Array Value} {w : World} (hok : CallOk Try.prog f) (hr : Rd w A n (l.map str)) (hn : l.length = n) (hl : l.length ≤ 1048576)
    (hf : ∀ s ∈ l, ∀ w', Below w.heap.size w w' → CallsV Try.prog f (#[] ++ [str s].toArray ++ us) w' fun v w'' => v = .bool false ∧ Below w'.heap.size w' w'') :
    CallsV Try.prog 73 #[.slice A n c, .func (.func f) #[] us] w fun v w' => v = .slice A n c ∧ Below w.heap.size w w' := by
  refine calls_in (N := _) Try.func73 rfl Try.ntmps73 rfl ?_; show WC _ _ _ _ _ _
  refine wc_sr ?_; refine wl_as rfl rfl ?_; refine wl_ns ?_; refine wc_sr ?_; refine wl_mv rfl rfl ?_; refine wl_mv rfl rfl ?_
  refine wl_callX (vs := [_, _]) okIf ⟨rfl, rfl, trivial⟩ rfl (indexF_any hok hr hn hl hf) ?_
  rintro _ _ ⟨rfl, hb⟩
  refine wl_as rfl rfl ?_; refine wl_ns ?_; refine wc_seq ?_; refine wc_sr ?_; refine wl_mv rfl rfl ?_; refine wl_bin rfl rfl bin_eql rfl ?_; refine wl_ns ?_; apply wc_condTb; exact rfl; exact rfl; refine wc_sr ?_; refine wl_mv rfl rfl ?_; refine wl_as rfl rfl ?_; refine wl_ns ?_; refine wc_ret ?_; refine we_seq_ret ?_
  exact we_ret1 rfl rfl ⟨_, rfl, rfl, hb⟩
theorem sortN_len (fs : Fs) : (sortN fs).length = fs.length := by rw [sortN, List.length_mergeSort, List.length_map]
theorem list_any {g : Nat} {d : Dk} {ns : List Nat} {w : World} (h : RdD w g d) (hd : d.dead = false) (hns : sortN d.fs = ns.map nmJ) (hl : ns.length ≤ 1048576) :
    CallsV Try.prog 65 #[.pointer (some ⟨g, 0, none⟩), str pfJ] w fun v w' => ∃ (A : Option Addr) (c : Nat), v = .slice A ns.length c ∧ Ow w' w.heap.size 9 A ns.length c ((ns.map nmJ).map str) ∧ Below w.heap.size w w' := by
  have hs := St.init w
  have hln : d.fs.length = ns.length := by rw [← sortN_len, hns, List.length_map]
  have hnm : ∀ p ∈ d.fs, p.1.length ≤ maxLen := fun p hp => by
    have : p.1 ∈ sortN d.fs := List.mem_mergeSort.2 (List.mem_map.2 ⟨p, hp, rfl⟩)
    rw [hns] at this
    obtain ⟨k, _, e⟩ := List.mem_map.1 this
    rw [← e, nmJ_len]; decide
  obtain ⟨b, _, _, a1, _, _, _⟩ := h.look []
  unfold dkV at a1
  rw [hd] at a1
  refine calls_in (N := _) Try.func65 rfl Try.ntmps65 rfl ?_; show WC _ _ _ _ _ _
  refine wc_sr ?_
  refine ws_box1 hs rfl rfl rfl ?_
  clear hs; intro gx w1 hs
  have a2 := a1.bel hs.bel
  refine wl_as rfl rfl ?_; refine wl_ns ?_; refine wc_seq ?_; refine wc_sr ?_; refine wl_mv rfl rfl ?_; apply wl_val; apply opv_nilOk; exact rfl; exact rfl; apply wl_val; apply opv_fa; exact fa_sD (by decide); exact rfl; exact rfl; apply wl_val; apply opv_ldX; exact rfl; assumption; exact d1_bool; exact rfl; exact rfl; refine wl_ns ?_; apply wc_condFb; exact rfl; exact rfl; refine wc_skip ?_; refine we_seq ?_; refine wc_sr ?_; refine wl_mv rfl rfl ?_
  refine wl_call ok_disk_Disk_names (names_any (h.below hs.bel) hnm (by omega)) ⟨rfl, trivial⟩ rfl ?_
  rintro _ _ ⟨A, c, rfl, o_, hbx⟩
  rw [hns] at o_
  rw [hln] at o_ ⊢
  have hz := hs.size
  replace hs := hs.below hbx
  clear hbx
  skip
  refine wl_val (opv_mkFunc (us := [.pointer (some ⟨gx, 0, none⟩)]) ⟨rfl, trivial⟩) rfl ?_
  refine wl_callX (vs := [_, _]) okDf ⟨rfl, rfl, trivial⟩ rfl (deleteF_any okL1 o_.rd (by rw [List.length_map]) (by rw [List.length_map]; exact hl) fun s hm w' hb => ?_) ?_
  · obtain ⟨k, _, rfl⟩ := List.mem_map.1 hm
    exact list1_any ((hs.ar 0 rfl).bel hb) (by rw [← nmJ, nmJ_len]; decide)
  rintro _ _ ⟨rfl, hbx⟩
  have hr := Ow.mono (Ow.below o_ hbx (Nat.le_refl _)) hz
  replace hs := hs.below hbx
  refine wl_as rfl rfl ?_; refine wl_ns ?_; refine wc_ret ?_
  exact we_ret1 rfl rfl ⟨_, rfl, A, c, rfl, hr, hs.bel⟩
end Go.Proofs.Ytdgagffieobiiaa

/-
  Walks over a log's segments found, and the cut behind them.
-/
namespace Go.Proofs.Ytdgagffieobiiaa
open Go.RowKit
theorem found_any {g gd : Nat} {d : Dk} {A0 : Option Addr} {n0 c0 nx sz : Nat} {ns : List Nat} {w : World} (ha : Ar w g 90 (lgV gd A0 n0 c0 nx sz)) (h : RdD w gd d) (hd : d.dead = false) (hns : sortN d.fs = ns.map nmJ) (hl : ns.length ≤ 1048576) (hf : ∀ f ∈ ns, f < 2 ^ 64) :
    CallsV Try.prog 54 #[.pointer (some ⟨g, 0, none⟩)] w fun v w' => ∃ (A : Option Addr) (c : Nat), v = .slice A ns.length c ∧ St NoB w w' [.rg 1 100 A c (sgR ns)] := by
  have hs := (St.init w).nilG 1 100
  unfold lgV at ha
  have hmax : maxLen = 9223372036854775807 := rfl
  refine calls_in (N := _) Try.func54 rfl Try.ntmps54 rfl ?_; show WC _ _ _ _ _ _
  refine wc_sr ?_; refine wl_as rfl rfl ?_; refine wl_ns ?_; refine wc_sr ?_; refine wl_as rfl rfl ?_; refine wl_ns ?_; refine wc_seq ?_; refine wc_seq ?_
  refine wc_cutE (fun L w' => ∃ (B : Option Addr) (cb : Nat), L = [(0, .pointer (some ⟨g, 0, none⟩)), (3, .slice none 0 0), (18, .slice B ns.length cb), (19, .int .i64 (ns.length : Int)), (20, .int .i64 ((0 : Nat) : Int))] ∧ St NoB w w' [.ow 9 B ns.length cb ((ns.map nmJ).map str), .rg 1 100 none 0 []]) ?_ ?_
  · replace hs := hs.below (Below.refl _ _).drew
    refine wc_held (fun w' => Ar w' g 90 [.pointer (some ⟨gd, 0, none⟩), str pfJ, .int .i64 50, .slice A0 n0 c0, .int .u64 (nx : Int), .int .i64 (sz : Int), .bool false]) mixed ?_
    have hS := ha.bel hs.bel
    apply wh_takeH 0; exact rfl; intro _ hw_; apply opv_move; exact rfl; exact rfl; kernel_rfl; exact hS; apply wh_takeH 1; exact rfl; intro _ hw_; apply opv_nilOk; exact rfl; exact rfl; kernel_rfl; exact hS; apply wh_takeH 2; exact rfl; intro _ hw_; apply opv_fa; exact fa_L0; exact rfl; exact rfl; kernel_rfl; exact hS; apply wh_takeH 3; exact rfl; intro _ hw_; apply opv_fa; exact fa_N0; exact rfl; exact rfl; kernel_rfl; exact hS; apply wh_takeH 4; exact rfl; intro _ hw_; apply opv_ldX; exact rfl; assumption; exact j1_dp; exact rfl; exact rfl; kernel_rfl; exact hS; apply wh_takeH 5; exact rfl; intro _ hw_; apply opv_move; exact rfl; exact rfl; kernel_rfl; exact hS; apply wh_takeH 6; exact rfl; intro _ hw_; apply opv_nilOk; exact rfl; exact rfl; kernel_rfl; exact hS; apply wh_takeH 7; exact rfl; intro _ hw_; apply opv_fa; exact fa_L0; exact rfl; exact rfl; kernel_rfl; exact hS; apply wh_takeH 8; exact rfl; intro _ hw_; apply opv_fa; exact fa_N1; exact rfl; exact rfl; kernel_rfl; exact hS; apply wh_takeH 9; exact rfl; intro _ hw_; apply opv_ldX; exact rfl; assumption; exact j1_str; exact rfl; exact rfl; kernel_rfl; exact hS; apply wh_takeH 12; exact rfl; intro _ hw_; apply opv_move; exact rfl; exact rfl; kernel_rfl; exact hS
    clear hS
    refine wh_one 10 (o := ⟨_, _, _, _, _, _⟩) (by kernel_rfl) rfl ?_
    refine wl_call ok_disk_Disk_List (list_any (h.below hs.bel) hd hns hl) ⟨rfl, rfl, trivial⟩ rfl ?_
    rintro _ _ ⟨B, cb, rfl, hB, hbx⟩
    replace hs := hs.newO hbx hB (Nat.le_refl _)
    clear hbx hB
    refine wl_nil ?_
    refine we_held (ha.bel hs.bel) ?_
    refine wh_one 11 (o := ⟨_, _, _, _, _, _⟩) (by kernel_rfl) rfl ?_
    apply wl_val; apply opv_len; exact rfl; exact tyNm.sl; exact rfl; refine wl_nil ?_
    refine we_held (ha.bel hs.bel) ?_
    refine wh_done (by kernel_rfl) ?_
    exact we_cut _ ⟨B, cb, rfl, hs⟩ ⟨rfl, rfl, rfl, rfl, rfl, trivial⟩
  clear hs
  rintro _ w1 ⟨B, cb, rfl, hs⟩
  have hw1 : Below w.heap.size w w1 := hs.bel
  refine we_seq ?_; refine wc_block ?_
  refine wc_loop (fun L wr m => ∃ (i : Nat) (A : Option Addr) (c : Nat), L = [(0, .pointer (some ⟨g, 0, none⟩)), (3, .slice A i c), (18, .slice B ns.length cb), (19, .int .i64 (ns.length : Int)), (20, .int .i64 (i : Int))] ∧ i ≤ ns.length ∧ St NoB w wr [.ow 9 B ns.length cb ((ns.map nmJ).map str), .rg 1 100 A c (sgR (ns.take i))] ∧ m = ns.length - i)
    [(0, .pointer (some ⟨g, 0, none⟩)), (3, .slice none 0 0), (18, .slice B ns.length cb), (19, .int .i64 (ns.length : Int)), (20, .int .i64 ((0 : Nat) : Int))] ns.length ⟨0, none, 0, rfl, Nat.zero_le _, hs, rfl⟩ ⟨rfl, rfl, rfl, rfl, rfl, trivial⟩ ?_
  clear hs hw1
  rintro _ w2 m ⟨i, A, c, rfl, hi, hs, rfl⟩
  refine wc_sr ?_; refine wl_bin rfl rfl bin_lss rfl ?_; refine wl_ns ?_; refine wc_seq ?_
  refine wc_cond rfl (fun h1 => ?_) (fun h1 => ?_)
  · obtain ⟨f, hfi⟩ : ∃ f, ns[i]? = some f := ⟨_, List.getElem?_eq_getElem (by omega)⟩
    have hu : ((ns.map nmJ).map str)[i]? = some (str (nmJ f)) := by rw [List.getElem?_map, List.getElem?_map, hfi]; rfl
    have hlt := hf f (List.mem_of_getElem? hfi)
    have htk : ns.take (i + 1) = ns.take i ++ [f] := by rw [List.take_add_one, hfi]; rfl
    have a2 := ha.bel hs.bel
    refine wc_skip ?_; refine we_seq ?_; refine wc_seq ?_; refine wc_block ?_; refine wc_sr ?_
    refine wl_val (opv_idxR (kk := i) (u := str (nmJ f)) tyNm rfl rfl (hs.ow 0 rfl).rd rfl hu) rfl ?_
    refine wl_val (opv_loadR (kk := i) (u := str (nmJ f)) tyNm rfl (hs.ow 0 rfl).rd hu) rfl ?_
    refine wl_as rfl rfl ?_; refine wl_ns ?_; refine wc_sr ?_; refine wl_mv rfl rfl ?_; refine wl_mv rfl rfl ?_; apply wl_val; apply opv_nilOk; exact rfl; exact rfl; apply wl_val; apply opv_fa; exact fa_L0; exact rfl; exact rfl; apply wl_val; apply opv_fa; exact fa_N1; exact rfl; exact rfl; apply wl_val; apply opv_ldX; exact rfl; assumption; exact j1_str; exact rfl; exact rfl
    refine wl_call ok_wal_index (index_any hlt _) ⟨rfl, rfl, trivial⟩ rfl ?_
    rintro _ _ ⟨rfl, hbx⟩
    replace hs := hs.below hbx
    clear hbx a2
    refine wl_mv rfl rfl ?_; apply wl_val; apply opv_extract; exact rfl; exact rfl; exact rfl; apply wl_val; apply opv_extract; exact rfl; exact rfl; exact rfl; refine wl_as rfl rfl ?_; refine wl_as rfl rfl ?_; refine wl_ns ?_; refine wc_sr ?_; refine wl_mv rfl rfl ?_; refine wl_ns ?_; apply wc_condTb; exact rfl; exact rfl; refine wc_region ?_; refine wl_mv rfl rfl ?_; refine wl_mv rfl rfl ?_
    refine wl_val (opv_build (vs := [(0, .int .u64 (f : Int))]) (cs := sgC f) ⟨rfl, rfl, trivial⟩ (by kernel_rfl)) rfl ?_
    refine ws_pushR (cs := sgC f) hs 1 (fun _ => rfl) rfl tkSg (by rw [sgR_len, List.length_take]; omega) ⟨_, rfl, rfl⟩ rfl rfl (by decide) (by omega) (by omega) rfl rfl ?_
    clear hs; intro _ A2 c2 _ hs; dsimp only [setC] at hs
    rw [sgR_snoc, ← htk] at hs
    refine wl_as rfl rfl ?_; refine wl_nil ?_; refine we_block_norm ?_; refine we_seq ?_; refine wc_region ?_; apply wl_val; apply opv_bin; exact rfl; exact rfl; exact bin_add64 (by omega); exact rfl; refine wl_mv rfl rfl ?_; refine wl_nil ?_
    exact we_loop _ (ns.length - (i + 1)) ⟨i + 1, A2, c2, rfl, by omega, hs, rfl⟩ (by omega) ⟨rfl, rfl, rfl, rfl, by rw [show ((i + 1 : Nat) : Int) = (i : Int) + 1 by omega]; rfl, trivial⟩
  · obtain rfl : i = ns.length := by omega
    rw [List.take_length] at hs
    refine wc_exit ?_; refine we_seq_exit ?_; refine we_loop_exit ?_; refine we_block_exit ?_; refine we_seq ?_; refine wc_sr ?_; refine wl_mv rfl rfl ?_; refine wl_as rfl rfl ?_; refine wl_ns ?_; refine wc_ret ?_
    exact we_ret1 rfl rfl ⟨_, rfl, A, c, rfl, hs.drop 0 rfl⟩
end Go.Proofs.Ytdgagffieobiiaa

/-
  What is read of a log: the rows of records as pieces; the cut behind the last record.
-/
namespace Go.Proofs.Ytdgagffieobiiaa
open Go.RowKit
/-- The row reads as these byte lists, each of which lies at the head of a block of its own, from block base on. -/
def RdW (w : World) (base : Nat) (A : Option Addr) (vs : List Value) (rows : List (List UInt8)) : Prop :=
  Rd w A rows.length vs ∧ (∀ a, A = some a → 0 < rows.length → base ≤ a.block ∧ a.block < w.heap.size) ∧ ∀ (i : Nat) (r : List UInt8), rows[i]? = some r → ∃ (A' : Option Addr) (c' : Nat), vs[i]? = some (Value.slice A' r.length c') ∧ OwB w base A' c' r
section
variable {w w' : World} {base c : Nat} {A : Option Addr} {vs : List Value} {rows : List (List UInt8)} {r : List UInt8}
theorem OwB.keep (h : OwB w base A c r) (hm : ∀ b, base ≤ b → b < w.heap.size → w'.heap[b]? = w.heap[b]?) : OwB w' base A c r := Ow.moveS h fun a ha => hm _ (Ow.lt h a ha).1 (Ow.lt h a ha).2
theorem RdW.keep (h : RdW w base A vs rows) (hz : w.heap.size ≤ w'.heap.size) (hm : ∀ b, base ≤ b → b < w.heap.size → w'.heap[b]? = w.heap[b]?) : RdW w' base A vs rows := by
  obtain ⟨h1, h2, h3⟩ := h
  refine ⟨⟨h1.1, fun hn => ?_⟩, fun a ha hn => ⟨(h2 a ha hn).1, Nat.lt_of_lt_of_le (h2 a ha hn).2 hz⟩, fun i r hi => ?_⟩
  · obtain ⟨b, o, hA, hb, hc⟩ := h1.2 hn
    exact ⟨b, o, hA, by omega, fun j u hu => (World.cell?_of_block (a := ⟨b, o + j, none⟩) (hm b (h2 _ hA hn).1 hb)).trans (hc j u hu)⟩
  · obtain ⟨A', c', k1, k2⟩ := h3 i r hi
    exact ⟨A', c', k1, k2.keep hm⟩
theorem RdW.of (h : OwBB w base A c rows) : ∃ vs, RdW w base A vs rows := by
  obtain ⟨vs, ho, hr, _⟩ := h
  exact ⟨vs, ho.rd, fun a ha _ => Ow.lt ho a ha, fun i r hi => by obtain ⟨A', c', h1, h2, _⟩ := hr i r hi; exact ⟨A', c', h1, h2⟩⟩
theorem RdW.nil (w : World) (base : Nat) (A : Option Addr) : RdW w base A [] [] := ⟨Rd.nil _ _, fun _ _ h => absurd h (by simp), fun i r h => by simp at h⟩
theorem RdW.own (h : RdW w base A vs (r :: rows)) {B : Option Addr} {n cb : Nat} (hv : vs[0]? = some (.slice B n cb)) : OwB w base B cb r := by
  obtain ⟨B', cb', k1, k2⟩ := h.2.2 0 r rfl
  rw [hv] at k1
  cases k1
  exact k2
theorem RdW.tail (h : RdW w base A vs (r :: rows)) (hc : rows.length + 1 ≤ c) : RdW w base (cutA A c 1) (vs.drop 1) rows := by
  obtain ⟨h1, h2, h3⟩ := h
  have h4 := Rd.cut (l := 1) (h := rows.length + 1) (c := c) h1 (by omega) (Nat.le_refl _) hc
  rw [List.take_of_length_le (by have := h1.1; simp at this; omega), Nat.add_sub_cancel] at h4
  refine ⟨h4, fun a ha hn => ?_, fun i x hi => ?_⟩
  · obtain ⟨b, o, rfl, _, _⟩ := h1.2 (by simp)
    have hne : ¬ c = 1 := by omega
    simp [cutA, hne] at ha
    have h5 := h2 _ rfl (by simp)
    rw [← ha]
    exact h5
  · obtain ⟨B, cb, k1, k2⟩ := h3 (i + 1) x (by simpa using hi)
    exact ⟨B, cb, by rw [List.getElem?_drop, Nat.add_comm]; exact k1, k2⟩
end
/-- The elements of a row of byte lists, read. -/
def EK (vs : List Value) (rows : List (List UInt8)) (w : World) : Prop := vs.length = rows.length ∧ ∀ (i : Nat) (r : List UInt8), rows[i]? = some r → ∃ (A' : Option Addr) (c' : Nat), vs[i]? = some (.slice A' r.length c') ∧ RdB w A' r ∧ r.length ≤ c'
section
variable {w : World} {vs vp : List Value} {rows part : List (List UInt8)}
theorem EK.nil : EK [] [] w := ⟨rfl, fun i r h => by simp at h⟩
theorem EK.bb (h : EK vs rows w) {A : Option Addr} (hr : Rd w A rows.length vs) : RdBB w A rows := ⟨vs, hr, h.2⟩
theorem EK.app (h : EK vs rows w) (h2 : EK vp part w) : EK (vs ++ vp) (rows ++ part) w := by
  refine ⟨by rw [List.length_append, List.length_append, h.1, h2.1], fun i r hi => ?_⟩
  rcases Nat.lt_or_ge i rows.length with hlt | hge
  · rw [List.getElem?_append_left hlt] at hi
    rw [List.getElem?_append_left (by rw [h.1]; exact hlt)]
    exact h.2 i r hi
  · rw [List.getElem?_append_right hge] at hi
    rw [List.getElem?_append_right (by rw [h.1]; exact hge), h.1]
    exact h2.2 _ r hi
theorem RdW.ek {base : Nat} {A : Option Addr} (h : RdW w base A vs rows) : EK vs rows w := ⟨h.1.1, fun i r hi => by
  obtain ⟨A', c', h1, h2⟩ := h.2.2 i r hi
  exact ⟨A', c', h1, h2.rd, h2.cap⟩⟩
end
theorem all_at {gs : Grps} {i : Nat} (h : i ≤ gs.length) : (firsts 0 gs ++ [gs.flatten.length])[i]? = some (gs.take i).flatten.length := by
  rcases Nat.lt_or_ge i gs.length with hlt | hge
  · rw [List.getElem?_append_left (by rw [firsts_len]; exact hlt)]
    obtain ⟨f, h1, _, h3⟩ := closF_at (k := 0) (List.getElem?_eq_getElem hlt)
    rw [h1, h3, Nat.zero_add]
  · obtain rfl : i = gs.length := by omega
    rw [List.getElem?_append_right (by rw [firsts_len]; exact Nat.le_refl _), firsts_len, Nat.sub_self, List.take_length]; rfl
theorem sg_at {w : World} {S : BS} {b o : Nat} {l : List Nat} {i f : Nat} (h : RdR 1 w S (some ⟨b, o, none⟩) (sgR l)) (hf : l[i]? = some f) : Wi w b (o + i * 1) (sgC f) := by
  obtain ⟨b', o', cs, hA, _, _, h3, h4⟩ := RdR.at (k := 1) (by decide) h (E := rawEl (sgC f)) (i := i) (by simp [sgR, hf])
  obtain rfl : cs = sgC f := h3
  cases hA
  exact h4
theorem clean_any {g gd n0 c0 nx sz b o c e k : Nat} {A0 : Option Addr} {a : List Nat} {d : Dk} {S : BS} {w : World} (h0 : Sat w [.ck (dkC gd d)] S) (hok : DkOk d)
    (hL : ∀ w', Mod S w w' → Ar w' g 90 (lgV gd A0 n0 c0 nx sz)) (hR : ∀ w', Mod S w w' → RdR 1 w' All (some ⟨b, o, none⟩) (sgR (a ++ [k]))) (hk : k < 2 ^ 64) (hl : a.length ≤ 1048576) :
    CallsV Try.prog 55 #[.pointer (some ⟨g, 0, none⟩), .slice (some ⟨b, o, none⟩) (a.length + 1) c, .int .i64 (a.length : Int), .int .i64 (e : Nat)] w fun v w' => v = .int .i64 ((cutD d (nmJ k) (e : Nat)).2 : Nat) ∧ St S w w' [.ck (dkC gd (cutD d (nmJ k) (e : Nat)).1)] := by
  have hs := St.start h0
  have hW : ∀ w', Mod S w w' → Wi w' b (o + a.length * 1) (sgC k) := fun w' m => sg_at (hR w' m) (by simp)
  unfold lgV at hL
  refine calls_in (N := _) Try.func55 rfl Try.ntmps55 rfl ?_; show WC _ _ _ _ _ _
  refine wc_sr ?_; refine wl_as rfl rfl ?_; refine wl_ns ?_; refine wc_seq ?_; refine wc_sr ?_; refine wl_mv rfl rfl ?_; apply wl_val; apply opv_len; exact rfl; exact tkSg.sl; exact rfl; apply wl_val; apply opv_bin; exact rfl; exact rfl; exact bin_sub64 (by omega); exact rfl; refine wl_as rfl rfl ?_; refine wl_ns ?_; refine wc_block ?_
  refine wc_loop (fun L wr m => L = [(0, .pointer (some ⟨g, 0, none⟩)), (1, .slice (some ⟨b, o, none⟩) (a.length + 1) c), (2, .int .i64 (a.length : Int)), (3, .int .i64 (e : Nat)), (9, .int .i64 (((a.length + 1 : Nat) : Int) - 1))] ∧ St S w wr [.ck (dkC gd d)])
    [(0, .pointer (some ⟨g, 0, none⟩)), (1, .slice (some ⟨b, o, none⟩) (a.length + 1) c), (2, .int .i64 (a.length : Int)), (3, .int .i64 (e : Nat)), (9, .int .i64 (((a.length + 1 : Nat) : Int) - 1))] 0 ⟨rfl, hs⟩ ⟨rfl, rfl, rfl, rfl, rfl, trivial⟩ ?_
  clear hs
  rintro _ w1 m ⟨rfl, hs⟩
  refine wc_seq ?_; refine wc_sr ?_; refine wl_mv rfl rfl ?_; refine wl_mv rfl rfl ?_; refine wl_bin rfl rfl bin_gtr rfl ?_; refine wl_ns ?_; apply wc_decF; exact rfl; omega; refine wc_exit ?_; refine we_seq_exit ?_; refine we_loop_exit ?_; refine we_block_exit ?_; refine we_seq ?_; refine wc_seq ?_
  replace hs := hs.below (Below.refl _ _).drew
  refine wc_held (fun w' => Ar w' g 90 [.pointer (some ⟨gd, 0, none⟩), str pfJ, .int .i64 50, .slice A0 n0 c0, .int .u64 (nx : Int), .int .i64 (sz : Int), .bool false] ∧ Wi w' b (o + a.length * 1) (sgC k)) mixed ?_
  have hS := And.intro (hL _ hs.1) (hW _ hs.1)
  apply wh_takeH 0; exact rfl; intro _ hw_; apply opv_move; exact rfl; exact rfl; kernel_rfl; exact hS; apply wh_takeH 1; exact rfl; intro _ hw_; apply opv_nilOk; exact rfl; exact rfl; kernel_rfl; exact hS; apply wh_takeH 2; exact rfl; intro _ hw_; apply opv_fa; exact fa_L0; exact rfl; exact rfl; kernel_rfl; exact hS; apply wh_takeH 3; exact rfl; intro _ hw_; apply opv_fa; exact fa_N0; exact rfl; exact rfl; kernel_rfl; exact hS; apply wh_takeH 4; exact rfl; intro _ hw_; apply opv_ldX; exact rfl; exact hw_.1; exact j1_dp; exact rfl; exact rfl; kernel_rfl; exact hS; apply wh_takeH 5; exact rfl; intro _ hw_; apply opv_move; exact rfl; exact rfl; kernel_rfl; exact hS; apply wh_takeH 6; exact rfl; intro _ hw_; apply opv_move; exact rfl; exact rfl; kernel_rfl; exact hS; apply wh_takeH 7; exact rfl; intro _ hw_; apply opv_move; exact rfl; exact rfl; kernel_rfl; exact hS
  refine wh_takeH 8 rfl (fun _ _ => opv_idxG (kk := a.length) tkSg rfl rfl rfl (by omega)) rfl (by kernel_rfl) hS ?_
  apply wh_takeH 9; exact rfl; intro _ hw_; apply opv_ldG; exact rfl; exact hw_.2; exact sSg; exact rfl; kernel_rfl; exact hS; apply wh_takeH 11; exact rfl; intro _ hw_; apply opv_move; exact rfl; exact rfl; kernel_rfl; exact hS
  clear hS
  refine wh_one 10 (o := ⟨_, _, _, _, _, _⟩) (by kernel_rfl) rfl ?_
  refine wl_call ok_wal_Log_name (name_any (f := k) (hL _ hs.1) hk) ⟨rfl, rfl, trivial⟩ rfl ?_
  rintro _ _ ⟨rfl, hbx⟩
  replace hs := hs.below hbx
  clear hbx
  refine wl_nil ?_
  refine we_held ⟨hL _ hs.1, hW _ hs.1⟩ ?_
  refine wh_one 12 (o := ⟨_, _, _, _, _, _⟩) (by kernel_rfl) rfl ?_
  obtain ⟨S2, hS2, hB2, hM2, hH2, hB⟩ := St.lend (H1 := [_]) (H2 := []) hs
  refine wl_call ok_disk_Disk_Cut (cut_any (n := nmJ k) (k := (e : Nat)) hS2 hok) ⟨rfl, rfl, rfl, trivial⟩ rfl ?_
  rintro _ _ ⟨rfl, hsx⟩
  replace hs := hB _ _ hsx
  clear hsx hB hH2 hM2 hB2 hS2
  dsimp only [List.cons_append, List.nil_append] at hs
  refine wl_nil ?_
  refine we_held ⟨hL _ hs.1, hW _ hs.1⟩ ?_
  refine wh_one 13 (o := ⟨_, _, _, _, _, _⟩) (by kernel_rfl) rfl ?_
  refine wl_as rfl rfl ?_; refine wl_nil ?_
  refine we_held ⟨hL _ hs.1, hW _ hs.1⟩ ?_
  refine wh_done (by kernel_rfl) ?_
  refine we_seq ?_; refine wc_ret ?_
  exact we_ret1 rfl rfl ⟨_, rfl, rfl, hs⟩
end Go.Proofs.Ytdgagffieobiiaa

/-
  Walk over what is read of a log.
-/
namespace Go.Proofs.Ytdgagffieobiiaa
open Go.RowKit
theorem replay_nil {g gd : Nat} {d : Dk} {S : BS} {w : World} (h0 : Sat w [.ck (dkC gd d), .blk g 90 (lgV gd none 0 0 0 0)] S) (hd : d.dead = false) (hfs : d.fs = []) :
    CallsV Try.prog 38 #[.pointer (some ⟨g, 0, none⟩)] w fun v w' => v = .tuple #[.slice none 0 0, .int .i64 0] ∧ St S w w' [.ck (dkC gd d), .blk g 90 (lgV gd none 0 0 0 0)] := by
  have hs := St.start h0
  refine calls_in (N := _) Try.func38 rfl Try.ntmps38 rfl ?_; show WC _ _ _ _ _ _
  refine wc_sr ?_; refine wl_as rfl rfl ?_; refine wl_as rfl rfl ?_; refine wl_ns ?_; refine wc_sr ?_; refine wl_as rfl rfl ?_; refine wl_ns ?_; refine wc_sr ?_; refine wl_mv rfl rfl ?_
  refine wl_call ok_wal_Log_found (found_any (ns := []) (hs.ar 1 rfl) (hs.rdd 0 rfl) hd (by rw [hfs]; simp [sortN]) (by decide) (by simp)) ⟨rfl, trivial⟩ rfl ?_
  rintro _ _ ⟨A, c, rfl, hsx⟩
  replace hs := (hs.call hsx).drop 0 rfl
  clear hsx
  dsimp only [List.cons_append, List.nil_append, delC] at hs
  refine wl_as rfl rfl ?_; refine wl_ns ?_; refine wc_seq ?_; refine wc_sr ?_; refine wl_mv rfl rfl ?_; apply wl_val; apply opv_len; exact rfl; exact tkSg.sl; exact rfl; refine wl_mv rfl rfl ?_; refine wl_ns ?_; refine wc_block ?_
  refine wc_loop (fun L wr m => L = [(4, .slice none 0 0), (14, .slice A 0 c), (15, .int .i64 ((0 : Nat) : Int)), (16, .int .i64 0)] ∧ St S w wr [.ck (dkC gd d), .blk g 90 (lgV gd none 0 0 0 0)])
    [(4, .slice none 0 0), (14, .slice A 0 c), (15, .int .i64 ((0 : Nat) : Int)), (16, .int .i64 0)] 0 ⟨rfl, hs⟩ ⟨rfl, rfl, rfl, rfl, trivial⟩ ?_
  clear hs
  rintro _ w1 m ⟨rfl, hs⟩
  refine wc_sr ?_; refine wl_bin rfl rfl bin_lss rfl ?_; refine wl_ns ?_; refine wc_seq ?_; apply wc_condFb; exact rfl; exact rfl; refine wc_exit ?_; refine we_seq_exit ?_; refine we_loop_exit ?_; refine we_block_exit ?_; refine we_seq ?_; refine wc_sr ?_; refine wl_mv rfl rfl ?_; refine wl_as rfl rfl ?_; refine wl_as rfl rfl ?_; refine wl_ns ?_; refine wc_ret ?_
  exact we_ret2 rfl rfl rfl ⟨_, rfl, rfl, hs⟩
theorem sat_rg {w : World} {H : List Cd} {S : BS} {k : Nat} {e : TypeId} {A : Option Addr} {c : Nat} {els : List El} (h : Sat w H S) (i : Nat) (hi : nthC H i = some (.rg k e A c els)) : RdR k w All A els := by
  obtain ⟨T, _, hc, _⟩ := h.front hi
  exact (hc.2.mono (Nat.le_refl _) fun _ _ _ => trivial : OwR k e w 0 All A c els).rd
theorem len_flat {α : Type} {r : List α} : ∀ {l : List (List α)}, r ∈ l → r.length ≤ l.flatten.length
  | a :: l, h => by
    rw [List.flatten_cons, List.length_append]
    rcases List.mem_cons.1 h with rfl | h
    · omega
    · have := len_flat h; omega
theorem RdW.cells {w : World} {base : Nat} {A : Option Addr} {vs : List Value} {rows : List (List UInt8)} (h : RdW w base A vs rows) : ∀ u ∈ vs, u.oneCell' = true := by
  intro u hu
  obtain ⟨j, hj, rfl⟩ := List.getElem_of_mem hu
  have hl := h.1.1
  obtain ⟨A', c', h1, _⟩ := h.2.2 j (rows[j]'(by omega)) (List.getElem?_eq_getElem _)
  rw [List.getElem?_eq_getElem hj] at h1
  rw [Option.some.inj h1]; rfl
/-- The file of the i-th segment, as it is read. -/
theorem seg_file {d : Dk} {gs : Grps} {x : List UInt8} {part : List (List UInt8)} {e : Nat} (h : JoC d gs x part e) {i : Nat} (hi : i ≤ gs.length) : ∃ (y : List UInt8) (pt : List (List UInt8)) (en : Nat),
    readD d (nmJ (gs.take i).flatten.length) = (y, 0) ∧ openAll y = (pt, en) ∧ en ≤ y.length ∧ y.length ≤ 1099511627776 ∧ pt.length ≤ 30 ∧ (i < gs.length → en = y.length ∧ (gs.take (i + 1)).flatten = (gs.take i).flatten ++ pt) ∧ (i = gs.length → y = x ∧ pt = part ∧ en = e) := by
  have hn : gs.flatten.length < 64 := by have := h.cnt; rw [List.length_append] at this; omega
  have hnd : (d.fs.map (·.1)).Nodup := by rw [h.fs]; exact logF_nd h.ne hn
  have hrd : ∀ (n : List UInt8) (f : Fl), (n, f) ∈ d.fs → readD d n = (f.data, 0) ∧ f.data.length ≤ 1099511627776 := fun n f hm => by
    have hg := getF_of_mem hnd hm
    have ht : thereD d n = 0 := by unfold thereD; rw [hg]; rfl
    have hu := h.ok.used
    have hr := h.ok.room
    have hl := getF_le hg
    refine ⟨?_, by omega⟩
    unfold readD fileD
    rw [if_neg (by rw [h.alive]; decide), if_neg (by rw [ht]; decide), hg]; rfl
  rcases Nat.lt_or_ge i gs.length with hlt | hge
  · obtain ⟨f, _, h2, h3⟩ := closF_at (k := 0) (List.getElem?_eq_getElem hlt)
    rw [Nat.zero_add] at h3
    have hm : (nmJ f, (⟨recs gs[i], (recs gs[i]).length⟩ : Fl)) ∈ d.fs := by rw [h.fs]; exact List.mem_append_left _ h2
    obtain ⟨h4, h5⟩ := hrd _ _ hm
    rw [h3] at h4
    have hx : ∀ z ∈ gs[i], z.length ≤ 1048576 := fun z hz => by have := h.each z (List.mem_append_left _ (List.mem_flatten.2 ⟨_, List.getElem_mem hlt, hz⟩)); omega
    have hc : gs[i].length ≤ 30 := by
      have h6 := h.cnt
      have := len_flat (List.getElem_mem hlt)
      rw [List.length_append] at h6; omega
    exact ⟨_, _, _, h4, openAll_recs hx, Nat.le_refl _, h5, hc, fun _ => ⟨rfl, by rw [List.take_add_one, List.getElem?_eq_getElem hlt]; simp only [Option.toList, List.flatten_append, List.flatten_cons, List.flatten_nil, List.append_nil]⟩, fun h => absurd h (by omega)⟩
  · obtain rfl : i = gs.length := by omega
    have hm : (nmJ gs.flatten.length, (⟨x, x.length⟩ : Fl)) ∈ d.fs := by rw [h.fs]; exact List.mem_append_right _ (List.mem_singleton.2 rfl)
    obtain ⟨h4, h5⟩ := hrd _ _ hm
    rw [List.take_length]
    exact ⟨x, part, e, h4, h.op, h.le, h5, by have := h.cnt; rw [List.length_append] at this; omega, fun h => absurd h (by omega), fun _ => ⟨rfl, rfl, rfl⟩⟩
theorem replay_log {g gd : Nat} {d : Dk} {gs : Grps} {x : List UInt8} {part : List (List UInt8)} {e : Nat} {S : BS} {w : World} (h0 : Sat w [.ck (dkC gd d), .blk g 90 (lgV gd none 0 0 0 0)] S) (hC : JoC d gs x part e) :
    CallsV Try.prog 38 #[.pointer (some ⟨g, 0, none⟩)] w fun v w' => ∃ (R : Option Addr) (cr : Nat) (vs : List Value), v = .tuple #[.slice R (gs.flatten ++ part).length cr, .int .i64 0] ∧
      St S w w' [.ck (dkC gd (cutL d gs x e)), .ow 30 R (gs.flatten ++ part).length cr vs, .ck (kp (EK vs (gs.flatten ++ part)))] := by
  have hs := St.start h0
  clear h0
  have hmax : maxLen = 9223372036854775807 := rfl
  have hcnt := hC.cnt
  rw [List.length_append] at hcnt
  have hn : gs.flatten.length < 64 := by omega
  have hgl : gs.length ≤ 64 := by
    have : gs.length ≤ gs.flatten.length := by
      have hg := hC.ne
      clear hcnt hC hn hs
      induction gs with
      | nil => exact Nat.le_refl _
      | cons a gs ih =>
        have h1 := ih fun y hy => hg y (List.mem_cons_of_mem _ hy)
        have h2 : 0 < a.length := List.length_pos_iff.2 (hg a List.mem_cons_self)
        rw [List.flatten_cons, List.length_append, List.length_cons]; omega
    omega
  have hall := firsts_all hC.ne hn
  have hal : (firsts 0 gs ++ [gs.flatten.length]).length = gs.length + 1 := by simp [firsts_len]
  have hcut := hC.cut
  refine calls_in (N := _) Try.func38 rfl Try.ntmps38 rfl ?_; show WC _ _ _ _ _ _
  refine wc_sr ?_; refine wl_as rfl rfl ?_; refine wl_as rfl rfl ?_; refine wl_ns ?_; refine wc_sr ?_; refine wl_as rfl rfl ?_; refine wl_ns ?_; refine wc_sr ?_; refine wl_mv rfl rfl ?_
  refine wl_call ok_wal_Log_found (found_any (ns := (firsts 0 gs ++ [gs.flatten.length])) (hs.ar 1 rfl) (hs.rdd 0 rfl) hC.alive (by rw [hC.fs]; exact logF_sort hC.ne hn) (by omega) (fun f hf => by have := hall.2 f hf; omega)) ⟨rfl, trivial⟩ rfl ?_
  rintro _ _ ⟨A, c, rfl, hsx⟩
  replace hs := hs.call hsx
  clear hsx
  dsimp only [List.cons_append, List.nil_append] at hs
  obtain ⟨b, o, rfl, _⟩ := rdr_last (hs.rg 0 rfl).rd
  unfold lgV at hs
  rw [hal]
  refine wl_as rfl rfl ?_; refine wl_ns ?_; refine wc_seq ?_; refine wc_sr ?_; refine wl_mv rfl rfl ?_; apply wl_val; apply opv_len; exact rfl; exact tkSg.sl; exact rfl; refine wl_mv rfl rfl ?_; refine wl_ns ?_; refine wc_block ?_
  replace hs := ((hs.nilG 1 100).kpNil (K := EK [] []) fun _ => EK.nil).nilO 30
  replace hs := ((((((hs.front 1 rfl).front 1 rfl).front 3 rfl).front 3 rfl).front 5 rfl).front 5 rfl)
  dsimp only [delC] at hs
  refine wc_loop (fun L wr m => ∃ (i sz : Nat) (R : Option Addr) (cr : Nat) (vs : List Value) (A1 : Option Addr) (c1 : Nat), L = [(0, .pointer (some ⟨g, 0, none⟩)), (4, .slice R ((gs.take i).flatten).length cr), (5, .slice (some ⟨b, o, none⟩) (gs.length + 1) c), (14, .slice (some ⟨b, o, none⟩) (gs.length + 1) c), (15, .int .i64 ((gs.length + 1 : Nat) : Int)), (16, .int .i64 (i : Int))] ∧ i ≤ gs.length ∧ St S w wr [.ck (dkC gd d), .blk g 90 [.pointer (some ⟨gd, 0, none⟩), str pfJ, .int .i64 50, .slice A1 (i) c1, .int .u64 ((((gs.take (i)).flatten.length) : Nat) : Int), .int .i64 ((sz : Nat) : Int), .bool false], .rg 1 100 A1 c1 (sgR ((firsts 0 gs ++ [gs.flatten.length]).take (i))), .rg 1 100 (some ⟨b, o, none⟩) c (sgR (firsts 0 gs ++ [gs.flatten.length])), .ow 30 R ((gs.take i).flatten).length cr vs, .ck (kp (EK vs ((gs.take i).flatten)))] ∧ m = gs.length + 1 - i ∨
      (L = [(0, .pointer (some ⟨g, 0, none⟩)), (4, .slice R (gs.flatten ++ part).length cr), (5, .slice (some ⟨b, o, none⟩) (gs.length + 1) c), (14, .slice (some ⟨b, o, none⟩) (gs.length + 1) c), (15, .int .i64 ((gs.length + 1 : Nat) : Int)), (16, .int .i64 ((gs.length + 1 : Nat) : Int))] ∧ St S w wr [.ck (dkC gd d), .ow 30 R (gs.flatten ++ part).length cr vs, .ck (kp (EK vs (gs.flatten ++ part)))] ∧ ¬ e < x.length ∧ m = 0))
    [(0, .pointer (some ⟨g, 0, none⟩)), (4, .slice none 0 0), (5, .slice (some ⟨b, o, none⟩) (gs.length + 1) c), (14, .slice (some ⟨b, o, none⟩) (gs.length + 1) c), (15, .int .i64 ((gs.length + 1 : Nat) : Int)), (16, .int .i64 ((0 : Nat) : Int))] (gs.length + 1) ⟨0, 0, none, 0, [], none, 0, .inl ⟨rfl, Nat.zero_le _, hs, rfl⟩⟩ ⟨rfl, rfl, rfl, rfl, rfl, rfl, trivial⟩ ?_
  clear hs
  rintro _ w5 m ⟨i, sz, R, cr, vs, A1, c1, ⟨rfl, hi, hs, rfl⟩ | ⟨rfl, hs, hex, rfl⟩⟩
  rotate_left
  · have hn1 : ¬ ((gs.length + 1 : Nat) : Int) < ((gs.length + 1 : Nat) : Int) := by omega
    refine wc_sr ?_; refine wl_bin rfl rfl bin_lss rfl ?_; refine wl_ns ?_; refine wc_seq ?_; apply wc_decF; exact rfl; (with_reducible assumption); refine wc_exit ?_; refine we_seq_exit ?_; refine we_loop_exit ?_; refine we_block_exit ?_; refine we_seq ?_; refine wc_sr ?_; refine wl_mv rfl rfl ?_; refine wl_as rfl rfl ?_; refine wl_as rfl rfl ?_; refine wl_ns ?_; refine wc_ret ?_
    refine we_ret2 rfl rfl rfl ⟨_, rfl, R, cr, vs, rfl, ?_⟩
    rw [show cutL d gs x e = d from if_neg hex]
    exact hs
  have hi1 : (i : Int) < ((gs.length + 1 : Nat) : Int) := by omega
  obtain ⟨y, pt, en, hrd, hop, hen, hyl, hpl, hlo, hla⟩ := seg_file hC hi
  have hfi := all_at hi
  obtain ⟨f, hf⟩ : ∃ f, (gs.take i).flatten.length = f := ⟨_, rfl⟩
  rw [hf] at hrd hfi
  have hf64 : f < 64 := hall.2 f (List.mem_of_getElem? hfi)
  have hrows : (gs.take i).flatten.length ≤ 64 := by omega
  have hWi := sg_at (hs.rg 3 rfl).rd hfi
  unfold sgC at hWi
  refine wc_sr ?_; refine wl_bin rfl rfl bin_lss rfl ?_; refine wl_ns ?_; refine wc_seq ?_; apply wc_decT; exact rfl; (with_reducible assumption); refine wc_skip ?_; refine we_seq ?_; refine wc_seq ?_; refine wc_block ?_; refine wc_sr ?_; refine wl_mv rfl rfl ?_; apply wl_val; apply opv_idxG tkSg; exact rfl; exact rfl; exact rfl; omega; exact rfl; apply wl_val; apply opv_ldG; exact rfl; assumption; exact sSg; exact rfl
  refine ws_new hs zeroSg rfl ?_; clear hs; intro g7 _ hs
  unfold zSg at hs
  clear hWi
  refine wl_as rfl rfl ?_; apply ws_stS hs 0; exact rfl; exact rfl; exact rfl; exact sSg; exact rfl; exact rfl; clear hs; intro _ hs; dsimp only [setC] at hs; refine wl_ns ?_; refine wc_seq ?_
  -- the file is read
  refine wc_cutE (fun L w' => ∃ (Y : Option Addr) (cy : Nat), L = [(0, .pointer (some ⟨g, 0, none⟩)), (4, .slice R ((gs.take i).flatten).length cr), (5, .slice (some ⟨b, o, none⟩) (gs.length + 1) c), (14, .slice (some ⟨b, o, none⟩) (gs.length + 1) c), (15, .int .i64 ((gs.length + 1 : Nat) : Int)), (16, .int .i64 (i : Int)), (6, .int .i64 (i : Int)), (7, .pointer (some ⟨g7, 0, none⟩)), (8, .slice Y y.length cy), (9, .int .i64 0)] ∧ y.length ≤ cy ∧ St S w w' (.ow 5 Y y.length cy (bvs y) :: .blk g7 100 [.int .u64 (f : Int)] :: [.ck (dkC gd d), .blk g 90 [.pointer (some ⟨gd, 0, none⟩), str pfJ, .int .i64 50, .slice A1 (i) c1, .int .u64 ((((gs.take (i)).flatten.length) : Nat) : Int), .int .i64 ((sz : Nat) : Int), .bool false], .rg 1 100 A1 c1 (sgR ((firsts 0 gs ++ [gs.flatten.length]).take (i))), .rg 1 100 (some ⟨b, o, none⟩) c (sgR (firsts 0 gs ++ [gs.flatten.length])), .ow 30 R ((gs.take i).flatten).length cr vs, .ck (kp (EK vs ((gs.take i).flatten)))])) ?_ ?_
  · replace hs := hs.below (Below.refl _ _).drew
    refine wc_held (fun w' => Ar w' g 90 [.pointer (some ⟨gd, 0, none⟩), str pfJ, .int .i64 50, .slice A1 (i) c1, .int .u64 (((gs.take i).flatten.length : Nat) : Int), .int .i64 ((sz : Nat) : Int), .bool false] ∧ Ar w' g7 100 [.int .u64 (f : Int)]) mixed ?_
    have hS := And.intro (hs.ar 2 rfl) (hs.ar 0 rfl)
    apply wh_takeH 0; exact rfl; intro _ hw_; apply opv_move; exact rfl; exact rfl; kernel_rfl; exact hS; apply wh_takeH 1; exact rfl; intro _ hw_; apply opv_nilOk; exact rfl; exact rfl; kernel_rfl; exact hS; apply wh_takeH 2; exact rfl; intro _ hw_; apply opv_fa; exact fa_L0; exact rfl; exact rfl; kernel_rfl; exact hS; apply wh_takeH 3; exact rfl; intro _ hw_; apply opv_fa; exact fa_N0; exact rfl; exact rfl; kernel_rfl; exact hS; apply wh_takeH 4; exact rfl; intro _ hw_; apply opv_ldX; exact rfl; exact hw_.1; exact j1_dp; exact rfl; exact rfl; kernel_rfl; exact hS; apply wh_takeH 5; exact rfl; intro _ hw_; apply opv_move; exact rfl; exact rfl; kernel_rfl; exact hS; apply wh_takeH 6; exact rfl; intro _ hw_; apply opv_loadX; exact rfl; exact hw_.2; exact sSg; exact rfl; kernel_rfl; exact hS
    clear hS
    refine wh_one 7 (o := ⟨_, _, _, _, _, _⟩) (by kernel_rfl) rfl ?_
    refine wl_call ok_wal_Log_name (name_any (f := f) (hs.ar 2 rfl) (by omega)) ⟨rfl, rfl, trivial⟩ rfl ?_
    rintro _ _ ⟨rfl, hbx⟩
    replace hs := hs.below hbx
    clear hbx
    refine wl_nil ?_
    refine we_held ⟨hs.ar 2 rfl, hs.ar 0 rfl⟩ ?_
    refine wh_one 8 (o := ⟨_, _, _, _, _, _⟩) (by kernel_rfl) rfl ?_
    have hcall := read_any (n := nmJ f) (hs.rdd 1 rfl) hC.ok
    rw [hrd] at hcall
    refine wl_call ok_disk_Disk_Read hcall ⟨rfl, rfl, trivial⟩ rfl ?_
    clear hcall
    rintro _ _ ⟨Y, cy, rfl, o_, hbx⟩
    have hcy := o_.cap
    replace hs := hs.newO hbx o_ (Nat.le_refl _)
    clear hbx o_
    dsimp only at hs hcy
    refine wl_nil ?_
    refine we_held ⟨hs.ar 3 rfl, hs.ar 1 rfl⟩ ?_
    have hS := And.intro (hs.ar 3 rfl) (hs.ar 1 rfl)
    apply wh_takeH 9; exact rfl; intro _ hw_; apply opv_move; exact rfl; exact rfl; kernel_rfl; exact hS; apply wh_takeH 10; exact rfl; intro _ hw_; apply opv_extract; exact rfl; exact rfl; exact rfl; kernel_rfl; exact hS; apply wh_takeH 11; exact rfl; intro _ hw_; apply opv_extract; exact rfl; exact rfl; exact rfl; kernel_rfl; exact hS; apply wh_takeH 12; exact rfl; intro _ hw_; apply opv_assign; exact rfl; exact rfl; kernel_rfl; exact hS; apply wh_takeH 13; exact rfl; intro _ hw_; apply opv_assign; exact rfl; exact rfl; kernel_rfl; exact hS
    clear hS
    refine wh_done (by kernel_rfl) ?_
    exact we_cut _ ⟨Y, cy, rfl, hcy, hs⟩ ⟨rfl, rfl, rfl, rfl, rfl, rfl, rfl, rfl, rfl, rfl, trivial⟩
  clear hs
  rintro _ w6 ⟨Y, cy, rfl, hcy, hs⟩
  refine we_seq ?_; refine wc_seq ?_; refine wc_sr ?_; refine wl_mv rfl rfl ?_; refine wl_bin rfl rfl bin_neq rfl ?_; refine wl_ns ?_; apply wc_condFb; exact rfl; exact rfl; refine wc_skip ?_; refine we_seq ?_; refine wc_sr ?_; refine wl_mv rfl rfl ?_
  have hcall := openAll_any (hs.ow 0 rfl).rd rfl hcy hyl
  rw [hop] at hcall
  refine wl_call ok_crc_OpenAll hcall ⟨rfl, trivial⟩ rfl ?_
  clear hcall
  rintro _ _ ⟨Q, cq, rfl, o_, hbx⟩
  obtain ⟨vq, hvq⟩ := RdW.of o_
  replace hs := hs.kpNew (K := fun w' => RdW w' w6.heap.size Q vq pt) hbx hvq fun w'' hz hm => hvq.keep hz hm
  clear hbx o_ hvq
  dsimp only
  refine wl_mv rfl rfl ?_; apply wl_val; apply opv_extract; exact rfl; exact rfl; exact rfl; apply wl_val; apply opv_extract; exact rfl; exact rfl; exact rfl; refine wl_as rfl rfl ?_; refine wl_as rfl rfl ?_; refine wl_ns ?_; refine wc_sr ?_; refine wl_mv rfl rfl ?_; refine wl_mv rfl rfl ?_
  refine ws_app (m := pt.length) (ys := vq) hs 7 rfl rfl tyBB rfl (hs.kp 0 rfl).1 (hs.kp 0 rfl).cells (by omega) (by omega) rfl ?_
  clear hs; intro R2 cr2 w7 hs; dsimp only [setC] at hs
  replace hs := hs.front 8 rfl
  dsimp only [delC] at hs
  replace hs := hs.kpAnd
  replace hs := hs.kpMono (K' := EK (vs ++ vq) ((gs.take i).flatten ++ pt)) fun w h => h.1.app h.2.ek
  rw [← List.length_append] at hs ⊢
  refine wl_as rfl rfl ?_; refine wl_ns ?_; refine wc_seq ?_
  have htk : (firsts 0 gs ++ [gs.flatten.length]).take (i + 1) = (firsts 0 gs ++ [gs.flatten.length]).take i ++ [f] := by rw [List.take_add_one, hfi]; rfl
  have hw : IntKind.u64.wrap ((f : Int) + (pt.length : Int)) = ((f + pt.length : Nat) : Int) := by rw [IntWalk.u64_in _ (by omega)]; omega
  replace hs := (((((((hs.front 7 rfl).front 7 rfl).front 7 rfl).front 7 rfl).front 7 rfl).front 7 rfl).drop 7 rfl)
  dsimp only [delC] at hs
  refine wc_cutE (fun L w' => ∃ (A2 : Option Addr) (c2 : Nat), L = [(0, .pointer (some ⟨g, 0, none⟩)), (4, .slice R2 ((gs.take i).flatten ++ pt).length cr2), (5, .slice (some ⟨b, o, none⟩) (gs.length + 1) c), (14, .slice (some ⟨b, o, none⟩) (gs.length + 1) c), (15, .int .i64 ((gs.length + 1 : Nat) : Int)), (16, .int .i64 (i : Int)), (6, .int .i64 (i : Int)), (7, .pointer (some ⟨g7, 0, none⟩)), (8, .slice Y y.length cy), (10, .slice Q pt.length cq), (11, .int .i64 (en : Int))] ∧
      St S w w' [.blk g7 100 [.int .u64 (f : Int)], .ck (dkC gd d), .blk g 90 [.pointer (some ⟨gd, 0, none⟩), str pfJ, .int .i64 50, .slice A2 (i + 1) c2, .int .u64 (((gs.take i).flatten.length : Nat) : Int), .int .i64 ((sz : Nat) : Int), .bool false], .rg 1 100 A2 c2 (sgR ((firsts 0 gs ++ [gs.flatten.length]).take (i + 1))), .rg 1 100 (some ⟨b, o, none⟩) c (sgR (firsts 0 gs ++ [gs.flatten.length])), .ow 30 R2 ((gs.take i).flatten ++ pt).length cr2 (vs ++ vq), .ck (kp (EK (vs ++ vq) ((gs.take i).flatten ++ pt)))]) ?_ ?_
  · refine wc_heldG (fun w' => Ar w' g 90 [.pointer (some ⟨gd, 0, none⟩), str pfJ, .int .i64 50, .slice A1 (i) c1, .int .u64 (((gs.take i).flatten.length : Nat) : Int), .int .i64 ((sz : Nat) : Int), .bool false] ∧ Ar w' g7 100 [.int .u64 (f : Int)]) 10 mixed ?_
    replace hs := hs.below (Below.refl _ _).drew
    have hS := And.intro (hs.ar 2 rfl) (hs.ar 0 rfl)
    apply wm_take 0; exact rfl; intro _ hw_; apply opv_move; exact rfl; exact rfl; kernel_rfl; exact hS; apply wm_take 1; exact rfl; intro _ hw_; apply opv_move; exact rfl; exact rfl; kernel_rfl; exact hS; apply wm_take 2; exact rfl; intro _ hw_; apply opv_nilOk; exact rfl; exact rfl; kernel_rfl; exact hS; apply wm_take 3; exact rfl; intro _ hw_; apply opv_fa; exact fa_L2; exact rfl; exact rfl; kernel_rfl; exact hS; apply wm_take 4; exact rfl; intro _ hw_; apply opv_ldX; exact rfl; exact hw_.1; exact j1_sgs; exact rfl; exact rfl; kernel_rfl; exact hS; apply wm_take 5; exact rfl; intro _ hw_; apply opv_loadX; exact rfl; exact hw_.2; exact sSg; exact rfl; kernel_rfl; exact hS
    clear hS
    refine wm_one 6 (by kernel_rfl) rfl ?_; dsimp only [List.getElem_toArray, List.getElem_cons_succ, List.getElem_cons_zero]
    refine ws_bsR (cs := sgC f) hs tkSg ⟨_, rfl, rfl⟩ rfl (by decide) rfl ?_
    clear hs; intro B3 _ hs
    refine wl_nil ?_
    refine we_heldM (fun _ => ⟨hs.ar 3 rfl, hs.ar 1 rfl⟩) ?_
    refine wm_one 7 (by kernel_rfl) rfl ?_; dsimp only [List.getElem_toArray, List.getElem_cons_succ, List.getElem_cons_zero]
    refine ws_appR (css := [sgC f]) hs 4 rfl rfl tkSg (by rw [sgR_len, List.length_take, hal]; omega) rfl (hs.rg 0 rfl).rd rfl (by simp [sgC, Value.oneCell']) (by omega) (by omega) rfl ?_
    clear hs; intro A2 c2 _ hs; dsimp only [setC] at hs
    rw [show [sgC f].map rawEl = [rawEl (sgC f)] from rfl, sgR_snoc, ← htk] at hs
    refine wl_nil ?_
    refine we_heldM (fun _ => ⟨hs.ar 3 rfl, hs.ar 1 rfl⟩) ?_
    refine wm_one 8 (by kernel_rfl) rfl ?_; dsimp only [List.getElem_toArray, List.getElem_cons_succ, List.getElem_cons_zero]
    apply wl_val; apply opv_nilOk; exact rfl; exact rfl; refine wl_nil ?_
    refine we_heldM (fun _ => ⟨hs.ar 3 rfl, hs.ar 1 rfl⟩) ?_
    refine wm_one 9 (by kernel_rfl) rfl ?_; dsimp only [List.getElem_toArray, List.getElem_cons_succ, List.getElem_cons_zero]
    apply wl_val; apply opv_fa; exact fa_L2; exact rfl; exact rfl; refine wl_nil ?_
    refine we_heldM (fun _ => ⟨hs.ar 3 rfl, hs.ar 1 rfl⟩) ?_
    refine wm_one 10 (by kernel_rfl) rfl ?_; dsimp only [List.getElem_toArray, List.getElem_cons_succ, List.getElem_cons_zero]
    apply ws_st hs 3; exact rfl; exact rfl; exact j1_sgs; exact rfl; exact rfl; exact rfl; clear hs; intro _ hs; dsimp only [setC, List.set] at hs; refine wl_nil ?_
    refine we_heldM (fun h => absurd h (by decide)) ?_
    refine wm_done (by kernel_rfl) ?_
    exact we_cut _ ⟨A2, c2, rfl, hs.drop 0 rfl⟩ ⟨rfl, rfl, rfl, rfl, rfl, rfl, rfl, rfl, rfl, rfl, rfl, trivial⟩
  clear hs
  rintro _ w8 ⟨A2, c2, rfl, hs⟩
  refine we_seq ?_; refine wc_sr ?_; refine wl_mv rfl rfl ?_; refine wl_mv rfl rfl ?_; apply wl_val; apply opv_fa; exact fa_S0; exact rfl; exact rfl; apply wl_val; apply opv_ldX; exact rfl; exact hs.ar 0 rfl; exact j1_u64; exact rfl; exact rfl; refine wl_mv rfl rfl ?_; apply wl_val; apply opv_len; exact rfl; exact tyBB.sl; exact rfl; apply wl_val; apply opv_convR; exact rfl; exact Try.underlying3; exact Try.underlying47; exact IntWalk.u64_in _ (by omega); exact rfl
  refine wl_bin rfl rfl (bin_add.to (congrArg (Value.int .u64) hw)) rfl ?_
  refine wl_mv rfl rfl ?_; apply wl_val; apply opv_nilOk; exact rfl; exact rfl; apply wl_val; apply opv_fa; exact fa_L3; exact rfl; exact rfl; apply ws_st hs 2; exact rfl; exact rfl; exact j1_u64; exact rfl; exact rfl; exact rfl; clear hs; intro _ hs; dsimp only [setC, List.set] at hs; apply wl_val; apply opv_nilOk; exact rfl; exact rfl; apply wl_val; apply opv_fa; exact fa_L4; exact rfl; exact rfl; apply ws_st hs 2; exact rfl; exact rfl; exact d1_int; exact rfl; exact rfl; exact rfl; clear hs; intro _ hs; dsimp only [setC, List.set] at hs; refine wl_ns ?_; refine wc_seq ?_
  rcases Nat.lt_or_ge i gs.length with hlt | hge
  · obtain ⟨hene, htkf⟩ := hlo hlt
    have hW1 := sg_at (hs.rg 4 rfl).rd (all_at (show i + 1 ≤ gs.length by omega))
    rw [htkf, List.length_append, hf] at hW1
    unfold sgC at hW1
    have hn1 : ¬ (en : Int) < (y.length : Int) := by omega
    have hn2 : (i : Int) + 1 < ((gs.length + 1 : Nat) : Int) := by omega
    have a1 := hs.ar 2 rfl
    refine wc_drawB mixed (by kernel_rfl) ?_
    try dsimp only [List.append]
    apply wq_val; intro _ hw_; apply opv_move; exact rfl; exact rfl; apply wq_val; intro _ hw_; apply opv_move; exact rfl; exact rfl; apply wq_val; intro _ hw_; apply opv_len; exact rfl; exact tyB.sl; exact rfl; apply wq_val; intro _ hw_; apply opv_bin; exact rfl; exact rfl; exact bin_lss; exact rfl; apply wq_val; intro _ hw_; apply opv_move; exact rfl; exact rfl; apply wq_take; exact rfl; exact rfl; exact rfl; refine bF ?_; (with_reducible assumption); apply wq_val; intro _ hw_; apply opv_move; exact rfl; exact rfl; apply wq_take; exact rfl; exact rfl; exact rfl; refine bF ?_; (with_reducible assumption); apply wq_val; intro _ hw_; apply opv_bin; exact rfl; exact rfl; exact bin_add64 (by omega); exact rfl; apply wq_take; exact rfl; exact rfl; exact rfl; refine bF ?_; (with_reducible assumption); apply wq_val; intro _ hw_; apply opv_move; exact rfl; exact rfl; apply wq_take; exact rfl; exact rfl; exact rfl; refine bF ?_; (with_reducible assumption); apply wq_val; intro _ hw_; apply opv_len; exact rfl; exact tkSg.sl; exact rfl; apply wq_take; exact rfl; exact rfl; exact rfl; refine bF ?_; (with_reducible assumption); apply wq_val; intro _ hw_; apply opv_bin; exact rfl; exact rfl; exact bin_lss; exact rfl; apply wq_take; exact rfl; exact rfl; exact rfl; refine bF ?_; (with_reducible assumption); apply wq_val; intro _ hw_; apply opv_move; exact rfl; exact rfl; apply wq_take; exact rfl; exact rfl; exact rfl; refine bT ?_; (with_reducible assumption); apply wq_val; intro _ hw_; apply opv_move; exact rfl; exact rfl; apply wq_take; exact rfl; exact rfl; exact rfl; refine bT ?_; (with_reducible assumption); apply wq_val; intro _ hw_; apply opv_move; exact rfl; exact rfl; apply wq_take; exact rfl; exact rfl; exact rfl; refine bT ?_; (with_reducible assumption); apply wq_val; intro _ hw_; apply opv_bin; exact rfl; exact rfl; exact bin_add64 (by omega); exact rfl; apply wq_take; exact rfl; exact rfl; exact rfl; refine bT ?_; (with_reducible assumption); apply wq_val; intro _ hw_; apply opv_idxG (kk := i + 1) tkSg; exact rfl; exact rfl; exact rfl; omega; exact rfl; apply wq_take; exact rfl; exact rfl; exact rfl; refine bT ?_; (with_reducible assumption); apply wq_val; intro _ hw_; apply opv_fa; exact fa_S0; exact rfl; exact rfl; apply wq_take; exact rfl; exact rfl; exact rfl; refine bT ?_; (with_reducible assumption); apply wq_val; intro _ hw_; apply opv_ldW; exact rfl; exact Wi.below (by assumption) hw_; exact j1_u64; exact rfl; exact rfl; apply wq_take; exact rfl; exact rfl; exact rfl; refine bT ?_; (with_reducible assumption); apply wq_val; intro _ hw_; apply opv_move; exact rfl; exact rfl; apply wq_take; exact rfl; exact rfl; exact rfl; refine bT ?_; (with_reducible assumption); apply wq_val; intro _ hw_; apply opv_nilOk; exact rfl; exact rfl; apply wq_take; exact rfl; exact rfl; exact rfl; refine bT ?_; (with_reducible assumption); apply wq_val; intro _ hw_; apply opv_fa; exact fa_L3; exact rfl; exact rfl; apply wq_take; exact rfl; exact rfl; exact rfl; refine bT ?_; (with_reducible assumption); apply wq_val; intro _ hw_; apply opv_ldX; exact rfl; exact Ar.bel (by assumption) hw_; exact j1_u64; exact rfl; exact rfl; apply wq_take; exact rfl; exact rfl; exact rfl; refine bT ?_; (with_reducible assumption); apply wq_val; intro _ hw_; apply opv_bin; exact rfl; exact rfl; exact bin_neq; exact rfl; apply wq_take; exact rfl; exact rfl; exact rfl; refine bF ?_; (with_reducible assumption); apply wq_val; intro _ hw_; apply opv_pickT; exact rfl; refine bT ?_; (with_reducible assumption); exact rfl; exact rfl; apply wq_val; intro _ hw_; apply opv_pickF; exact rfl; refine bF ?_; (with_reducible assumption); exact rfl; exact rfl; refine wq_nil fun w1 hw1 => ?_
    refine we_seq ?_; apply wc_decF; exact rfl; (with_reducible exact nne); refine wc_skip ?_; refine we_block_norm ?_; refine we_seq ?_; refine wc_region ?_; apply wl_val; apply opv_bin; exact rfl; exact rfl; exact bin_add64 (by omega); exact rfl; refine wl_mv rfl rfl ?_; refine wl_nil ?_
    rw [← htkf] at hs ⊢
    replace hs := hs.below hw1
    rw [show f + pt.length = (gs.take (i + 1)).flatten.length by rw [htkf, List.length_append, hf]] at hs
    exact we_loop _ (gs.length + 1 - (i + 1)) ⟨i + 1, en, R2, cr2, vs ++ vq, A2, c2, .inl ⟨rfl, by omega, (((((((hs.front 6 rfl).front 6 rfl).front 6 rfl).front 6 rfl).front 6 rfl).front 6 rfl).drop 6 rfl), rfl⟩⟩ (by omega) ⟨rfl, rfl, rfl, rfl, rfl, by rw [show ((i + 1 : Nat) : Int) = (i : Int) + 1 by omega]; rfl, trivial⟩
  · obtain rfl : i = gs.length := by omega
    obtain ⟨rfl, rfl, rfl⟩ := hla rfl
    rw [List.take_length] at hs ⊢
    by_cases hex : en < y.length
    · have hex' : (en : Int) < (y.length : Int) := by omega
      have a1 := hs.ar 2 rfl
      refine wc_drawB mixed (by kernel_rfl) ?_
      try dsimp only [List.append]
      apply wq_val; intro _ hw_; apply opv_move; exact rfl; exact rfl; apply wq_val; intro _ hw_; apply opv_move; exact rfl; exact rfl; apply wq_val; intro _ hw_; apply opv_len; exact rfl; exact tyB.sl; exact rfl; apply wq_val; intro _ hw_; apply opv_bin; exact rfl; exact rfl; exact bin_lss; exact rfl; apply wq_val; intro _ hw_; apply opv_move; exact rfl; exact rfl; apply wq_skip; exact rfl; exact rfl; exact rfl; refine bTn ?_; (with_reducible assumption); exact rfl; apply wq_skip; exact rfl; exact rfl; exact rfl; refine bTn ?_; (with_reducible assumption); exact rfl; apply wq_skip; exact rfl; exact rfl; exact rfl; refine bTn ?_; (with_reducible assumption); exact rfl; apply wq_skip; exact rfl; exact rfl; exact rfl; refine bTn ?_; (with_reducible assumption); exact rfl; apply wq_skip; exact rfl; exact rfl; exact rfl; refine bTn ?_; (with_reducible assumption); exact rfl; apply wq_skip; exact rfl; exact rfl; exact rfl; refine bTn ?_; (with_reducible assumption); exact rfl; apply wq_skipU; exact rfl; exact rfl; exact rfl; exact rfl; apply wq_skipU; exact rfl; exact rfl; exact rfl; exact rfl; apply wq_skipU; exact rfl; exact rfl; exact rfl; exact rfl; apply wq_skipU; exact rfl; exact rfl; exact rfl; exact rfl; apply wq_skipU; exact rfl; exact rfl; exact rfl; exact rfl; apply wq_skipU; exact rfl; exact rfl; exact rfl; exact rfl; apply wq_skipU; exact rfl; exact rfl; exact rfl; exact rfl; apply wq_skipU; exact rfl; exact rfl; exact rfl; exact rfl; apply wq_skipU; exact rfl; exact rfl; exact rfl; exact rfl; apply wq_skipU; exact rfl; exact rfl; exact rfl; exact rfl; apply wq_skipU; exact rfl; exact rfl; exact rfl; exact rfl; apply wq_skip; exact rfl; exact rfl; exact rfl; refine bTn ?_; (with_reducible assumption); exact rfl; apply wq_val; intro _ hw_; apply opv_pickT; exact rfl; refine bT ?_; (with_reducible assumption); exact rfl; exact rfl; refine wq_nil fun w1 hw1 => ?_
      clear a1
      refine we_seq ?_; apply wc_condTb; exact rfl; exact rfl; refine wc_sr ?_; refine wl_mv rfl rfl ?_; refine wl_mv rfl rfl ?_; refine wl_mv rfl rfl ?_; refine wl_mv rfl rfl ?_; refine wl_mv rfl rfl ?_
      replace hs := hs.below hw1
      replace hs := hs.front 1 rfl
      dsimp only [delC] at hs
      obtain ⟨S2, hS2, hB2, hM2, hH2, hB⟩ := St.lend (H1 := [_]) (H2 := [_, _, _, _, _, _]) hs
      have hcall := clean_any (a := firsts 0 gs) (k := gs.flatten.length) (e := en) (c := c) hS2 hC.ok (fun w' k => sat_ar (hH2 w' k) 1 rfl) (fun w' k => sat_rg (hH2 w' k) 3 rfl) (by omega) (by rw [firsts_len]; omega)
      rw [firsts_len, hcut.1] at hcall
      refine wl_call ok_wal_Log_clean hcall ⟨rfl, rfl, rfl, rfl, trivial⟩ rfl ?_
      clear hcall
      rintro _ _ ⟨rfl, hsx⟩
      replace hs := hB _ _ hsx
      clear hsx hB hH2 hM2 hB2 hS2
      dsimp only [List.cons_append, List.nil_append] at hs
      refine wl_as rfl rfl ?_; refine wl_as rfl rfl ?_; refine wl_ns ?_; refine wc_ret ?_; refine we_block_ret ?_; refine we_seq_ret ?_; refine we_loop_ret ?_; refine we_block_ret ?_; refine we_seq_ret ?_
      refine we_ret2 rfl rfl rfl ⟨_, rfl, R2, cr2, vs ++ vq, rfl, ?_⟩
      rw [show cutL d gs y en = (cutD d (nmJ gs.flatten.length) (en : Nat)).1 from if_pos hex]
      exact (((((((hs.front 6 rfl).front 6 rfl).front 2 rfl).drop 3 rfl).drop 3 rfl).drop 3 rfl).drop 3 rfl)
    · have hex' : ¬ (en : Int) < (y.length : Int) := by omega
      have hn2 : ¬ (gs.length : Int) + 1 < ((gs.length + 1 : Nat) : Int) := by omega
      have a1 := hs.ar 2 rfl
      refine wc_drawB mixed (by kernel_rfl) ?_
      try dsimp only [List.append]
      apply wq_val; intro _ hw_; apply opv_move; exact rfl; exact rfl; apply wq_val; intro _ hw_; apply opv_move; exact rfl; exact rfl; apply wq_val; intro _ hw_; apply opv_len; exact rfl; exact tyB.sl; exact rfl; apply wq_val; intro _ hw_; apply opv_bin; exact rfl; exact rfl; exact bin_lss; exact rfl; apply wq_val; intro _ hw_; apply opv_move; exact rfl; exact rfl; apply wq_take; exact rfl; exact rfl; exact rfl; refine bF ?_; (with_reducible assumption); apply wq_val; intro _ hw_; apply opv_move; exact rfl; exact rfl; apply wq_take; exact rfl; exact rfl; exact rfl; refine bF ?_; (with_reducible assumption); apply wq_val; intro _ hw_; apply opv_bin; exact rfl; exact rfl; exact bin_add64 (by omega); exact rfl; apply wq_take; exact rfl; exact rfl; exact rfl; refine bF ?_; (with_reducible assumption); apply wq_val; intro _ hw_; apply opv_move; exact rfl; exact rfl; apply wq_take; exact rfl; exact rfl; exact rfl; refine bF ?_; (with_reducible assumption); apply wq_val; intro _ hw_; apply opv_len; exact rfl; exact tkSg.sl; exact rfl; apply wq_take; exact rfl; exact rfl; exact rfl; refine bF ?_; (with_reducible assumption); apply wq_val; intro _ hw_; apply opv_bin; exact rfl; exact rfl; exact bin_lss; exact rfl; apply wq_take; exact rfl; exact rfl; exact rfl; refine bF ?_; (with_reducible assumption); apply wq_val; intro _ hw_; apply opv_move; exact rfl; exact rfl; apply wq_skip; exact rfl; exact rfl; exact rfl; refine bFn ?_; (with_reducible assumption); exact rfl; apply wq_skip; exact rfl; exact rfl; exact rfl; refine bFn ?_; (with_reducible assumption); exact rfl; apply wq_skip; exact rfl; exact rfl; exact rfl; refine bFn ?_; (with_reducible assumption); exact rfl; apply wq_skip; exact rfl; exact rfl; exact rfl; refine bFn ?_; (with_reducible assumption); exact rfl; apply wq_skip; exact rfl; exact rfl; exact rfl; refine bFn ?_; (with_reducible assumption); exact rfl; apply wq_skip; exact rfl; exact rfl; exact rfl; refine bFn ?_; (with_reducible assumption); exact rfl; apply wq_skip; exact rfl; exact rfl; exact rfl; refine bFn ?_; (with_reducible assumption); exact rfl; apply wq_skip; exact rfl; exact rfl; exact rfl; refine bFn ?_; (with_reducible assumption); exact rfl; apply wq_skip; exact rfl; exact rfl; exact rfl; refine bFn ?_; (with_reducible assumption); exact rfl; apply wq_skip; exact rfl; exact rfl; exact rfl; refine bFn ?_; (with_reducible assumption); exact rfl; apply wq_skip; exact rfl; exact rfl; exact rfl; refine bFn ?_; (with_reducible assumption); exact rfl; apply wq_take; exact rfl; exact rfl; exact rfl; refine bF ?_; (with_reducible assumption); apply wq_val; intro _ hw_; apply opv_pickF; exact rfl; refine bF ?_; (with_reducible assumption); exact rfl; exact rfl; apply wq_val; intro _ hw_; apply opv_pickF; exact rfl; refine bF ?_; (with_reducible assumption); exact rfl; exact rfl; refine wq_nil fun w1 hw1 => ?_
      clear a1
      refine we_seq ?_; apply wc_condFb; exact rfl; exact rfl; refine wc_skip ?_; refine we_block_norm ?_; refine we_seq ?_; refine wc_region ?_; apply wl_val; apply opv_bin; exact rfl; exact rfl; exact bin_add64 (by omega); exact rfl; refine wl_mv rfl rfl ?_; refine wl_nil ?_
      replace hs := hs.below hw1
      exact we_loop _ 0 ⟨0, 0, R2, cr2, vs ++ vq, A2, c2, .inr ⟨rfl, (((((((hs.front 6 rfl).front 6 rfl).front 3 rfl).drop 3 rfl).drop 3 rfl).drop 3 rfl).drop 3 rfl), hex, rfl⟩⟩ (by omega) ⟨rfl, rfl, rfl, rfl, rfl, by rw [show ((gs.length + 1 : Nat) : Int) = (gs.length : Int) + 1 by omega]; rfl, trivial⟩
end Go.Proofs.Ytdgagffieobiiaa

/-
  Walks over Open of a log.
-/
namespace Go.Proofs.Ytdgagffieobiiaa
open Go.RowKit
theorem dead_any {g : Nat} {d : Dk} {w : World} (h : RdD w g d) : CallsV Try.prog 37 #[.pointer (some ⟨g, 0, none⟩)] w fun v w' => v = .bool d.dead ∧ w = w' := by
  obtain ⟨b, _, _, a1, _, _, _⟩ := h.look []
  unfold dkV at a1
  refine calls_in (N := _) Try.func37 rfl Try.ntmps37 rfl ?_; show WC _ _ _ _ _ _
  refine wc_sr ?_; refine wl_as rfl rfl ?_; refine wl_ns ?_; refine wc_sr ?_; refine wl_mv rfl rfl ?_; apply wl_val; apply opv_nilOk; exact rfl; exact rfl; apply wl_val; apply opv_fa; exact fa_sD (by decide); exact rfl; exact rfl; apply wl_val; apply opv_ldX; exact rfl; assumption; exact d1_bool; exact rfl; exact rfl; refine wl_as rfl rfl ?_; refine wl_ns ?_; refine wc_ret ?_
  exact we_ret1 rfl rfl ⟨_, rfl, rfl, rfl⟩
theorem wopen_nil {gd : Nat} {d : Dk} {S : BS} {w : World} (h0 : Sat w [.ck (dkC gd d)] S) (hd : d.dead = false) (hfs : d.fs = []) :
    CallsV Try.prog 17 #[.pointer (some ⟨gd, 0, none⟩), str pfJ, .int .i64 50] w fun v w' => ∃ g, v = .tuple #[.pointer (some ⟨g, 0, none⟩), .slice none 0 0, .int .i64 0] ∧ St S w w' [.ck (dkC gd d), .blk g 90 (lgV gd none 0 0 0 0)] := by
  have hs := St.start h0
  clear h0
  refine calls_in (N := _) Try.func17 rfl Try.ntmps17 rfl ?_; show WC _ _ _ _ _ _
  refine wc_sr ?_; refine wl_as rfl rfl ?_; refine wl_as rfl rfl ?_; refine wl_as rfl rfl ?_; refine wl_ns ?_; refine wc_seq ?_; refine wc_sr ?_; refine wl_mv rfl rfl ?_; refine wl_bin rfl rfl bin_lss rfl ?_; refine wl_ns ?_; apply wc_condFb; exact rfl; exact rfl; refine wc_skip ?_; refine we_seq ?_; refine wc_seq ?_; refine wc_sr ?_; refine wl_mv rfl rfl ?_
  refine wl_call ok_disk_Disk_Dead (dead_any (hs.rdd 0 rfl)) ⟨rfl, trivial⟩ rfl ?_
  rintro _ _ ⟨rfl, rfl⟩
  rw [hd]
  refine wl_ns ?_; apply wc_condFb; exact rfl; exact rfl; refine wc_skip ?_; refine we_seq ?_; refine wc_sr ?_; refine wl_mv rfl rfl ?_; refine wl_mv rfl rfl ?_
  refine wl_val (opv_build (vs := [(0, .pointer (some ⟨gd, 0, none⟩)), (1, str pfJ)]) (cs := nmV gd) ⟨rfl, rfl, rfl, rfl, trivial⟩ (by kernel_rfl)) rfl ?_
  refine wl_mv rfl rfl ?_
  refine wl_val (opv_build (vs := [(0, .agg (nmV gd).toArray), (1, .int .i64 50)]) (cs := lgV gd none 0 0 0 0) ⟨rfl, rfl, rfl, rfl, trivial⟩ (by kernel_rfl)) rfl ?_
  refine ws_box (cs := lgV gd none 0 0 0 0) hs rfl rfl ?_; clear hs; intro g21 _ hs
  replace hs := hs.front 1 rfl
  dsimp only [delC] at hs
  refine wl_as rfl rfl ?_; refine wl_ns ?_; refine wc_sr ?_; refine wl_mv rfl rfl ?_
  obtain ⟨S2, hS2, hB2, hM2, hH2, hB⟩ := St.lend (H1 := [_, _]) (H2 := []) hs
  refine wl_call ok_wal_Log_replay (replay_nil hS2 hd hfs) ⟨rfl, trivial⟩ rfl ?_
  rintro _ _ ⟨rfl, hsx⟩
  replace hs := hB _ _ hsx
  clear hsx hB hH2 hM2 hB2 hS2
  dsimp only [List.cons_append, List.nil_append] at hs
  refine wl_mv rfl rfl ?_; apply wl_val; apply opv_extract; exact rfl; exact rfl; exact rfl; apply wl_val; apply opv_extract; exact rfl; exact rfl; exact rfl; refine wl_as rfl rfl ?_; refine wl_as rfl rfl ?_; refine wl_ns ?_; refine wc_seq ?_; refine wc_sr ?_; refine wl_mv rfl rfl ?_; refine wl_bin rfl rfl bin_neq rfl ?_; refine wl_ns ?_; apply wc_condFb; exact rfl; exact rfl; refine wc_skip ?_; refine we_seq ?_; refine wc_sr ?_; refine wl_mv rfl rfl ?_; refine wl_mv rfl rfl ?_; refine wl_as rfl rfl ?_; refine wl_as rfl rfl ?_; refine wl_as rfl rfl ?_; refine wl_ns ?_; refine wc_ret ?_
  exact we_ret3 rfl rfl rfl rfl ⟨_, rfl, g21, rfl, hs⟩
theorem wopen_log {gd : Nat} {d : Dk} {gs : Grps} {x : List UInt8} {part : List (List UInt8)} {e : Nat} {S : BS} {w : World} (h0 : Sat w [.ck (dkC gd d)] S) (hC : JoC d gs x part e) :
    CallsV Try.prog 17 #[.pointer (some ⟨gd, 0, none⟩), str pfJ, .int .i64 50] w fun v w' => ∃ (g : Nat) (R : Option Addr) (cr : Nat) (vs : List Value), v = .tuple #[.pointer (some ⟨g, 0, none⟩), .slice R (gs.flatten ++ part).length cr, .int .i64 0] ∧
      St S w w' [.ck (dkC gd (cutL d gs x e)), .ow 30 R (gs.flatten ++ part).length cr vs, .ck (kp (EK vs (gs.flatten ++ part)))] := by
  have hs := St.start h0
  clear h0
  refine calls_in (N := _) Try.func17 rfl Try.ntmps17 rfl ?_; show WC _ _ _ _ _ _
  refine wc_sr ?_; refine wl_as rfl rfl ?_; refine wl_as rfl rfl ?_; refine wl_as rfl rfl ?_; refine wl_ns ?_; refine wc_seq ?_; refine wc_sr ?_; refine wl_mv rfl rfl ?_; refine wl_bin rfl rfl bin_lss rfl ?_; refine wl_ns ?_; apply wc_condFb; exact rfl; exact rfl; refine wc_skip ?_; refine we_seq ?_; refine wc_seq ?_; refine wc_sr ?_; refine wl_mv rfl rfl ?_
  refine wl_call ok_disk_Disk_Dead (dead_any (hs.rdd 0 rfl)) ⟨rfl, trivial⟩ rfl ?_
  rintro _ _ ⟨rfl, rfl⟩
  rw [hC.alive]
  refine wl_ns ?_; apply wc_condFb; exact rfl; exact rfl; refine wc_skip ?_; refine we_seq ?_; refine wc_sr ?_; refine wl_mv rfl rfl ?_; refine wl_mv rfl rfl ?_
  refine wl_val (opv_build (vs := [(0, .pointer (some ⟨gd, 0, none⟩)), (1, str pfJ)]) (cs := nmV gd) ⟨rfl, rfl, rfl, rfl, trivial⟩ (by kernel_rfl)) rfl ?_
  refine wl_mv rfl rfl ?_
  refine wl_val (opv_build (vs := [(0, .agg (nmV gd).toArray), (1, .int .i64 50)]) (cs := lgV gd none 0 0 0 0) ⟨rfl, rfl, rfl, rfl, trivial⟩ (by kernel_rfl)) rfl ?_
  refine ws_box (cs := lgV gd none 0 0 0 0) hs rfl rfl ?_; clear hs; intro g21 _ hs
  replace hs := hs.front 1 rfl
  dsimp only [delC] at hs
  refine wl_as rfl rfl ?_; refine wl_ns ?_; refine wc_sr ?_; refine wl_mv rfl rfl ?_
  obtain ⟨S2, hS2, hB2, hM2, hH2, hB⟩ := St.lend (H1 := [_, _]) (H2 := []) hs
  refine wl_call ok_wal_Log_replay (replay_log hS2 hC) ⟨rfl, trivial⟩ rfl ?_
  rintro _ _ ⟨R, cr, vs, rfl, hsx⟩
  replace hs := hB _ _ hsx
  clear hsx hB hH2 hM2 hB2 hS2
  dsimp only [List.cons_append, List.nil_append] at hs
  refine wl_mv rfl rfl ?_; apply wl_val; apply opv_extract; exact rfl; exact rfl; exact rfl; apply wl_val; apply opv_extract; exact rfl; exact rfl; exact rfl; refine wl_as rfl rfl ?_; refine wl_as rfl rfl ?_; refine wl_ns ?_; refine wc_seq ?_; refine wc_sr ?_; refine wl_mv rfl rfl ?_; refine wl_bin rfl rfl bin_neq rfl ?_; refine wl_ns ?_; apply wc_condFb; exact rfl; exact rfl; refine wc_skip ?_; refine we_seq ?_; refine wc_sr ?_; refine wl_mv rfl rfl ?_; refine wl_mv rfl rfl ?_; refine wl_as rfl rfl ?_; refine wl_as rfl rfl ?_; refine wl_as rfl rfl ?_; refine wl_ns ?_; refine wc_ret ?_
  exact we_ret3 rfl rfl rfl rfl ⟨_, rfl, g21, R, cr, vs, rfl, hs⟩
end Go.Proofs.Ytdgagffieobiiaa

/-
  Walk over the values of the cells that are in form.
-/
namespace Go.Proofs.Ytdgagffieobiiaa
open Go.RowKit
def QVa (x : Ce) (cs : List Value) (w : World) : Prop := ∃ (B : Option Addr) (d : Nat), cs = [vaV (ceVa x) B d] ∧ goodC x = true ∧ x.data.length ≤ d ∧ RdB w B x.data
def QCe (w0 : World) (x : Ce) (cs : List Value) (_w : World) : Prop := ∃ (X : Option Addr) (cx : Nat), cs = ceV x X cx ∧ x.data.length ≤ cx ∧ RdB w0 X x.data
/-- A cell whose bytes lie in memory that is old. -/
def ceElO (w0 : World) (x : Ce) : El where
  P w _ cs := QCe w0 x cs w
  move := fun h _ _ => h
theorem va_of {x : Ce} {cs : List Value} {w : World} (h : QVa x cs w) : (vaEl (ceVa x)).P w All cs ∧ cs.length = 1 := by
  obtain ⟨B, d, rfl, hg, h1, h2⟩ := h
  refine ⟨⟨B, d, rfl, ?_⟩, rfl⟩
  rw [vaC_ceVa hg]
  exact byEl.mk h2 h1 fun _ _ _ => trivial
theorem ceO_of {w0 : World} {x : Ce} {cs : List Value} {w : World} (h : QCe w0 x cs w) : (ceElO w0 x).P w All cs ∧ cs.length = 5 := by
  refine ⟨h, ?_⟩
  obtain ⟨X, cx, rfl, _⟩ := h
  rfl
theorem goodL_mem {l : List Ce} {x : Ce} (h : x ∈ goodL l) : x ∈ l ∧ goodC x = true := by simpa [goodL] using List.mem_filter.1 h
theorem sat_rgO {w : World} {H : List Cd} {S : BS} {k : Nat} {e : TypeId} {A : Option Addr} {c : Nat} {els : List El} (h : Sat w H S) (i : Nat) (hi : nthC H i = some (.rg k e A c els)) : OwR k e w 0 All A c els := by
  obtain ⟨T, _, hc, _⟩ := h.front hi
  exact hc.2.mono (Nat.le_refl _) fun _ _ _ => trivial
def ValI (w0 w : World) (l : List Ce) (A : Option Addr) (c : Nat) : FL → World → Nat → Prop := fun L wr m =>
  ∃ (k : Nat) (P : Option Addr) (cp : Nat) (css1 : List (List Value)) (K : World → Prop) (D : Option Addr) (cd : Nat) (css2 : List (List Value)),
    L = [(4, .slice P (goodL (l.take k)).length cp), (5, .slice D (goodL (l.take k)).length cd), (10, .slice A l.length c), (11, .int .i64 (l.length : Int)), (12, .int .i64 (k : Int))] ∧ k ≤ l.length ∧ AllK K QVa (goodL (l.take k)) css1 ∧ AllK (fun _ => True) (QCe w0) (goodL (l.take k)) css2 ∧
    St NoB w wr [.rg 1 20 P cp (css1.map rawEl), .ck (kp K), .rg 5 60 D cd (css2.map rawEl)] ∧ m = l.length - k
set_option maxHeartbeats 4000000 in
theorem values_any {A : Option Addr} {n c : Nat} {l : List Ce} {w0 w : World} (hw0 : Below w0.heap.size w0 w) (hr : RdR 5 w0 All A (l.map ceEl)) (hn : l.length = n) (hok : ∀ x ∈ l, x.data.length ≤ 1048576) (hl2 : l.length ≤ 1048576) :
    CallsV Try.prog 19 #[.slice A n c] w fun v w' => ∃ (P : Option Addr) (cp : Nat) (D : Option Addr) (cd : Nat), v = .tuple #[.slice P (goodL l).length cp, .slice D (goodL l).length cd] ∧ RdR 1 w' All P ((goodL l).map fun x => vaEl (ceVa x)) ∧
      St NoB w w' [.ck (kp fun w' => RdR 5 w' All D ((goodL l).map (ceElO w0)))] := by
  subst hn
  have hs := (((St.init w).nilG 5 60).kpNil (K := fun _ => True) fun _ => trivial).nilG 1 20
  have hmax : maxLen = 9223372036854775807 := rfl
  refine calls_in (N := _) Try.func19 rfl Try.ntmps19 rfl ?_; show WC _ _ _ _ _ _
  refine wc_sr ?_; refine wl_as rfl rfl ?_; refine wl_as rfl rfl ?_; refine wl_ns ?_; refine wc_sr ?_; refine wl_as rfl rfl ?_; refine wl_ns ?_; refine wc_sr ?_; refine wl_as rfl rfl ?_; refine wl_ns ?_; refine wc_seq ?_; refine wc_sr ?_; refine wl_mv rfl rfl ?_; apply wl_val; apply opv_len; exact rfl; exact tkC.sl; exact rfl; refine wl_mv rfl rfl ?_; refine wl_ns ?_; refine wc_block ?_
  refine wc_loop (ValI w0 w l A c) [(4, .slice none 0 0), (5, .slice none 0 0), (10, .slice A l.length c), (11, .int .i64 (l.length : Int)), (12, .int .i64 (0 : Nat))] l.length ⟨0, none, 0, [], _, none, 0, [], rfl, by omega, AllK.nil, AllK.nil, hs, rfl⟩ ⟨rfl, rfl, rfl, rfl, rfl, trivial⟩ ?_
  clear hs
  rintro _ w1 m ⟨k, P, cp, css1, K, D, cd, css2, rfl, hk, hA1, hA2, hs, rfl⟩
  have hle := goodL_le (l.take k)
  rw [List.length_take] at hle
  have hl1 := hA1.1
  have hl3 := hA2.1
  refine wc_sr ?_; refine wl_bin rfl rfl bin_lss rfl ?_; refine wl_ns ?_; refine wc_seq ?_
  refine wc_cond rfl (fun h1 => ?_) (fun h1 => ?_)
  · obtain ⟨x, hx⟩ : ∃ x, l[k]? = some x := ⟨_, List.getElem?_eq_getElem (by omega)⟩
    have hox := hok x (List.mem_of_getElem? hx)
    have ht := goodL_take hx
    obtain ⟨b, o, cs, rfl, _, _, hp, hw⟩ := RdR.at (k := 5) (by decide) hr (E := ceEl x) (i := k) (by rw [List.getElem?_map, hx]; rfl)
    obtain ⟨X, cx, rfl, rx, hcx⟩ := ceEl.rd hp
    have i1 := hw.below (hw0.trans (hs.bel.mono hw0.size))
    refine wc_skip ?_; refine we_seq ?_; refine wc_seq ?_; refine wc_block ?_; refine wc_sr ?_; apply wl_val; apply opv_idxG tkC; exact rfl; exact rfl; exact rfl; omega; exact rfl; apply wl_val; apply opv_ldG; exact rfl; assumption; exact sC; exact rfl
    refine ws_var (cs := ceV x X cx) hs zeroC sC rfl (fun _ => rfl) (by first | rfl | simp [Value.oneCell']) rfl ?_; clear hs; intro g7 _ hs
    refine wl_ns ?_; refine wc_seq ?_; refine wc_sr ?_; apply wl_val; apply opv_loadX; exact rfl; exact hs.ar 0 rfl; exact sC; exact rfl
    refine wl_call ok_caissonref06_Good (good_any (x := x)) ⟨rfl, trivial⟩ rfl ?_
    rintro _ _ ⟨rfl, hbx⟩
    replace hs := hs.below hbx
    clear hbx i1
    cases hg : goodC x with
    | false =>
      apply wl_val; apply opv_not; exact rfl; exact rfl; refine wl_ns ?_; apply wc_condTb; exact rfl; exact Bool.not_false; refine wc_exit ?_; refine we_seq_exit ?_; refine we_block_exit ?_; refine we_seq ?_; refine wc_region ?_; apply wl_val; apply opv_bin; exact rfl; exact rfl; exact bin_add64 (by omega); exact rfl; refine wl_mv rfl rfl ?_; refine wl_nil ?_
      rw [hg] at ht
      simp only [Bool.false_eq_true, if_false, List.append_nil] at ht
      refine we_loop _ (l.length - (k + 1)) ⟨k + 1, P, cp, css1, K, D, cd, css2, rfl, by omega, by rw [ht]; exact hA1, by rw [ht]; exact hA2, hs.drop 0 rfl, rfl⟩ (by omega) ⟨by rw [ht]; rfl, by rw [ht]; rfl, rfl, rfl, by rw [show ((k + 1 : Nat) : Int) = (k : Int) + 1 by omega]; rfl, trivial⟩
    | true =>
      rw [hg] at ht
      simp only [if_true] at ht
      apply wl_val; apply opv_not; exact rfl; exact rfl; refine wl_ns ?_; apply wc_condFb; exact rfl; exact Bool.not_true; refine wc_skip ?_; refine we_seq ?_; refine wc_sr ?_; apply wl_val; apply opv_loadX; exact rfl; exact hs.ar 0 rfl; exact sC; exact rfl
      refine wl_call ok_cell_Of (ofC_any (x := x) (A := X) (c := cx) (rx.below (hw0.trans (hs.bel.mono hw0.size))) (by omega)) ⟨rfl, trivial⟩ rfl ?_
      rintro _ w5 hof
      obtain ⟨_, B2, d2, rfl, o4, hbx⟩ | ⟨hbad, _⟩ := hof
      case inr => exact absurd (hg.symm.trans hbad) (by decide)
      have hd2 := OwB.cap o4
      replace hs := hs.newO hbx o4 (Nat.le_refl _)
      clear hbx o4
      refine wl_mv rfl rfl ?_; apply wl_val; apply opv_extract; exact rfl; exact rfl; exact rfl; apply wl_val; apply opv_extract; exact rfl; exact rfl; exact rfl; refine wl_as rfl rfl ?_; refine wl_as rfl rfl ?_; refine wl_ns ?_; refine wc_sr ?_; refine wl_mv rfl rfl ?_; refine wl_mv rfl rfl ?_
      refine ws_pushR (cs := [vaV (ceVa x) B2 d2]) hs 2 (fun _ => rfl) rfl tkA (by rw [List.length_map]; exact hl1) ⟨_, rfl, cells_one (vaV_one _ _ _)⟩ rfl (by simp [vaV_one]) (by decide) (by omega) (by omega) rfl rfl ?_
      clear hs; intro _ P2 cp2 _ hs; dsimp only [setC] at hs
      refine wl_as rfl rfl ?_; refine wl_ns ?_; refine wc_region ?_; refine wl_mv rfl rfl ?_; apply wl_val; apply opv_loadX; exact rfl; exact hs.ar 1 rfl; exact sC; exact rfl
      refine ws_pushR (cs := ceV x X cx) hs 4 (fun _ => rfl) rfl tkC (by rw [List.length_map]; exact hl3) ⟨_, rfl, rfl⟩ rfl (by simp [ceV, Value.oneCell']) (by decide) (by omega) (by omega) rfl rfl ?_
      clear hs; intro _ D2 cd2 _ hs; dsimp only [setC] at hs
      replace hs := (hs.front 3 rfl).front 1 rfl
      dsimp only [delC] at hs
      replace hs := St.kpOf (K := fun w => RdB w B2 x.data ∧ K w) (H1 := [_, _]) hs fun w S hS => ⟨(sat_ow hS 0 rfl).rd, Sat.kp (i := 1) hS rfl⟩
      rw [show css1.map rawEl ++ [rawEl [vaV (ceVa x) B2 d2]] = (css1 ++ [[vaV (ceVa x) B2 d2]]).map rawEl by simp, show css2.map rawEl ++ [rawEl (ceV x X cx)] = (css2 ++ [ceV x X cx]).map rawEl by simp] at hs
      replace hs := (hs.drop 1 rfl).front 1 rfl
      dsimp only [delC] at hs
      refine wl_as rfl rfl ?_; refine wl_nil ?_; refine we_block_norm ?_; refine we_seq ?_; refine wc_region ?_; apply wl_val; apply opv_bin; exact rfl; exact rfl; exact bin_add64 (by omega); exact rfl; refine wl_mv rfl rfl ?_; refine wl_nil ?_
      refine we_loop _ (l.length - (k + 1)) ⟨k + 1, P2, cp2, css1 ++ [[vaV (ceVa x) B2 d2]], _, D2, cd2, css2 ++ [ceV x X cx], rfl, by omega, ?_, ?_, hs, rfl⟩ (by omega) ⟨by rw [ht, List.length_append]; rfl, by rw [ht, List.length_append]; rfl, rfl, rfl, by rw [show ((k + 1 : Nat) : Int) = (k : Int) + 1 by omega]; rfl, trivial⟩
      · rw [ht]
        exact (hA1.weak fun w h => h.2).snoc fun w' h => ⟨B2, d2, rfl, hg, hd2, h.1⟩
      · rw [ht]
        exact hA2.snoc fun w' h => ⟨X, cx, rfl, hcx, rx⟩
  · obtain rfl : k = l.length := by omega
    rw [List.take_length] at hA1 hA2 ⊢
    refine wc_exit ?_; refine we_seq_exit ?_; refine we_loop_exit ?_; refine we_block_exit ?_; refine we_seq ?_; refine wc_sr ?_; refine wl_mv rfl rfl ?_; refine wl_mv rfl rfl ?_; refine wl_as rfl rfl ?_; refine wl_as rfl rfl ?_; refine wl_ns ?_; refine wc_ret ?_
    refine we_ret2 rfl rfl rfl ⟨_, rfl, P, cp, D, cd, rfl, ?_, ?_⟩
    · exact hA1.rdr (hs.kp 1 rfl) (fun x cs h => va_of h) (hs.rg 0 rfl)
    · replace hs := (hs.drop 0 rfl).drop 0 rfl
      exact St.kpOf (H1 := [_]) hs fun w' S hS => hA2.rdr (w := w') trivial (fun x cs h => ceO_of h) (sat_rgO hS 0 rfl)
end Go.Proofs.Ytdgagffieobiiaa

/-
  The walk over CaissonSealed.
-/
namespace Go.Proofs.Ytdgagffieobiiaa
open Go.RowKit

abbrev nmX : List UInt8 := [120]
structure SeF (d : Dk) (all : List (List UInt8)) (sy : Nat) : Prop where
  ok : DkOk d
  fs : d.fs = [(nmX, ⟨recs all, (recs (all.take sy)).length⟩)]
  room : d.room = 1073741824
  each : ∀ x ∈ all, x.length ≤ 1048576
  sy : sy ≤ all.length
theorem SeF.len {d : Dk} {all : List (List UInt8)} {sy : Nat} (h : SeF d all sy) : (recs all).length = 8 * all.length + all.flatten.length := recs_len all
theorem SeF.app {d : Dk} {all : List (List UInt8)} {sy : Nat} {r : List UInt8} (h : SeF d all sy) (hd : d.dead = false) (hr : r.length ≤ 1048576) (hl : all.length + all.flatten.length ≤ 2097152) :
    SeF (appD d nmX (crcRec r)).1 (all ++ [r]) sy ∧ ((appD d nmX (crcRec r)).2 = 0 ∧ (appD d nmX (crcRec r)).1.dead = false ∨ (appD d nmX (crcRec r)).2 = 9 ∧ (appD d nmX (crcRec r)).1.dead = true) := by
  have hb : (recs all).length + (crcRec r).length ≤ d.room := by rw [h.len, crcRec_length, h.room]; omega
  obtain ⟨h1, h2, h3⟩ := app_one (b := crcRec r) h.fs hd hb
  refine ⟨⟨app_ok h.ok h.fs hd hb, ?_, by rw [h2]; exact h.room, ?_, by rw [List.length_append]; exact Nat.le_add_right_of_le h.sy⟩, h3⟩
  · rw [h1, recs_append, List.take_append_of_le_length h.sy]
    simp [recs]
  · intro x hx
    rcases List.mem_append.1 hx with hx | hx
    · exact h.each x hx
    · rw [List.mem_singleton] at hx; subst hx; exact hr
theorem SeF.sync {d : Dk} {all : List (List UInt8)} {sy : Nat} (h : SeF d all sy) (hd : d.dead = false) :
    (syncD d nmX).2 = 0 ∧ (syncD d nmX).1.dead = false ∧ SeF (syncD d nmX).1 all all.length ∨ (syncD d nmX).2 = 9 ∧ SeF (syncD d nmX).1 all sy := by
  obtain ⟨h1, h2⟩ := sync_one h.fs hd
  have hok := sync_ok h.ok h.fs hd
  rcases h2 with ⟨k1, k2, k3⟩ | ⟨k1, k3⟩
  · exact .inl ⟨k1, k2, hok, by rw [k3, List.take_length], by rw [h1]; exact h.room, h.each, Nat.le_refl _⟩
  · exact .inr ⟨k1, hok, k3, by rw [h1]; exact h.room, h.each, h.sy⟩
theorem wc_cutB {P : Program} {N : Nat} {Q : Exit → Act → World → Prop} {L : FL} {w : World} {c : Code} {id : Nat} (J : FL → World → Prop) (hx : WC P N c (Exit.inBlock id (CutQ N J Q)) L w) (hy : ∀ L w, J L w → WE N Q .normal L w) : WC P N c (Exit.inBlock id Q) L w := fun a ha =>
  wp_mono (hx a ha) fun e a' w' h => by
    cases e with
    | normal => obtain ⟨L', hJ, ha'⟩ := h; exact hy L' w' hJ a' ha'
    | exit id' =>
      simp only [Exit.inBlock] at h ⊢
      split at h <;> rename_i hi
      · rw [if_pos hi]; obtain ⟨L', hJ, ha'⟩ := h; exact hy L' w' hJ a' ha'
      · rw [if_neg hi]; exact h
    | _ => exact h
end Go.Proofs.Ytdgagffieobiiaa
