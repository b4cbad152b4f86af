import Derived.Test.YtgmbaemdedachaaUM
namespace Go.Abs.Tw
open Go.Sort Go.Proofs Go.Abs.Ta Go.Abs.Tb Go.Abs.Tc Go.Abs.Te Go.Abs.Tf Go.Abs.Tg Go.Abs.Th Go.Abs.Ts
set_option linter.unusedVariables false
set_option linter.unusedSimpArgs false
set_option linter.unnecessarySimpa false
set_option maxRecDepth 100000
def wB (n : Int) : Int := IntKind.u8.wrap n
def hB (h : S111) : Int := wB (w64 (w64 (16 * h.fCt) + h.fSn))
def needL (l : List S111) : List Int := l.map hB ++ [254]
def keyL (s : S82) : List Int := s.fLf.map wB ++ s.fBad.map hB ++ [255] ++ s.fNd.flatMap needL
def keyB (s : S82) : ByteArray := strI (keyL s)
theorem iter_app {R α : Type} (B : List Int × Int → Option (Stp R (List Int × Int))) (l : List α) (g : α → List Int) (c N : Nat) (hl : l.length < 1000000000) (hg : ∀ x ∈ l, (g x).length ≤ c)
  (h1 : ∀ (i : Nat) (x : α) (acc : List Int), l[i]? = some x → acc.length + c ≤ N → B (acc, (i : Int)) = some (.nxt (acc ++ g x, w64 ((i : Int) + 1))))
  (h2 : ∀ (acc : List Int), B (acc, (l.length : Int)) = some (.brk (acc, (l.length : Int)))) :
  ∀ (m i : Nat) (acc : List Int), i ≤ l.length → l.length < m + i → acc.length + c * (l.length - i) ≤ N → iter B m (acc, (i : Int)) = some (.inr (acc ++ (l.drop i).flatMap g, (l.length : Int)))
 | 0, i, acc, a1, a2, a3 => by omega
 | m + 1, i, acc, a1, a2, a3 => by
  by_cases hi : i < l.length
  ·have hx : l[i]? = some l[i] := zA hi
   have hm := hg _ (List.getElem_mem hi)
   rw [zI hi]
   generalize l[i] = x at hx hm
   have e : c * (l.length - i) = c + c * (l.length - (i + 1)) := by
    rw [show l.length - i = (l.length - (i + 1)) + 1 by omega, Nat.mul_succ, Nat.add_comm]
   unfold iter
   rw [h1 i x acc hx om]
   dsimp only
   rw [w64_nat om, iter_app B l g c N hl hg h1 h2 m (i + 1) (acc ++ g x) om om (by rw [List.length_append]; omega)]
   simp [List.flatMap_cons]
  ·have e : i = l.length := by omega
   subst e
   unfold iter
   rw [h2 acc]
   simp
theorem flat1 {α : Type} (g : α → Int) : ∀ l : List α, (l.flatMap fun x => [g x]) = l.map g
 | [] => rfl
 | x :: l => by rw [List.flatMap_cons, flat1 g l]; rfl
theorem f49_b1 (m0 : Nat) (s : S82) (m : Nat) (acc : List Int) (hl : s.fLf.length < m) (h2 : acc.length + s.fLf.length ≤ 100000000) :
  iter (fun (y : (List Int) × Int) => f49_B1 m0 s y.1 y.2) m (acc, 0) = some (.inr (acc ++ s.fLf.map wB, (s.fLf.length : Int))) := by
 have := iter_app (fun (y : (List Int) × Int) => f49_B1 m0 s y.1 y.2) s.fLf (fun x => [wB x]) 1 100000001 om (fun x _ => by simp) (fun i x a hx ha => by
  have hi := yE hx
  show f49_B1 m0 s a (i : Int) = _
  unfold f49_B1
  rw [show decide ((i : Int) < (s.fLf.length : Int)) = true by simpa using hi, idx_get, hx]
  simp only [cnd_true, bnd_some']
  rw [Tg.app_ok (by decide) om]
  rfl) (fun a => by
  show f49_B1 m0 s a _ = _
  unfold f49_B1
  rw [show decide ((s.fLf.length : Int) < (s.fLf.length : Int)) = false by simp]
  rfl) m 0 acc (Nat.zero_le _) om om
 rw [List.drop_zero, flat1] at this
 exact this
theorem f49_b2 (m0 : Nat) (s : S82) (m : Nat) (acc : List Int) (hl : s.fBad.length < m) (h2 : acc.length + s.fBad.length ≤ 100000000) :
  iter (fun (y : (List Int) × Int) => f49_B2 m0 s y.1 y.2) m (acc, 0) = some (.inr (acc ++ s.fBad.map hB, (s.fBad.length : Int))) := by
 have := iter_app (fun (y : (List Int) × Int) => f49_B2 m0 s y.1 y.2) s.fBad (fun x => [hB x]) 1 100000001 om (fun x _ => by simp) (fun i x a hx ha => by
  have hi := yE hx
  show f49_B2 m0 s a (i : Int) = _
  unfold f49_B2
  rw [show decide ((i : Int) < (s.fBad.length : Int)) = true by simpa using hi, idx_get, hx]
  simp only [cnd_true, bnd_some']
  rw [Tg.app_ok (by decide) om]
  rfl) (fun a => by
  show f49_B2 m0 s a _ = _
  unfold f49_B2
  rw [show decide ((s.fBad.length : Int) < (s.fBad.length : Int)) = false by simp]
  rfl) m 0 acc (Nat.zero_le _) om om
 rw [List.drop_zero, flat1] at this
 exact this
theorem f49_b3 (m0 : Nat) (l : List S111) (m : Nat) (acc : List Int) (hl : l.length < m) (h2 : acc.length + l.length ≤ 100000000) :
  iter (fun (y : (List Int) × Int) => f49_B3 m0 l y.1 y.2) m (acc, 0) = some (.inr (acc ++ l.map hB, (l.length : Int))) := by
 have := iter_app (fun (y : (List Int) × Int) => f49_B3 m0 l y.1 y.2) l (fun x => [hB x]) 1 100000001 om (fun x _ => by simp) (fun i x a hx ha => by
  have hi := yE hx
  show f49_B3 m0 l a (i : Int) = _
  unfold f49_B3
  rw [show decide ((i : Int) < (l.length : Int)) = true by simpa using hi, idx_get, hx]
  simp only [cnd_true, bnd_some']
  rw [Tg.app_ok (by decide) om]
  rfl) (fun a => by
  show f49_B3 m0 l a _ = _
  unfold f49_B3
  rw [show decide ((l.length : Int) < (l.length : Int)) = false by simp]
  rfl) m 0 acc (Nat.zero_le _) om om
 rw [List.drop_zero, flat1] at this
 exact this
structure SInv (r : S57) (j : Nat) (s : S82) : Prop where
 left : s.fLf.length = r.fCx.length
 bad : s.fBad.length ≤ 3 * j
 badk : ∀ h ∈ s.fBad, Hok r h
 needs : s.fNd.length ≤ j
 needk : ∀ x ∈ s.fNd, x.length ≤ 3 ∧ ∀ h ∈ x, Hok r h
structure RuOk (r : S57) : Prop where
 n : r.fCx.length ≤ 3
 cl : ∀ c ∈ r.fCx, c.fLf.length ≤ 3
 cr : ∀ c ∈ r.fCx, c.fRt.length ≤ 3
variable {r : S57}
theorem RuOk.rok (h : RuOk r) : Rok r := fun i c hc => by
 obtain ⟨_, h1, _⟩ := idx_some hc
 have := h.cr c (zE h1)
 omega
variable {j : Nat} {s : S82}
theorem SInv.ok (hr : RuOk r) (h : SInv r j s) (hj : j ≤ 100000) : StOk r s := by
 have h1 := hr.n
 have h2 := h.bad
 have h3 := h.needs
 exact ⟨om, h.left, fun c hc => by have := hr.cl c hc; omega, hr.rok, om, h.badk, om, fun x hx => ⟨by have := (h.needk x hx).1; omega, (h.needk x hx).2⟩⟩
theorem f49_eq (m : Nat) (r : S57) (s : S82) (hr : RuOk r) (h : SInv r j s) (hj : j ≤ 100000) (hm : 1000001 ≤ m) : f49 m s = some (keyB s) := by
 have h0 := hr.n
 have h1 := h.left
 have h2 := h.bad
 have h3 := h.needs
 unfold f49
 rw [f49_b1 m s m [] om (by simp; omega)]
 simp only [brk, List.nil_append]
 rw [f49_b2 m s m _ om (by simp; omega)]
 simp only [brk]
 rw [Tg.app_ok (by decide) (by simp; omega)]
 simp only [bnd_some']
 have := iter_app (fun (y : (List Int) × Int) => f49_B4 m s y.1 y.2) s.fNd needL 4 10000000 om (fun x hx => by
  have := (h.needk x hx).1
  simp [needL]; omega) (fun i x a hx ha => by
  have hi := yE hx
  have hx3 := (h.needk x (zE hx)).1
  show f49_B4 m s a (i : Int) = _
  unfold f49_B4
  rw [show decide ((i : Int) < (s.fNd.length : Int)) = true by simpa using hi, idx_get, hx]
  simp only [cnd_true, bnd_some']
  rw [f49_b3 m x m a om om]
  simp only [brk]
  rw [Tg.app_ok (by decide) (by simp; omega)]
  simp only [bnd_some', needL, List.append_assoc]) (fun a => by
  show f49_B4 m s a _ = _
  unfold f49_B4
  rw [show decide ((s.fNd.length : Int) < (s.fNd.length : Int)) = false by simp]
  rfl) m 0 (s.fLf.map wB ++ s.fBad.map hB ++ [255]) (Nat.zero_le _) om (by simp; omega)
 rw [List.drop_zero] at this
 rw [show ((0 : Nat) : Int) = 0 from rfl] at this
 rw [this]
 rfl
theorem goH_mem {x : S111} : ∀ {p : S111} {l : List S111}, x ∈ Tu.goC p l → x ∈ l
 | p, [], h => by simp [Tu.goC] at h
 | p, y :: r, h => by
  unfold Tu.goC at h
  split at h
  ·exact zF _ (goH_mem h)
  ·rcases List.mem_cons.1 h with rfl | h
   ·exact zH ..
   ·exact zF _ (goH_mem h)
theorem goH_len : ∀ (p : S111) (l : List S111), (Tu.goC p l).length ≤ l.length
 | p, [] => by simp [Tu.goC]
 | p, y :: r => by
  have := goH_len y r
  unfold Tu.goC
  split <;> simp only [List.length_cons] <;> omega
variable {l : List S111} {x : S111}
theorem coH_mem (h : x ∈ Tu.compactL l) : x ∈ l := by
 cases l with
 | nil => exact h
 | cons y r =>
  rcases List.mem_cons.1 h with rfl | h
  ·exact zH ..
  ·exact zF _ (goH_mem h)
theorem coH_len (l : List S111) : (Tu.compactL l).length ≤ l.length := by
 cases l with
 | nil => exact zL _
 | cons y r =>
  have := goH_len y r
  show (y :: Tu.goC y r).length ≤ _
  simp only [List.length_cons]; omega
theorem goN_mem {x : List S111} : ∀ {p : List S111} {l : List (List S111)}, x ∈ Tv.goC p l → x ∈ l
 | p, [], h => by simp [Tv.goC] at h
 | p, y :: r, h => by
  unfold Tv.goC at h
  split at h
  ·exact zF _ (goN_mem h)
  ·rcases List.mem_cons.1 h with rfl | h
   ·exact zH ..
   ·exact zF _ (goN_mem h)
theorem goN_len : ∀ (p : List S111) (l : List (List S111)), (Tv.goC p l).length ≤ l.length
 | p, [] => by simp [Tv.goC]
 | p, y :: r => by
  have := goN_len y r
  unfold Tv.goC
  split <;> simp only [List.length_cons] <;> omega
theorem coN_mem {x : List S111} {l : List (List S111)} (h : x ∈ Tv.compactL l) : x ∈ l := by
 cases l with
 | nil => exact h
 | cons y r =>
  rcases List.mem_cons.1 h with rfl | h
  ·exact zH ..
  ·exact zF _ (goN_mem h)
theorem coN_len (l : List (List S111)) : (Tv.compactL l).length ≤ l.length := by
 cases l with
 | nil => exact zL _
 | cons y r =>
  have := goN_len y r
  show (y :: Tv.goC y r).length ≤ _
  simp only [List.length_cons]; omega
theorem ordH_len (l : List S111) : (ordH l).length ≤ l.length := by
 have := coH_len (hps (srtC cfH (l.map toHP)))
 rw [hps, List.length_map, srtH_length, List.length_map] at this
 exact this
theorem ordH_mem (hn : r.fCx.length ≤ 1000000) (hk : ∀ h ∈ l, Hok r h) (h : x ∈ ordH l) : x ∈ l := by
 have h1 := coH_mem h
 obtain ⟨y, hy, rfl⟩ := List.mem_map.1 h1
 obtain ⟨z, hz, rfl⟩ := List.mem_map.1 ((srtC_perm _).mem_iff.1 hy)
 rw [hokLt hn (hk z hz)]
 exact hz
theorem ordL_len (l : List (List S111)) : (ordL l).length ≤ l.length := by
 have := coN_len (hls (srtC cfL (l.map toHL)))
 rw [hls, List.length_map, srtL_length, List.length_map] at this
 exact this
theorem ordL_mem (hn : r.fCx.length ≤ 1000000) {l : List (List S111)} (hk : ∀ x ∈ l, x.length ≤ 1000000 ∧ ∀ h ∈ x, Hok r h) {x : List S111} (h : x ∈ ordL l) : x ∈ l := by
 have h1 := coN_mem h
 obtain ⟨y, hy, rfl⟩ := List.mem_map.1 h1
 obtain ⟨z, hz, rfl⟩ := List.mem_map.1 ((srtC_perm _).mem_iff.1 hy)
 rw [toHL_ok hn (hk z hz).1 (hk z hz).2]
 exact hz
theorem leftsB_len (p : S48) : ∀ (cs : List S72) (ls : List Int), ls.length = cs.length → (leftsB p cs ls).length = cs.length
 | [], [], _ => rfl
 | [], _ :: _, h => by simp at h
 | _ :: _, [], h => by simp at h
 | c :: cs, l :: ls, h => by
  have := leftsB_len p cs ls (by simpa using h)
  simp only [leftsB, List.length_cons, this]
theorem needsB_len (r : S57) (p : S48) : ∀ (xs A : List (List S111)), (needsB r p xs A).1.length ≤ A.length + xs.length
 | [], A => by simp [needsB]
 | x :: xs, A => by
  unfold needsB
  split
  ·simp
  ·have := needsB_len r p xs (if fulB r (onS r p x) false then A else A ++ [onS r p x])
   split at this <;> simp only [List.length_append, List.length_cons, List.length_nil] at this ⊢ <;> rename_i h <;> simp only [h, if_true, if_false, Bool.false_eq_true] <;> omega
theorem needsB_k {r : S57} {p : S48} (hr : Rok r) : ∀ (xs A : List (List S111)), (∀ x ∈ xs, x.length ≤ 3 ∧ ∀ h ∈ x, Hok r h) → (∀ x ∈ A, x.length ≤ 3 ∧ ∀ h ∈ x, Hok r h) → ∀ x ∈ (needsB r p xs A).1, x.length ≤ 3 ∧ ∀ h ∈ x, Hok r h
 | [], A, _, h2 => h2
 | y :: ys, A, h1, h2 => by
  have hy := h1 y (zH ..)
  have hys := fun x hx => h1 x (zF _ hx)
  unfold needsB
  split
  ·exact h2
  ·refine needsB_k hr ys _ hys ?_
   split
   ·exact h2
   ·intro x hx
    rcases List.mem_append.1 hx with hx | hx
    ·exact h2 x hx
    ·simp at hx
     subst hx
     exact ⟨by have := onS_len r p y; omega, onS_ok hr hy.2⟩
theorem sinv_start (r : S57) : SInv r 0 ⟨List.replicate r.fCx.length 1, [], []⟩ :=
 ⟨by simp, by simp, fun h hh => by simp at hh, by simp, fun h hh => by simp at hh⟩
theorem SInv.mono {i : Nat} (h : SInv r i s) (hj : i ≤ j) : SInv r j s := ⟨h.left, by have := h.bad; omega, h.badk, by have := h.needs; omega, h.needk⟩
theorem sinv_step (p : S48) (hr : RuOk r) (h : SInv r j s) : SInv r (j + 1) (stepB r s p).1 := by
 have h0 := hr.n
 have hb := h.bad
 have hn := h.needs
 have h1 := leftsB_len p r.fCx s.fLf h.left
 have h2 := onS_len r p s.fBad
 have h2k := onS_ok (p := p) hr.rok h.badk
 have h3 := hereB_len r.fCx s.fLf 0
 have h3k := hereB_ok r r.fCx s.fLf 0 rfl
 have h4 := needsB_len r p s.fNd []
 have h4k := needsB_k (p := p) hr.rok s.fNd [] h.needk (fun x hx => by simp at hx)
 have h5 : (badB r p (onS r p s.fBad) (hereB r.fCx s.fLf 0)).length ≤ 3 * (j + 1) := by
  unfold badB
  split
  ·rw [List.length_append]; omega
  ·omega
 have h5k : ∀ h ∈ badB r p (onS r p s.fBad) (hereB r.fCx s.fLf 0), Hok r h := by
  unfold badB
  split
  ·intro x hx
   rcases List.mem_append.1 hx with hx | hx
   ·exact h2k x hx
   ·exact h3k x hx
  ·exact h2k
 have h6 : ∀ A : List (List S111), (ownN r p (hereB r.fCx s.fLf 0) A).length ≤ A.length + 1 := by
  intro A
  unfold ownN
  split
  ·split
   ·omega
   ·simp
  ·omega
 have h6k : ∀ A : List (List S111), (∀ x ∈ A, x.length ≤ 3 ∧ ∀ h ∈ x, Hok r h) → ∀ x ∈ ownN r p (hereB r.fCx s.fLf 0) A, x.length ≤ 3 ∧ ∀ h ∈ x, Hok r h := by
  intro A hA
  unfold ownN
  split
  ·split
   ·exact hA
   ·intro x hx
    rcases List.mem_append.1 hx with hx | hx
    ·exact hA x hx
    ·simp at hx
     subst hx
     exact ⟨om, h3k⟩
  ·exact hA
 unfold stepB
 rcases hz : needsB r p s.fNd [] with ⟨A, b⟩
 rw [hz] at h4 h4k
 have h4 : A.length ≤ 0 + s.fNd.length := h4
 have h4k : ∀ x ∈ A, x.length ≤ 3 ∧ ∀ h ∈ x, Hok r h := h4k
 have h7 := h6 A
 have h7k := h6k A h4k
 cases b
 ·exact ⟨h1, by show (onS r p s.fBad).length ≤ _; omega, h2k, by show A.length ≤ _; omega, h4k⟩
 ·dsimp only
  split
  ·exact ⟨h1, h5, h5k, by show A.length ≤ _; omega, h4k⟩
  ·split
   ·exact ⟨h1, h5, h5k, by show (ownN r p _ A).length ≤ _; omega, h7k⟩
   ·refine ⟨h1, Nat.le_trans (ordH_len _) h5, fun x hx => h5k x (ordH_mem om h5k hx), ?_, fun x hx => h7k x (ordL_mem (r := r) om (fun y hy => ⟨by have := (h7k y hy).1; omega, (h7k y hy).2⟩) hx)⟩
    have := ordL_len (ownN r p (hereB r.fCx s.fLf 0) A)
    show (ordL _).length ≤ _
    omega
abbrev start (r : S57) : S82 := ⟨List.replicate r.fCx.length 1, [], []⟩
def rowB (r : S57) (s : S82) : List S48 → Nat → List S82 → List ByteArray → List Int → List S82 × List ByteArray × List Int
 | [], _, L, K, R => (L, K, R)
 | p :: ps, k, L, K, R =>
  if (stepB r s p).2 then
   match kfind (keyB (stepB r s p).1) K 0 with
   | some n => rowB r s ps (k + 1) L K (R.set k (n : Int))
   | none => rowB r s ps (k + 1) (L ++ [(stepB r s p).1]) (K ++ [keyB (stepB r s p).1]) (R.set k (L.length : Int))
  else rowB r s ps (k + 1) L K (R.set k (-1))
def oneB (r : S57) (ps : List S48) : Nat → Nat → List S82 → List ByteArray → List (List Int) → List Bool → Option (Option (List (List Int) × List Bool))
 | 0, _, _, _, _, _ => none
 | m + 1, i, L, K, N, F => match L[i]? with
  | none => some (some (N, F))
  | some s => match rowB r s ps 0 L K (List.replicate ps.length 0) with
   | (L', K', R) => if 20000 < L'.length then some none else oneB r ps m (i + 1) L' K' (N ++ [R]) (F ++ [endsB r s])
def f28 (m : Nat) (r : S57) (ps : List S48) : Option (S27 × S29) := match oneB r ps 20002 0 [start r] [keyB (start r)] [] [] with
 | none => none
 | some none => some (⟨0, [], []⟩, ⟨17, -1⟩)
 | some (some (N, F)) => f47 m (numL ps.length) N F
structure LInv (r : S57) (L : List S82) (K : List ByteArray) : Prop where
 len : K.length = L.length
 st : ∀ j s, L[j]? = some s → SInv r j s
theorem LInv.push {r : S57} {L : List S82} {K : List ByteArray} (h : LInv r L K) {i : Nat} {s : S82} {p : S48} (hr : RuOk r) (hi : i < L.length) (hs : SInv r i s) (k : ByteArray) : LInv r (L ++ [(stepB r s p).1]) (K ++ [k]) := by
 refine ⟨by simp [h.len], fun j x hx => ?_⟩
 by_cases hj : j < L.length
 ·rw [zJ hj] at hx
  exact h.st j x hx
 ·have hj2 := yE hx
  rw [List.length_append, List.length_singleton] at hj2
  have : j = L.length := by omega
  subst this
  rw [zK (zL _), Nat.sub_self] at hx
  cases hx
  exact (sinv_step p hr hs).mono om
structure RowTo (r : S57) (L : List S82) (ps : List S48) (n : Nat) (g : List S82 × List ByteArray × List Int) : Prop where
 inv : LInv r g.1 g.2.1
 lo : L.length ≤ g.1.length
 hi : g.1.length ≤ L.length + ps.length
 row : g.2.2.length = n
 old : ∀ (j : Nat) x, L[j]? = some x → g.1[j]? = some x
theorem rowB_to {r : S57} (hr : RuOk r) {i : Nat} {s : S82} (hs : SInv r i s) : ∀ (ps : List S48) (k : Nat) (L : List S82) (K : List ByteArray) (R : List Int), LInv r L K → i < L.length → RowTo r L ps R.length (rowB r s ps k L K R)
 | [], k, L, K, R, hI, hi => ⟨hI, zL _, by simp [rowB], rfl, fun _ _ h => h⟩
 | p :: ps, k, L, K, R, hI, hi => by
  have go : ∀ (K' : List ByteArray) (X : List S82) (R' : List Int), LInv r (L ++ X) K' → X.length ≤ 1 → R'.length = R.length → RowTo r L (p :: ps) R.length (rowB r s ps (k + 1) (L ++ X) K' R') := by
   intro K' X R' hI' hX hR
   have h := rowB_to hr hs ps (k + 1) (L ++ X) K' R' hI' (by rw [List.length_append]; omega)
   have h1 := h.lo
   have h2 := h.hi
   rw [List.length_append] at h1 h2
   exact ⟨h.inv, om, by rw [List.length_cons]; omega, by rw [h.row, hR], fun j x hx => h.old j x (by rw [zJ (yE hx)]; exact hx)⟩
  unfold rowB
  split
  ·split
   ·rename_i n _
    have := go K [] (R.set k (n : Int)) (by rw [List.append_nil]; exact hI) (by simp) (by simp)
    rw [List.append_nil] at this
    exact this
   ·exact go _ [(stepB r s p).1] _ (hI.push hr hi hs _) (by simp) (by simp)
  ·have := go K [] (R.set k (-1)) (by rw [List.append_nil]; exact hI) (by simp) (by simp)
   rw [List.append_nil] at this
   exact this
theorem rowB_lt {r : S57} (hr : RuOk r) {i : Nat} {s : S82} (hs : SInv r i s) : ∀ (ps : List S48) (k : Nat) (L : List S82) (K : List ByteArray) (R : List Int), LInv r L K → i < L.length → (∀ t ∈ R, -1 ≤ t ∧ t < (L.length : Int)) →
  ∀ t ∈ (rowB r s ps k L K R).2.2, -1 ≤ t ∧ t < ((rowB r s ps k L K R).1.length : Int)
 | [], k, L, K, R, hI, hi, hR => hR
 | p :: ps, k, L, K, R, hI, hi, hR => by
  have hL := hI.len
  unfold rowB
  split
  ·split
   ·rename_i n hn
    have := kfind_lt hn
    refine rowB_lt hr hs ps (k + 1) L K _ hI hi fun t ht => ?_
    rcases List.mem_or_eq_of_mem_set ht with h | rfl
    ·exact hR t h
    ·omega
   ·refine rowB_lt hr hs ps (k + 1) _ _ _ (hI.push hr hi hs _) (by rw [List.length_append]; omega) fun t ht => ?_
    rw [List.length_append, List.length_singleton]
    rcases List.mem_or_eq_of_mem_set ht with h | rfl
    ·have := hR t h
     omega
    ·omega
  ·refine rowB_lt hr hs ps (k + 1) L K _ hI hi fun t ht => ?_
   rcases List.mem_or_eq_of_mem_set ht with h | rfl
   ·exact hR t h
   ·omega
theorem oneB_ok {r : S57} (hr : RuOk r) {ps : List S48} : ∀ (m i : Nat) (L : List S82) (K : List ByteArray) (N : List (List Int)) (F : List Bool) (g : List (List Int) × List Bool), LInv r L K → N.length = i → F.length = i → i ≤ L.length → L.length ≤ 20000 →
  (∀ x ∈ N, x.length = ps.length ∧ ∀ t ∈ x, -1 ≤ t ∧ t < (L.length : Int)) → 0 < L.length → oneB r ps m i L K N F = some (some g) → OkT g.1 g.2 ps.length
 | 0, i, L, K, N, F, g, hI, h1, h2, h3, h4, h5, h6, h => by cases h
 | m + 1, i, L, K, N, F, g, hI, h1, h2, h3, h4, h5, h6, h => by
  unfold oneB at h
  split at h
  ·rename_i hn
   have := List.getElem?_eq_none_iff.1 hn
   cases h
   exact ⟨by show N.length ≤ _; omega, by show F.length = N.length; omega, fun x hx => (h5 x hx).1, fun x hx t ht => by
    have := (h5 x hx).2 t ht
    show -1 ≤ t ∧ t < (N.length : Int)
    omega⟩
  ·rename_i s hs
   have hi := yE hs
   have hsv := hI.st i s hs
   have h7 := rowB_to hr hsv ps 0 L K (List.replicate ps.length 0) hI hi
   have h8 := rowB_lt hr hsv ps 0 L K (List.replicate ps.length 0) hI hi (fun t ht => by rw [(List.mem_replicate.1 ht).2]; omega)
   rcases hz : rowB r s ps 0 L K (List.replicate ps.length 0) with ⟨L', K', R⟩
   rw [hz] at h h7 h8
   dsimp only at h h8
   split at h
   ·cases h
   ·have h9 := h7.lo
    have h10 : R.length = ps.length := by rw [h7.row, zV]
    have h9 : L.length ≤ L'.length := h9
    refine oneB_ok hr m (i + 1) L' K' (N ++ [R]) _ g h7.inv (by simp [h1]) (by simp [h2]) om om (fun x hx => ?_) om h
    rcases List.mem_append.1 hx with hx | hx
    ·exact ⟨(h5 x hx).1, fun t ht => by have := (h5 x hx).2 t ht; omega⟩
    ·simp at hx
     subst hx
     exact ⟨h10, h8⟩
end Go.Abs.Tw
