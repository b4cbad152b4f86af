import Derived.Test.YtgmbaemdedachaaTC
import Derived.KernelRfl
import Derived.Test.YtgmbaemdedachaaTF
namespace Go.Abs
open Go.Proofs Go.Abs.Ta
set_option linter.unusedVariables false
set_option linter.unusedSimpArgs false
set_option linter.unnecessarySimpa false
set_option maxRecDepth 100000
namespace Uv
def clD (n : Nat) : List V → D
 | [] => .v (.sl .full [])
 | x :: r => .osl n 0 (x :: r).length false
def clO : List V → AObj
 | [] => .dead
 | x :: r => .row 1 (x :: r)
def clnR : List D → List AObj → Option (D × List AObj)
 | [.v (.sl fl xs)], h => if xs.length * 8 ≤ 140737488355328 ∧ xs.length ≤ maxLen ∧ headOk 1 xs = true then some (clD h.length xs, h ++ [clO xs]) else none
 | _, _ => none
namespace Cln
def E : Env := { T := TM, pureF := fun _ => false, keep := fun _ => ⟨fun _ => [], fun _ => [], fun _ => []⟩, acc := fun _ => [], rowF := fun _ => false, rowM := true, ora := fun _ => none, oraD := fun _ => none }
def X : Cx := ⟨E, fun _ _ _ => none, ⟨fun _ => [], fun _ => [], fun _ => []⟩, [], 0⟩
theorem hx : Hx False Try.prog X := ⟨kr, TM_ok, fun f ds h d h' hh => nomatch hh⟩
theorem is65 : Is Try.prog 65 := ⟨Try.f65, Try.func65, kr, kr⟩
theorem app0 (h : List AObj) : appendD TM true 62 h (.v (.sl .nonfull [])) (.v (.sl .non [])) = some (.v (.sl .nonfull []), h ++ [.dead]) := rfl
theorem app1 (h : List AObj) (x : V) (r : List V) (hb : (x :: r).length * 8 ≤ 140737488355328) (hl : (x :: r).length ≤ maxLen) (hk : headOk 1 (x :: r) = true) : appendD TM true 62 h (.v (.sl .nonfull [])) (.v (.sl .non (x :: r))) = some (.osl h.length 0 (x :: r).length false, h ++ [.row 1 (x :: r)]) := by
 have hT : TM 62 = some ti62 := rfl
 have hT2 : TM 3 = some ti3 := rfl
 have hkd : ti62.kind = .slice 3 := rfl
 unfold appendD
 simp only [hT, hkd, hT2]
 rw [if_neg (by decide)]
 have he : elemsOf ti3.size h (D.unt (.v (.sl .non (x :: r)))) = some (x :: r) := by
  show (if headOk 1 (x :: r) = true then _ else _) = _
  rw [if_pos hk]
 rw [he]
 have h8 : ti3.bytes = 8 := rfl
 have h1 : ti3.size = 1 := rfl
 show (if _ then _ else none) = _
 rw [if_pos (by
  simp only [Bool.and_eq_true, decide_eq_true_eq, h8, List.length_nil, Nat.zero_add]
  exact ⟨⟨⟨rfl, rfl⟩, hb⟩, hl⟩)]
 simp [h1]
variable {h : List AObj}
theorem callT_z {xs : List V} (hb : xs.length * 8 ≤ 140737488355328) (hl : xs.length ≤ maxLen) (hk : headOk 1 xs = true) : CallT False Try.prog 65 [.v (.sl .non xs)] h fun d h' => (d = .v (.sl .nonfull []) ∧ xs = [] ∨ d = .osl h.length 0 xs.length false ∧ xs ≠ []) ∧ h' = h ++ [clO xs] := by
 have hr : resOf Try.prog 65 = [.tmp 2] := by kernel_rfl
 have fin : ∀ (σ : St) (d : D), σ.tmps.getD 2 .undef = d → resultsD TM σ (resOf Try.prog 65) = some d := fun σ d h4 => by
  rw [hr]; simp only [resultsD, allM, resultD, h4]
 cases xs with
 | nil =>
  refine callT_of_ht (c := bodyOf Try.prog 65) (T := TM) Try.func65 kr TM_ok ?_
  refine Hs <| Hr hx <| Og 1 <| On <| Hs <| Hs <| Hr hx <| Og 2 <| On <| Hz <| Hk <| seqH.n <| Hs <| Hr hx <| Og 2 <| Oo (fun h0 e0 => app0 h0) <| Og 1 <| On <| Ht.ret kr ?_
  exact ⟨.inr rfl, _, fin _ (.v (.sl .nonfull [])) kr, .inl ⟨rfl, rfl⟩, kr⟩
 | cons x r =>
  refine callT_of_ht (c := bodyOf Try.prog 65) (T := TM) Try.func65 kr TM_ok ?_
  refine Hs <| Hr hx <| Og 1 <| On <| Hs <| Hs <| Hr hx <| Og 2 <| On <| Hz <| Hk <| seqH.n <| Hs <| Hr hx <| Og 2 <| Oo (fun h0 e0 => app1 h0 x r hb hl hk) <| Og 1 <| On <| Ht.ret kr ?_
  exact ⟨.inr rfl, _, fin _ (.osl h.length 0 (x :: r).length false) kr, .inr ⟨rfl, List.cons_ne_nil _ _⟩, kr⟩
theorem callT_n : CallT False Try.prog 65 [.v (.sl .nil [])] h fun d h' => d = .v (.sl .nil []) ∧ h' = h := by
 have hr : resOf Try.prog 65 = [.tmp 2] := by kernel_rfl
 have fin : ∀ (σ : St) (d : D), σ.tmps.getD 2 .undef = d → resultsD TM σ (resOf Try.prog 65) = some d := fun σ d h4 => by
  rw [hr]; simp only [resultsD, allM, resultD, h4]
 refine callT_of_ht (c := bodyOf Try.prog 65) (T := TM) Try.func65 kr TM_ok ?_
 refine Hs <| Hr hx <| Og 1 <| On <| Hs <| Hs <| Hr hx <| Og 2 <| On <| Hy <| Hs <| Hr hx <| Og 1 <| On <| Ht.ret kr ?_
 exact ⟨.inr rfl, .v (.sl .nil []), fin _ _ kr, rfl, rfl⟩
end Cln
theorem rel_full {S : Nat → Nat → Prop} {β : Blocks} {w : World} {v : Value} {fl : SFlag} (hf : fl.isFull = true) (h : RelD S β w v (.v (.sl fl []))) : RelD S β w v (.v (.sl .full [])) := by
 have h := h.of_v
 refine .v _ _ ?_
 cases h with
 | slnil _ hn => exact .slnil _ (by decide)
 | slemp _ a cap h1 h2 h3 => exact .slemp _ a cap (by decide) (fun _ => h2 hf) h3
 | sl _ b off cap k n _ vals hn h1 h2 h3 h4 hk hs hr => exact .sl _ b off cap k n _ vals hn (by decide) (fun _ => h2 hf) h3 h4 hk hs hr
theorem orad65 : DOk False Try.prog 65 clnR := by
 refine ⟨Cln.is65, fun ds h d h' hd => ?_⟩
 unfold clnR at hd
 split at hd
 case h_2 => cases hd
 rename_i fl xs
 split at hd
 case isFalse => cases hd
 rename_i hc
 obtain ⟨hb, hl, hk⟩ := hc
 obtain ⟨rfl, rfl⟩ := zM (zC hd)
 intro S β w vs hr hi
 obtain ⟨v, rfl, hv⟩ := one_arg hr
 have hv := hv.of_v
 have non : RelV S w v (.sl .non xs) → Calls Try.prog 65 #[v] w fun e w' => ∃ v S' β', e = .returned v ∧ Ext False S β w S' β' w' ∧ HInv S' β' w' (h ++ [clO xs]) ∧ RelD S' β' w' v (clD h.length xs) := by
  intro hv'
  refine (Cln.callT_z hb hl hk S β w #[v] ⟨rfl, fun i u d h1 h2 => ?_⟩ hi).mono ?_
  ·match i with
   | 0 => cases h1; cases h2; exact .v _ _ hv'
   | i + 1 => cases h2
  ·rintro e w' ⟨d, h', v', S', β', ⟨hd, rfl⟩, h2, h3, h4, h5⟩
   refine ⟨v', S', β', h2, h3, h4, ?_⟩
   rcases hd with ⟨rfl, rfl⟩ | ⟨rfl, hne⟩
   ·exact rel_full rfl h5
   ·cases xs with
    | nil => exact absurd rfl hne
    | cons x r => exact h5
 cases hv with
 | slnil _ hn =>
  refine (Cln.callT_n (h := h) S β w #[.slice none 0 0] ⟨rfl, fun i u d h1 h2 => ?_⟩ hi).mono ?_
  ·match i with
   | 0 => cases h1; cases h2; exact .v _ _ (.slnil _ (by decide))
   | i + 1 => cases h2
  ·rintro e w' ⟨d, h', v', S', β', ⟨rfl, rfl⟩, h2, h3, h4, h5⟩
   obtain ⟨e1, e2⟩ := h4.pad (DR := False)
   have h5 := h5.of_v
   refine ⟨v', S', _, h2, h3.trans e1, e2, .v _ _ ?_⟩
   cases h5 with
   | slnil _ hn => exact .slnil _ (by decide)
   | slemp _ a cap h1 h2 h3 => exact .slemp _ a cap (by decide) (fun _ => h2 rfl) h3
   | sl _ b off cap k n _ vals hn h1 h2 h3 h4 hk hs hr => exact .sl _ b off cap k n _ vals hn (by decide) (fun _ => h2 rfl) h3 h4 hk hs hr
 | slemp _ a cap h1 h2 h3 => exact non (.slemp _ a cap (by decide) (fun h => nomatch h) h3)
 | sl _ b off cap k n _ vals hn h1 h2 h3 h4 hk' hs hr => exact non (.sl _ b off cap k n _ vals hn (by decide) (fun h => nomatch h) h3 h4 hk' hs hr)
end Uv
end Go.Abs
namespace Go.Abs.Tg
open Go.Sort Go.Proofs Go.Abs.Ta Go.Abs.Tb Go.Abs.Tc Go.Abs.Te Go.Abs.Tf
set_option linter.unusedVariables false
set_option maxRecDepth 100000
set_option maxHeartbeats 4000000
def bkAdd (s : Int) : List Int → List (List Int) → Option (List (List Int))
 | [], B => some B
 | to :: r, B => if 0 ≤ to then match B[to.toNat]? with
   | none => none
   | some l => if l.length < 100000000 then bkAdd s r (B.set to.toNat (l ++ [s])) else none
  else bkAdd s r B
def bkAll (fin : List Bool) : List (List Int) → Nat → List (List Int) → List Int → Option (List (List Int) × List Int)
 | [], _, B, T => some (B, T)
 | row :: rest, s, B, T => match bkAdd s row B with
  | none => none
  | some B' => match fin[s]? with
   | none => none
   | some f => if T.length < 100000000 then bkAll fin rest (s + 1) B' (if f then T ++ [(s : Int)] else T) else none
def dfs (B : List (List Int)) : Nat → List Int → List Bool → Option (List Bool)
 | 0, _, _ => none
 | n + 1, T, Us => match T.getLast? with
  | none => some Us
  | some s => match idx Us s with
   | none => none
   | some true => dfs B n T.dropLast Us
   | some false => match idx B s with
    | none => none
    | some l => if T.length + l.length < 100000000 then dfs B n (T.dropLast ++ l) (Us.set s.toNat true) else none
def cutRow (Us : List Bool) : List Int → Option (List Int)
 | [] => some []
 | to :: r => if 0 ≤ to then match idx Us to, cutRow Us r with
   | some u, some r' => some ((if u then to else -1) :: r')
   | _, _ => none
  else (cutRow Us r).map (to :: ·)
def cutAll (Us : List Bool) : List (List Int) → Option (List (List Int))
 | [] => some []
 | row :: rest => match cutRow Us row, cutAll Us rest with
  | some a, some b => some (a :: b)
  | _, _ => none
def somes : List Int → Nat → List Int → Option (List Int)
 | [], _, S => some S
 | c :: r, s, S => match upd S c (s : Int) with
  | none => none
  | some S' => somes r (s + 1) S'
def arcsF (cls labels : List Int) (i : Nat) : List Int → Nat → List Int → List Int → List S52 → Option (List Int × List Int × List S52)
 | [], _, O, P, A => some (O, P, A)
 | to :: r, k, O, P, A => if to < 0 then arcsF cls labels i r (k + 1) O P A else match idx cls to with
  | none => none
  | some c => match idx P c, labels[k]? with
   | some p, some x => if O.length < 100000000 ∧ A.length < 100000000 then
     (if p < 0 then arcsF cls labels i r (k + 1) (O ++ [c]) (P.set c.toNat O.length) (A ++ [⟨i, O.length, x, x, 0⟩])
      else arcsF cls labels i r (k + 1) O P (A ++ [⟨i, p, x, x, 0⟩])) else none
   | _, _ => none
def outF (rows : List (List Int)) (fin : List Bool) (cls labels some' : List Int) : Nat → Nat → List Int → List Int → List S52 → List S54 → Option (S27 × S29)
 | 0, _, _, _, _, _ => none
 | n + 1, i, O, P, A, F => match O[i]? with
  | none => some (⟨O.length, A, F⟩, ⟨0, 0⟩)
  | some o => match idx some' o with
   | none => none
   | some s => match idx rows s, idx fin s with
    | some row, some f => match arcsF cls labels i row 0 O P A with
     | none => none
     | some (O', P', A') => if 400 < O'.length ∨ 2000 < A'.length then some (⟨0, [], []⟩, ⟨17, -1⟩)
      else outF rows fin cls labels some' n (i + 1) O' P' A' (if f then F ++ [⟨i, 0⟩] else F)
    | _, _ => none
def f47b (m : Nat) (labels : List Int) (rows : List (List Int)) (fin : List Bool) : Option (S27 × S29) := match f66 m rows fin with
 | none => none
 | some (cls, count) => if 0 ≤ count ∧ count ≤ 20000 then match somes cls 0 (List.replicate count.toNat 0), cls[0]? with
   | some S, some c => match upd (List.replicate count.toNat (-1)) c 0 with
    | none => none
    | some P => outF rows fin cls labels S 1000 0 [c] P [] []
   | _, _ => none
  else none
def f47 (m : Nat) (labels : List Int) (next : List (List Int)) (fin : List Bool) : Option (S27 × S29) :=
 if next.length ≤ 20000 ∧ (next.all fun r => decide (r.length ≤ 20000)) = true then
  match bkAll fin next 0 (List.replicate next.length []) [] with
  | none => none
  | some (B, T) => match dfs B m T (List.replicate next.length false) with
   | none => none
   | some Us => match Us[0]? with
    | none => some (⟨0, [], []⟩, ⟨0, 0⟩)
    | some false => some (⟨0, [], []⟩, ⟨0, 0⟩)
    | some true => match cutAll Us next with
     | none => none
     | some rows => f47b m labels rows fin
 else none
def bD (p : Nat) (l : List Int) : D := match l with
 | [] => .v nilS
 | _ :: _ => .tsl p (l.map eI)
def bG (G : List AObj) (p : Nat) (l : List Int) : List AObj := match l with
 | [] => G
 | _ :: _ => G.set p .dead
theorem bG_len (G : List AObj) (p : Nat) (l : List Int) : (bG G p l).length = G.length := by cases l <;> simp [bG]
theorem bD_elems (h : List AObj) (p : Nat) (l : List Int) : elemsOf 1 h (bD p l).unt = some (l.map eI) := by cases l <;> rfl
structure Bk (G : List AObj) (q : Nat) (ps : Nat → Nat) (B : List (List Int)) (C : List D) : Prop where
 out : G[q]? = some (.cells C)
 len : C.length = B.length
 get : ∀ (i : Nat) l, B[i]? = some l → C[i]? = some (bD (ps i) l)
 tok : ∀ (i : Nat) l, B[i]? = some l → l ≠ [] → G[ps i]? = some (.tok 1 l.length)
 inj : ∀ (i j : Nat) l l', B[i]? = some l → B[j]? = some l' → l ≠ [] → l' ≠ [] → ps i = ps j → i = j
theorem Bk.app {G q ps B C} (h : Bk G q ps B C) (l : List AObj) : Bk (G ++ l) q ps B C := ⟨app_keep h.out, h.len, h.get, fun i l hi hl => app_keep (h.tok i l hi hl), h.inj⟩
variable {p : Nat}
theorem Bk.set {G q ps B C} (h : Bk G q ps B C) {k : Nat} {es : List V} (hp : G[p]? = some (.row k es)) (x : AObj) : Bk (G.set p x) q ps B C :=
 ⟨set_keep (fun e => by rw [e, h.out] at hp; cases hp) h.out, h.len, h.get, fun i l hi hl => set_keep (fun e => by rw [e, h.tok i l hi hl] at hp; cases hp) (h.tok i l hi hl), h.inj⟩
variable {h : List AObj} {l : List Int} {s : Int}
theorem apB (hl : l.length < 100000000) (hp : l ≠ [] → h[p]? = some (.tok 1 l.length)) :
  appendD TM false 62 h (bD p l) (.v (.sl .nonfull [vI s])) = some (.tsl h.length ((l ++ [s]).map eI), bG h p l ++ [AObj.tok 1 (l.length + 1)]) := by
 have h1 : TM 62 = some ti62 := rfl
 have h2 : TM 3 = some ti3 := rfl
 have hx : elemsOf 1 h (D.unt (.v (.sl .nonfull [vI s]))) = some [vI s] := rfl
 simp only [appendD, h1, show ti62.kind = .slice 3 from rfl, h2]
 rw [if_neg (by decide), show ti3.size = 1 from rfl, hx]
 cases l with
 | nil =>
  show (if _ then _ else none) = _
  rw [if_pos (by rfl)]
  rfl
 | cons a r =>
  have hq := hp (by simp)
  simp only [bD, hq]
  rw [if_pos ⟨trivial, by simp, by rw [show ti3.bytes = 8 from rfl]; simp at hl ⊢; omega, by unfold maxLen; simp at hl ⊢; omega⟩]
  simp [vI, eI, bG]
variable {i q : Nat}
theorem stD {cs : List D} {x : D} (hq : h[q]? = some (.cells cs)) (hi : i < cs.length) (hx : x.solid = true ∧ x.cells = [x]) : (storeD ti62 h (.ptr q i) x).map (U, ·) = some (U, h.set q (.cells (cs.set i x))) := by
 have hs : splice cs i [x] = some (cs.set i x) := by
  unfold splice
  rw [if_pos (by simp; omega)]
  rw [List.set_eq_take_append_cons_drop, if_pos hi]
  simp
 have h1 : (x.solid && x.cells.length == ti62.size) = true := by rw [hx.1, hx.2]; rfl
 have h2 : splice cs i x.cells = some (cs.set i x) := by rw [hx.2]; exact hs
 simp only [storeD, h1, if_true, hq, h2, Option.map_some]
theorem Bk.add {G : List AObj} {ps : Nat → Nat} {B : List (List Int)} {C : List D} (h : Bk G q ps B C) (hi : B[i]? = some l) :
  Bk ((bG G (ps i) l ++ [AObj.tok 1 (l.length + 1)]).set q (.cells (C.set i (.tsl G.length ((l ++ [s]).map eI))))) q (fun j => if j = i then G.length else ps j) (B.set i (l ++ [s])) (C.set i (.tsl G.length ((l ++ [s]).map eI))) := by
 have hq := yE h.out
 have hbi := yE hi
 have hps : ∀ (j : Nat) l', B[j]? = some l' → l' ≠ [] → ps j < G.length ∧ ps j ≠ q := fun j l' hj hl' => ⟨yE (h.tok j l' hj hl'), fun e => by
  have := h.tok j l' hj hl'
  rw [e, h.out] at this
  cases this⟩
 have hlen : (bG G (ps i) l).length = G.length := bG_len ..
 have hne : ∀ (p : Nat) (o : AObj), p < G.length → p ≠ q → (l ≠ [] → p ≠ ps i) → G[p]? = some o → ((bG G (ps i) l ++ [AObj.tok 1 (l.length + 1)]).set q (.cells (C.set i (.tsl G.length ((l ++ [s]).map eI)))))[p]? = some o := fun p o h1 h2 h3 h4 => by
  refine set_keep (Ne.symm h2) (app_keep ?_)
  cases l with
  | nil => exact h4
  | cons a r => exact set_keep (Ne.symm (h3 (by simp))) h4
 refine ⟨?_, ?_, fun j l' hj => ?_, fun j l' hj hl' => ?_, fun j k l' l'' hj hk hl' hl'' he => ?_⟩
 ·exact zQ (by rw [List.length_append, hlen]; omega)
 ·rw [zP, zP]; exact h.len
 ·rw [zR] at hj ⊢
  by_cases e : i = j
  ·subst e
   rw [if_pos rfl] at hj ⊢
   rw [if_pos hbi] at hj
   rw [if_pos (by rw [h.len]; exact hbi)]
   cases hj
   rw [if_pos rfl]
   cases l <;> rfl
  ·rw [if_neg e] at hj ⊢
   rw [if_neg (Ne.symm e)]
   exact h.get j l' hj
 ·by_cases e : i = j
  ·subst e
   rw [zQ hbi] at hj
   cases hj
   rw [if_pos rfl]
   refine set_keep om ?_
   rw [← hlen, List.length_append, List.length_singleton]
   exact mid_get _ _ _
  ·rw [zO e] at hj
   rw [if_neg (Ne.symm e)]
   obtain ⟨g1, g2⟩ := hps j l' hj hl'
   exact hne _ _ g1 g2 (fun hl eq => e (h.inj j i l' l hj hi hl' hl eq).symm) (h.tok j l' hj hl')
 ·by_cases e1 : j = i
  ·by_cases e2 : k = i
   ·rw [e1, e2]
   ·rw [if_pos e1, if_neg e2] at he
    rw [zO (Ne.symm e2)] at hk
    have := (hps k l'' hk hl'').1
    omega
  ·by_cases e2 : k = i
   ·rw [if_neg e1, if_pos e2] at he
    rw [zO (Ne.symm e1)] at hj
    have := (hps j l' hj hl').1
    omega
   ·rw [if_neg e1, if_neg e2] at he
    rw [zO (Ne.symm e1)] at hj
    rw [zO (Ne.symm e2)] at hk
    exact h.inj j k l' l'' hj hk hl' hl'' he
def Td (G : List AObj) (d : D) (T : List Int) : Prop := (d = .v nilS ∧ T = []) ∨ ∃ q, d = sI q T.length ∧ G[q]? = some (oI T)
theorem Td.app {G d T} (h : Td G d T) (l : List AObj) : Td (G ++ l) d T := by
 rcases h with h | ⟨q, h1, h2⟩
 ·exact .inl h
 ·exact .inr ⟨q, h1, app_keep h2⟩
set_option maxHeartbeats 4000000
abbrev z28 : AObj := .cells [dI 0, .v nilS, .v nilS]
abbrev z30 : AObj := .cells [dI 0, dI 0]
structure Z (G : List AObj) : Prop where
 g0 : G[0]? = some z28
 g1 : G[1]? = some z30
theorem Z.app {G} (h : Z G) (l : List AObj) : Z (G ++ l) := ⟨app_keep h.g0, app_keep h.g1⟩
variable {p : Nat}
theorem Z.set {G} (h : Z G) (hp : 2 ≤ p) (x : AObj) : Z (G.set p x) := ⟨set_keep om h.g0, set_keep om h.g1⟩
theorem Z.pos {G} (h : Z G) {k : Nat} {es : List V} (hp : G[p]? = some (.row k es)) : 2 ≤ p := by
 match p, hp with
 | 0, hp => rw [h.g0] at hp; cases hp
 | 1, hp => rw [h.g1] at hp; cases hp
 | p + 2, _ => omega
variable {B : List (List Int)} {G : List AObj}
theorem Bk.add_keep {q : Nat} {ps : Nat → Nat} {C : List D} (h : Bk G q ps B C) {i : Nat} {l : List Int} {s : Int} (hi : B[i]? = some l) {o : AObj} (hp : G[p]? = some o) (hq : p ≠ q) (ho : ∀ k n, o ≠ .tok k n) :
  ((bG G (ps i) l ++ [AObj.tok 1 (l.length + 1)]).set q (.cells (C.set i (.tsl G.length ((l ++ [s]).map eI)))))[p]? = some o := by
 refine set_keep (Ne.symm hq) (app_keep ?_)
 cases l with
 | nil => exact hp
 | cons a r =>
  exact set_keep (fun e => by
   have := h.tok i (a :: r) hi (by simp)
   rw [e, hp] at this
   exact ho _ _ (zC this)) hp
structure P1 (G : List AObj) (N : Nat) (B : List (List Int)) (d : D) (T : List Int) : Prop where
 z : Z G
 bk : ∃ ps C, Bk G 2 ps B C
 len : B.length = N
 td : Td G d T
noncomputable def C47 : Code := bodyOf Try.prog 47
noncomputable abbrev LA47 : Code := cL (cR (cR (cR C47)))
noncomputable abbrev BL47 : Code := cL (cL (cR (cR (cL (cL (cR LA47))))))
noncomputable abbrev RW47 : Code := cL (cR BL47)
abbrev lB (labels : List Int) (next : List (List Int)) (fin : List Bool) (N : Nat) (d : D) : List (Nat × D) := [(0, dP eI labels), (1, dP (eL eI) next), (2, dP eB fin), (6, .ptr 0 0), (7, .ptr 1 0), (8, sI 2 N), (9, d)]
abbrev KB : List Nat := [0, 1, 2, 6, 7, 8, 9]
theorem row47 (n : Nat) {labels : List Int} {next : List (List Int)} {fin : List Bool} {N : Nat} {d a b c : D} {s : Nat} {row : List Int} {goal : List (List Int)} {T : List Int} (hrow : row.length ≤ 20000) (hg : bkAdd s row B = some goal) (hI : P1 G N B d T) {Q : Post}
  (hQ : ∀ G σ, P1 G N goal d T → Abs.forget (10 :: 37 :: 38 :: 39 :: KB) σ = Sm 284 ((10, dI s) :: (37, a) :: (38, b) :: (39, c) :: lB labels next fin N d) G → Q .normal σ) :
  HT RW47 (Sm 284 ((10, dI s) :: (11, dP eI row) :: (37, a) :: (38, b) :: (39, c) :: lB labels next fin N d) G) Q := by
 have hxn := hxM n
 refine Hs <| Hr hxn <| Og 1 <| Oo (fun h0 e0 => lr h0 62 3 eI row) <| Og 1 <| On <| Hb 2 <| Ht.loop (fun k σ => ∃ (j : Nat) (B : List (List Int)) (G : List AObj), j + k = row.length ∧ bkAdd s (row.drop j) B = some goal ∧ P1 G N B d T ∧
  Abs.forget (10 :: 37 :: 38 :: 39 :: 44 :: 45 :: 46 :: KB) σ = Sm 284 ((10, dI s) :: (37, a) :: (38, b) :: (39, c) :: (44, dP eI row) :: (45, dI row.length) :: (46, dI j) :: lB labels next fin N d) G) row.length kr
  ⟨0, B, G, om, hg, hI, kr⟩ ?_
 clear hI hg
 rintro k σ ⟨j, B, G, hk, hg, hI, hσ⟩
 refine Hg (10 :: 37 :: 38 :: 39 :: 44 :: 45 :: 46 :: KB) hσ ?_
 clear hσ
 refine Hs <| Hr hxn <| Og 1 <| On <| Hs <| Hd ((j : Int) < (row.length : Int)) (fun hc => ?_) (fun hc => ?_)
 case refine_2 =>
  have hj : j = row.length := by omega
  rw [hj, List.drop_length] at hg
  cases hg
  refine Ht.exit (id := 2) kr ?_
  show blkH 2 Q (AExit.exit 2) _
  exact blkH.x (hQ G _ hI kr)
 have hlt : j < row.length := by omega
 rw [zI hlt] at hg
 have hx : row[j]? = some row[j] := zA hlt
 generalize row[j] = to at hg hx
 refine Hk <| seqH.n <| Hs <| Hb 3 ?_
 have ix : idx row (j : Int) = some to := by rw [idx_get]; exact hx
 refine Hs <| Hr hxn <| Oo (fun h0 e0 => xr h0 62 3 1 eI row j to ix) <| Og 2 <| On ?_
 have last : ∀ (B' : List (List Int)) (G : List AObj) σ, P1 G N B' d T → bkAdd s (row.drop (j + 1)) B' = some goal → Abs.forget (10 :: 37 :: 38 :: 39 :: 44 :: 45 :: 46 :: KB) σ = Sm 284 ((10, dI s) :: (37, a) :: (38, b) :: (39, c) :: (44, dP eI row) :: (45, dI row.length) :: (46, dI j) :: lB labels next fin N d) G →
   HT (cR (cR (cR (cL (cL (cR RW47)))))) σ (lpH (fun k σ => ∃ (j : Nat) (B : List (List Int)) (G : List AObj), j + k = row.length ∧ bkAdd s (row.drop j) B = some goal ∧ P1 G N B d T ∧
  Abs.forget (10 :: 37 :: 38 :: 39 :: 44 :: 45 :: 46 :: KB) σ = Sm 284 ((10, dI s) :: (37, a) :: (38, b) :: (39, c) :: (44, dP eI row) :: (45, dI row.length) :: (46, dI j) :: lB labels next fin N d) G) k (blkH 2 Q)) := by
  intro B' G σ hI hg hσ
  refine Hg (10 :: 37 :: 38 :: 39 :: 44 :: 45 :: 46 :: KB) hσ <| Hr hxn <| Og 2 <| Od <| ⟨k - 1, om, j + 1, B', G, om, hg, hI, ?_⟩
  rw [← w64_nat om]
  kernel_rfl
 have hg0 : (if 0 ≤ to then match B[to.toNat]? with
   | none => none
   | some l => if l.length < 100000000 then bkAdd s (row.drop (j + 1)) (B.set to.toNat (l ++ [(s : Int)])) else none
  else bkAdd s (row.drop (j + 1)) B) = some goal := hg
 clear hg
 refine Hs <| Hr hxn <| Og 2 <| On <| Hd (to ≥ 0) (fun hc => ?_) (fun hc => ?_)
 ·rw [if_pos hc] at hg0
  obtain ⟨i, hi⟩ : ∃ i : Nat, to = (i : Int) := ⟨to.toNat, om⟩
  rw [show to.toNat = i by omega] at hg0
  obtain ⟨l, hl⟩ : ∃ y, B[i]? = some y := by
   cases h : B[i]? with
   | none => rw [h] at hg0; cases hg0
   | some y => exact ⟨y, rfl⟩
  rw [hl] at hg0
  dsimp only at hg0
  split at hg0
  case isFalse => cases hg0
  rename_i hll
  obtain ⟨ps, C, hB⟩ := hI.bk
  have hiN : i < N := by rw [← hI.len]; exact yE hl
  have hout : (bG G (ps i) l ++ [AObj.tok 1 (l.length + 1)])[2]? = some (.cells C) := by
   refine app_keep ?_
   cases l with
   | nil => exact hB.out
   | cons x r =>
    exact set_keep (fun e => by
     have := hB.tok i (x :: r) hl (by simp)
     rw [e, hB.out] at this
     cases this) hB.out
  refine Hr hxn <| Og 4 <| Oo (fun h0 e0 => ixO (N := N) (i := i) (Hw e0 hB.out) hi hiN) <| Oo (fun h0 e0 => ldO (Hw e0 hB.out) (hB.get i l hl)) <| Og 2 <| Oo (fun h0 e0 => apB (p := ps i) (l := l) (s := s) hll (fun hne => (Hw e0 (hB.tok i l hl hne)))) <| Oo (fun h0 e0 => ixO (N := N) (i := i) (Hw (g := bG G (ps i) l ++ [AObj.tok 1 (l.length + 1)]) e0 hout) hi hiN) <| Oo (fun h0 e0 => stD (x := .tsl G.length ((l ++ [(s : Int)]).map eI)) (Hw (g := bG G (ps i) l ++ [AObj.tok 1 (l.length + 1)]) e0 hout) (by rw [hB.len, hI.len]; exact hiN) ⟨rfl, rfl⟩) <| Od <| blkH.n <| seqH.n <| last (B.set i (l ++ [(s : Int)])) ((bG G (ps i) l ++ [AObj.tok 1 (l.length + 1)]).set 2 (.cells (C.set i (.tsl G.length ((l ++ [(s : Int)]).map eI))))) _ ⟨⟨?_, ?_⟩, ⟨_, _, hB.add hl⟩, by rw [zP]; exact hI.len, ?_⟩ hg0 kr
  ·exact hB.add_keep hl hI.z.g0 om (fun k n e => by cases e)
  ·exact hB.add_keep hl hI.z.g1 om (fun k n e => by cases e)
  ·rcases hI.td with h | ⟨q, h1, h2⟩
   ·exact .inl h
   ·exact .inr ⟨q, h1, hB.add_keep hl h2 (fun e => by rw [e, hB.out] at h2; cases h2) (fun k n e => by cases e)⟩
 ·rw [if_neg om] at hg0
  refine Hk <| blkH.n <| seqH.n ?_
  exact last B G _ hI hg0 kr
set_option maxHeartbeats 4000000
variable {h : List AObj} {q : Nat}
theorem apO {T ys : List Int} {x : D} (hq : h[q]? = some (oI T)) (hx : elemsOf 1 h x.unt = some (ys.map eI)) (hl : T.length + ys.length < 200000000) :
  appendD TM true 62 h (sI q T.length) x = some (sI h.length (T ++ ys).length, h.set q .dead ++ [oI (T ++ ys)]) := by
 have h1 : TM 62 = some ti62 := rfl
 have h2 : TM 3 = some ti3 := rfl
 simp only [appendD, h1, show ti62.kind = .slice 3 from rfl, h2]
 rw [if_neg (by decide), show ti3.size = 1 from rfl, hx]
 simp only [hq, Bool.true_eq_false, if_false]
 rw [if_pos ⟨trivial, by simp, by rw [show ti3.bytes = 8 from rfl, List.length_map]; omega, by rw [List.length_map]; unfold maxLen; omega⟩]
 have ht : List.take T.length (List.map eI T) = List.map eI T := zX (by simp)
 simp only [Bool.false_eq_true, if_false, if_true, ht, List.length_append, List.length_map, List.map_append, oI]
theorem apN {s : Int} : appendD TM true 62 h (.v nilS) (.v (.sl .nonfull [vI s])) = some (sI h.length 1, h ++ [oI [s]]) := rfl
variable {G : List AObj} {d : D}
theorem lenTd {T : List Int} (h : Td G d T) (h0 : List AObj) : (lenD TM 62 d.unt).map (·, h0) = some (dI T.length, h0) := by
 rcases h with ⟨rfl, rfl⟩ | ⟨q, rfl, _⟩ <;> rfl
variable {B : List (List Int)} {N : Nat}
theorem P1.push {T : List Int} (hI : P1 G N B d T) (s : Int) (hT : T.length < 100000000) :
  ∃ G', (∀ h, h = G → appendD TM true 62 h d (.v (.sl .nonfull [vI s])) = some (sI G.length (T ++ [s]).length, G')) ∧ P1 G' N B (sI G.length (T ++ [s]).length) (T ++ [s]) := by
 obtain ⟨ps, C, hB⟩ := hI.bk
 rcases hI.td with ⟨rfl, rfl⟩ | ⟨q, rfl, hq⟩
 ·exact ⟨G ++ [oI [s]], fun h e => by subst e; exact apN, hI.z.app _, ⟨ps, C, hB.app _⟩, hI.len, .inr ⟨G.length, rfl, mid_get _ _ _⟩⟩
 ·refine ⟨G.set q .dead ++ [oI (T ++ [s])], fun h e => by subst e; exact apO hq rfl (by simp; omega), (hI.z.set (hI.z.pos hq) _).app _, ⟨ps, C, (hB.set hq _).app _⟩, hI.len, .inr ⟨G.length, rfl, ?_⟩⟩
  rw [show G.length = (G.set q AObj.dead).length by simp]
  exact mid_get _ _ _
variable {Q : Post} {fin : List Bool} {labels : List Int} {next : List (List Int)}
theorem all47 (n : Nat) {T : List Int} {goal : List (List Int) × List Int} (hN : next.length = N) (hN2 : N ≤ 20000) (hrows : ∀ r ∈ next, r.length ≤ 20000)
  (hg : bkAll fin next 0 B T = some goal) (hI : P1 G N B d T)
  (hQ : ∀ d G σ, P1 G N goal.1 d goal.2 → Abs.forget KB σ = Sm 284 (lB labels next fin N d) G → Q .normal σ) :
  HT LA47 (Sm 284 (lB labels next fin N d) G) Q := by
 have hxn := hxM n
 have hxr := hxR n
 refine Hs <| Hr hxn <| Og 1 <| Oo (fun h0 e0 => lr h0 65 62 (eL eI) next) <| Og 1 <| On <| Hb 0 <| Ht.loop (fun k σ => ∃ (s : Nat) (B : List (List Int)) (d : D) (T : List Int) (G : List AObj), s + k = N ∧ bkAll fin (next.drop s) s B T = some goal ∧ P1 G N B d T ∧
  Abs.forget (37 :: 38 :: 39 :: KB) σ = Sm 284 ((37, dP (eL eI) next) :: (38, dI next.length) :: (39, dI s) :: lB labels next fin N d) G) N kr
  ⟨0, B, d, T, G, om, hg, hI, kr⟩ ?_
 clear hI hg
 rintro k σ ⟨s, B, d, T, G, hk, hg, hI, hσ⟩
 refine Hg (37 :: 38 :: 39 :: KB) hσ ?_
 clear hσ
 refine Hs <| Hr hxn <| Og 1 <| On <| Hs <| Hd ((s : Int) < (next.length : Int)) (fun hc => ?_) (fun hc => ?_)
 case refine_2 =>
  have hs : s = next.length := by omega
  rw [hs, List.drop_length] at hg
  cases hg
  refine Ht.exit (id := 0) kr ?_
  show blkH 0 Q (AExit.exit 0) _
  exact blkH.x (hQ d G _ hI kr)
 have hlt : s < next.length := by omega
 rw [zI hlt] at hg
 have hx : next[s]? = some next[s] := zA hlt
 have hmem : next[s] ∈ next := List.getElem_mem hlt
 generalize next[s] = row at hg hx hmem
 have hg : (match bkAdd s row B with
  | none => none
  | some B' => match fin[s]? with
   | none => none
   | some f => if T.length < 100000000 then bkAll fin (next.drop (s + 1)) (s + 1) B' (if f then T ++ [(s : Int)] else T) else none) = some goal := hg
 obtain ⟨B', hB'⟩ : ∃ y, bkAdd s row B = some y := by
  cases h : bkAdd s row B with
  | none => rw [h] at hg; cases hg
  | some y => exact ⟨y, rfl⟩
 rw [hB'] at hg
 dsimp only at hg
 obtain ⟨f, hf⟩ : ∃ y, fin[s]? = some y := by
  cases h : fin[s]? with
  | none => rw [h] at hg; cases hg
  | some y => exact ⟨y, rfl⟩
 rw [hf] at hg
 dsimp only at hg
 split at hg
 case isFalse => cases hg
 rename_i hTl
 refine Hk <| seqH.n <| Hs <| Hb 1 ?_
 have ix : idx next (s : Int) = some row := by rw [idx_get]; exact hx
 have ixf : idx fin (s : Int) = some f := by rw [idx_get]; exact hf
 refine Hs <| Hr hxn <| Og 1 <| Oo (fun h0 e0 => xr h0 65 62 1 (eL eI) next s row ix) <| Og 3 <| On <| Hf (10 :: 11 :: 37 :: 38 :: 39 :: KB) (Sm 284 ((10, dI s) :: (11, dP eI row) :: (37, dP (eL eI) next) :: (38, dI next.length) :: (39, dI s) :: lB labels next fin N d) G) <| Hs <| row47 n (hrows row hmem) hB' hI fun G σ hI hσ => ?_
 refine seqH.n <| Hg (10 :: 37 :: 38 :: 39 :: KB) hσ ?_
 clear hσ
 have last : ∀ (d : D) (T' : List Int) (G : List AObj) σ, P1 G N B' d T' → bkAll fin (next.drop (s + 1)) (s + 1) B' T' = some goal → Abs.forget (37 :: 38 :: 39 :: KB) σ = Sm 284 ((37, dP (eL eI) next) :: (38, dI next.length) :: (39, dI s) :: lB labels next fin N d) G →
   HT (cR (cR (cR (cL (cL (cR LA47)))))) σ (lpH (fun k σ => ∃ (s : Nat) (B : List (List Int)) (d : D) (T : List Int) (G : List AObj), s + k = N ∧ bkAll fin (next.drop s) s B T = some goal ∧ P1 G N B d T ∧
  Abs.forget (37 :: 38 :: 39 :: KB) σ = Sm 284 ((37, dP (eL eI) next) :: (38, dI next.length) :: (39, dI s) :: lB labels next fin N d) G) k (blkH 0 Q)) := by
  intro d T' G σ hI hg hσ
  refine Hg (37 :: 38 :: 39 :: KB) hσ <| Hr hxn <| Og 2 <| Od <| ⟨k - 1, om, s + 1, B', d, T', G, om, hg, hI, ?_⟩
  rw [← w64_nat om]
  kernel_rfl
 refine Hs <| Hr hxn <| Og 2 <| Oo (fun h0 e0 => xr h0 66 4 1 eB fin s f ixf) <| Og 1 <| On ?_
 cases f with
 | false =>
  refine Hz <| Hk <| blkH.n <| seqH.n ?_
  exact last d T G _ hI hg kr
 | true =>
  refine Hy ?_
  obtain ⟨G', ha, hI'⟩ := hI.push s hTl
  refine Hr hxr <| Og 3 <| Oo (fun h0 e0 => ha h0 (e0.trans kr)) <| Og 1 <| Od <| blkH.n <| seqH.n ?_
  exact last _ _ G' _ hI' hg kr
noncomputable def XK (n : Nat) : Cx := ⟨{ E with T := TM, rowM := true, dynP := true, bldTy := fun t => t == 62 }, run Try.prog E n, K0, [], n⟩
theorem hxK (n : Nat) : Hx False Try.prog (XK n) := ⟨good.mixed, TM_ok, run_sound good n⟩
theorem cutT {j : Nat} {T : List Int} {x : Int} (hx : x = (j : Int)) (hq : h[q]? = some (oI T)) (hj : j ≤ N) : cutRowD TM h 62 (D.unt (sI q N)) none (some (dI x)) none = some (sI q j, h.set q (oI (T.take j))) := by
 subst hx
 have h1 : TM 62 = some ti62 := rfl
 have hn : natOf (dI (j : Int)) = some j := by simp [natOf]
 simp only [D.unt, cutRowD, h1, show ti62.kind = .slice 3 from rfl, hn, hq]
 rw [if_pos ⟨rfl, hj⟩]
 show _ = some (_, h.set q (AObj.row 1 ((T.take j).map eI)))
 rw [List.map_take]
structure P2 (G : List AObj) (N : Nat) (B : List (List Int)) (d : D) (T : List Int) (qu : Nat) (Us : List Bool) : Prop where
 p : P1 G N B d T
 u : G[qu]? = some (oB Us)
 lu : Us.length = N
noncomputable abbrev RB47 : Code := cR (cR (cR (cR C47)))
noncomputable abbrev LD47 : Code := cL (cR RB47)
abbrev lU (labels : List Int) (next : List (List Int)) (fin : List Bool) (N : Nat) (d : D) (qu : Nat) : List (Nat × D) := (14, sI qu N) :: lB labels next fin N d
abbrev KU : List Nat := 14 :: KB
theorem dfs47 (n m : Nat) {qu : Nat} {T : List Int} {Us goal : List Bool} (hN2 : N ≤ 20000) (hg : dfs B m T Us = some goal) (hT : T.length < 100000000) (hI : P2 G N B d T qu Us) (hne : ∀ q, d = sI q T.length → q ≠ qu)
  (hQ : ∀ G d T σ, P2 G N B d T qu goal → Abs.forget KU σ = Sm 284 (lU labels next fin N d qu) G → Q .normal σ) :
  HT LD47 (Sm 284 (lU labels next fin N d qu) G) Q := by
 have hxn := hxM n
 have hxr := hxR n
 have hxk := hxK n
 refine Hb 4 <| Ht.loop (fun k σ => ∃ (d : D) (T : List Int) (Us : List Bool) (G : List AObj), dfs B k T Us = some goal ∧ T.length < 100000000 ∧ P2 G N B d T qu Us ∧ (∀ q, d = sI q T.length → q ≠ qu) ∧ Abs.forget KU σ = Sm 284 (lU labels next fin N d qu) G) m kr
  ⟨d, T, Us, G, hg, hT, hI, hne, kr⟩ ?_
 clear hI hg hT hne
 rintro k σ ⟨d, T, Us, G, hg, hT, hI, hne, hσ⟩
 refine Hg KU hσ ?_
 clear hσ
 cases k with
 | zero => cases hg
 | succ k =>
 have hg : (match T.getLast? with
  | none => some Us
  | some s => match idx Us s with
   | none => none
   | some true => dfs B k T.dropLast Us
   | some false => match idx B s with
    | none => none
    | some l => if T.length + l.length < 100000000 then dfs B k (T.dropLast ++ l) (Us.set s.toNat true) else none) = some goal := hg
 refine Hs <| Hs <| Hr hxn <| Og 1 <| Oo (fun h0 e0 => lenTd hI.p.td h0) <| Og 1 <| On <| Hd ((T.length : Int) > 0) (fun hc => ?_) (fun hc => ?_)
 case refine_2 =>
  have hT0 : T = [] := List.eq_nil_of_length_eq_zero om
  subst hT0
  have hg : some Us = some goal := hg
  cases hg
  refine Ht.exit (id := 4) kr ?_
  show blkH 4 Q (AExit.exit 4) _
  exact blkH.x (hQ G d [] _ hI kr)
 have hT1 : T ≠ [] := fun e => by rw [e] at hc; simp at hc
 rw [List.getLast?_eq_some_getLast hT1] at hg
 obtain ⟨q, rfl, hq⟩ : ∃ q, d = sI q T.length ∧ G[q]? = some (oI T) := by
  rcases hI.p.td with ⟨_, h⟩ | h
  ·exact absurd h hT1
  ·exact h
 have hqu := hne q rfl
 have hlast : T[T.length - 1]? = some (T.getLast hT1) := by rw [← List.getLast?_eq_getElem?, List.getLast?_eq_some_getLast hT1]
 generalize T.getLast hT1 = s at hg hlast
 have hw : w64 ((T.length : Int) - 1) = ((T.length - 1 : Nat) : Int) := by rw [w64_id ⟨om, om⟩]; omega
 dsimp only at hg
 obtain ⟨u, hu⟩ : ∃ y, idx Us s = some y := by
  cases h : idx Us s with
  | none => rw [h] at hg; cases hg
  | some y => exact ⟨y, rfl⟩
 rw [hu] at hg
 obtain ⟨s0, hus, hlu⟩ := idx_some hu
 obtain ⟨i, hi⟩ : ∃ i : Nat, s = (i : Int) := ⟨s.toNat, om⟩
 have e1 : s.toNat = i := by omega
 rw [e1] at hus hlu hg
 have hiN : i < N := by rw [← hI.lu]; exact hlu
 refine Hk <| seqH.n <| Hb 5 <| Hs <| Hr hxn <| Og 4 <| Oo (fun h0 e0 => ixI (N := T.length) (i := T.length - 1) (Hw e0 hq) hw om) <| Oo (fun h0 e0 => ldI (Hw e0 hq) hlast) <| Og 1 <| On <| Hs <| Hr hxk <| Og 4 <| Oo (fun h0 e0 => cutT (N := T.length) (j := T.length - 1) hw (Hw e0 hq) om) <| Og 1 <| On ?_
 have hcut : T.take (T.length - 1) = T.dropLast := by rw [List.dropLast_eq_take]
 have hdl : T.dropLast.length = T.length - 1 := List.length_dropLast
 obtain ⟨ps, C, hB⟩ := hI.p.bk
 have hI2 : P2 (G.set q (oI T.dropLast)) N B (sI q T.dropLast.length) T.dropLast qu Us :=
  ⟨⟨hI.p.z.set (hI.p.z.pos hq) _, ⟨ps, C, hB.set hq _⟩, hI.p.len, .inr ⟨q, rfl, set_new hq⟩⟩, set_keep hqu hI.u, hI.lu⟩
 refine Hf (15 :: KU) (Sm 284 ((15, dI s) :: lU labels next fin N (sI q (T.length - 1)) qu) (G.set q (oI (T.take (T.length - 1))))) ?_
 rw [hcut, ← hdl]
 clear hB
 obtain ⟨ps, C, hB⟩ := hI2.p.bk
 have hq2 : (G.set q (oI T.dropLast))[q]? = some (oI T.dropLast) := set_new hq
 generalize G.set q (oI T.dropLast) = M at hI2 hB hq2 ⊢
 refine Hs <| Hr hxn <| Og 2 <| Oo (fun h0 e0 => ixB (N := N) (i := i) (Hw e0 hI2.u) hi hiN) <| Oo (fun h0 e0 => ldB (Hw e0 hI2.u) hus) <| Og 1 <| On ?_
 cases u with
 | true =>
  refine Hz <| Hk <| blkH.n ?_
  exact ⟨k, om, _, T.dropLast, Us, M, hg, om, hI2, fun q' e => by cases e; exact hqu, kr⟩
 | false =>
  refine Hy ?_
  dsimp only at hg
  obtain ⟨l, hl⟩ : ∃ y, idx B s = some y := by
   cases h : idx B s with
   | none => rw [h] at hg; cases hg
   | some y => exact ⟨y, rfl⟩
  rw [hl] at hg
  dsimp only at hg
  split at hg
  case isFalse => cases hg
  rename_i hll
  obtain ⟨_, hbl, _⟩ := idx_some hl
  rw [e1] at hbl
  refine Hs <| Hr hxn <| Og 2 <| Oo (fun h0 e0 => ixB (N := N) (i := i) (Hw e0 hI2.u) hi hiN) <| Oo (fun h0 e0 => stB (x := true) (Hw e0 hI2.u) hlu) <| On <| Hf (15 :: KU) (Sm 284 ((15, dI s) :: lU labels next fin N (sI q T.dropLast.length) qu) (M.set qu (oB (Us.set i true)))) ?_
  have hI3 : P2 (M.set qu (oB (Us.set i true))) N B (sI q T.dropLast.length) T.dropLast qu (Us.set i true) :=
   ⟨⟨hI2.p.z.set (hI2.p.z.pos hI2.u) _, ⟨ps, C, hB.set hI2.u _⟩, hI2.p.len, .inr ⟨q, rfl, set_keep (Ne.symm hqu) hq2⟩⟩, set_new hI2.u, by rw [zP]; exact hI2.lu⟩
  have hB3 : Bk (M.set qu (oB (Us.set i true))) 2 ps B C := hB.set hI2.u _
  have hq3 : (M.set qu (oB (Us.set i true)))[q]? = some (oI T.dropLast) := set_keep (Ne.symm hqu) hq2
  generalize M.set qu (oB (Us.set i true)) = M at hI3 hB3 hq3 ⊢
  refine Hr hxr <| Og 3 <| Oo (fun h0 e0 => ixO (N := N) (i := i) (Hw e0 hB3.out) hi hiN) <| Oo (fun h0 e0 => ldO (Hw e0 hB3.out) (hB3.get i l hbl)) <| Oo (fun h0 e0 => apO (q := q) (T := T.dropLast) (ys := l) (Hw e0 hq3) (bD_elems h0 (ps i) l) om) <| Og 1 <| Od <| blkH.n <| ⟨k, om, sI M.length (T.dropLast ++ l).length, T.dropLast ++ l, Us.set i true, M.set q .dead ++ [oI (T.dropLast ++ l)], hg, by rw [List.length_append]; omega, ⟨⟨(hI3.p.z.set (hI3.p.z.pos hq3) _).app _, ⟨ps, C, (hB3.set hq3 _).app _⟩, hI3.p.len, .inr ⟨M.length, rfl, ?_⟩⟩, app_keep (set_keep hqu hI3.u), hI3.lu⟩, fun q' e => ?_, kr⟩
  ·rw [show M.length = (M.set q AObj.dead).length by simp]
   exact mid_get _ _ _
  ·cases e
   have := yE hI3.u
   omega
end Go.Abs.Tg
