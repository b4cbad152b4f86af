/-
  LEXICON ENTRIES: from class to class.
-/
import Derived.Test.YthjhdnonlkooiaaDoorLE1
namespace Go.Abs
open Go.Sort Go.Proofs
set_option linter.unusedVariables false
set_option maxRecDepth 100000

/-! ### what it computes -/
def nextE (m : Nat) (e : S61) (x : S90) : Option S61 := bnd (scat e.fBase x.fBase) fun b => bnd (scat e.fForm x.fForm) fun f => bnd (f73 m [e.fTags, x.fTags]) fun t => some ⟨b, f, t, w64 (e.fWeight + x.fWeight)⟩
abbrev Fst : Type := List S61 × Int
def itemsL (m : Nat) (rec : Int → S61 → Fst → Option (Bool × Fst)) (e : S61) : List S90 → Fst → Option (Bool × Fst)
  | [], s => some (true, s)
  | x :: r, s => cnd (decide (w64 (s.2 + 1) > 20000)) (some (false, s.1, w64 (s.2 + 1))) (bnd (nextE m e x) fun n =>
      cnd (decide (x.fNext < 0)) (bnd (app 64 s.1 [n]) fun z => itemsL m rec e r (z, w64 (s.2 + 1)))
        (bnd (rec x.fNext n (s.1, w64 (s.2 + 1))) fun o => cnd (!o.1) (some (false, o.2)) (itemsL m rec e r o.2)))
def followL (m : Nat) (l : S51) : Nat → Int → S61 → Fst → Option (Bool × Fst)
  | 0, _, _, s => some (true, s)
  | k + 1, cls, e, s => bnd (idx l.fClasses cls) fun c => itemsL m (followL m l k) e c.fItems s

/-! ### memory -/
theorem gA {l x : List AObj} {i : Nat} {v : AObj} (h : l[i]? = some v) : (l ++ x)[i]? = some v := by
  rw [List.getElem?_append_left (lt_of_getElem? h)]; exact h
theorem gS {l : List AObj} {i j : Nat} {v w : AObj} (h : l[i]? = some v) (hne : j ≠ i) : (l.set j w)[i]? = some v := by
  rw [List.getElem?_set_ne hne]; exact h
theorem gE (l : List AObj) (x : AObj) : (l ++ [x])[l.length]? = some x := by simp
theorem set_end (l : List AObj) (x y : AObj) : (l ++ [x]).set l.length y = l ++ [y] := by simp
theorem Sm_heap {n : Nat} {l : List (Nat × D)} {h h' : List AObj} (e : h = h') : Sm n l h = Sm n l h' := by rw [e]

def fdD (q : Nat) (found : List S61) : D := rowD q (found.map e61)
def wkC (l : S51) (q : Nat) (found : List S61) (steps : Int) : AObj := .cells [dP e88 l.fClasses, fdD q found, dI steps]
/-- the walk's own struct -/
structure Wk (H : List AObj) (r q : Nat) (l : S51) (found : List S61) (steps : Int) : Prop where
  cell : H[r]? = some (wkC l q found steps)
  row : found ≠ [] → H[q]? = some (rowO 4 (found.map e61))
  ne : found ≠ [] → q ≠ r
theorem Wk.app {H X : List AObj} {r q : Nat} {l : S51} {found : List S61} {steps : Int} (h : Wk H r q l found steps) : Wk (H ++ X) r q l found steps := ⟨gA h.cell, fun hf => gA (h.row hf), h.ne⟩
theorem Wk.step {H : List AObj} {r q : Nat} {l : S51} {found : List S61} {steps : Int} (h : Wk H r q l found steps) (s' : Int) : Wk (H.set r (wkC l q found s')) r q l found s' :=
  ⟨List.getElem?_set_self (lt_of_getElem? h.cell), fun hf => gS (h.row hf) (Ne.symm (h.ne hf)), h.ne⟩
def boxE (e : S61) : AObj := .cells [.v (.str e.fBase), .v (.str e.fForm), .v (vP eS e.fTags), dI e.fWeight]
def boxX (x : S90) : AObj := .cells [.v (.str x.fBase), .v (.str x.fForm), .v (vP eS x.fTags), dI x.fNext, dI x.fWeight]
/-- one more entry -/
def pushH (H : List AObj) (q : Nat) (found : List S61) (x : S61) : List AObj := (if found = [] then H else H.set q .dead) ++ [.row 4 ((found ++ [x]).map e61)]
theorem push_len (H : List AObj) (q : Nat) (found : List S61) (x : S61) : (pushH H q found x).length = H.length + 1 := by
  unfold pushH; split <;> simp
theorem push_get {H : List AObj} {q : Nat} {found : List S61} {x : S61} {i : Nat} {v : AObj} (h : H[i]? = some v) (hq : found = [] ∨ q ≠ i) : (pushH H q found x)[i]? = some v := by
  unfold pushH
  split
  · exact gA h
  · rename_i hf
    exact gA (gS h (hq.resolve_left hf))
theorem push_new (H : List AObj) (q : Nat) (found : List S61) (x : S61) : (pushH H q found x)[H.length]? = some (.row 4 ((found ++ [x]).map e61)) := by
  unfold pushH
  split
  · exact gE _ _
  · have := gE (H.set q .dead) (.row 4 ((found ++ [x]).map e61))
    rwa [List.length_set] at this
theorem rowO_cons {k : Nat} {xs : List V} (h : xs ≠ []) : rowO k xs = .row k xs := by
  cases xs with
  | nil => exact absurd rfl h
  | cons x r => rfl
theorem rowD_cons {q : Nat} {xs : List V} (h : xs ≠ []) : rowD q xs = .osl q 0 xs.length false := by
  cases xs with
  | nil => exact absurd rfl h
  | cons x r => rfl
theorem appE {h : List AObj} {q : Nat} {found zs : List S61} {x : S61} (ha : app 64 found [x] = some zs) (hq : found ≠ [] → h[q]? = some (rowO 4 (found.map e61))) :
    appendD T true 53 h (fdD q found) (.v (.sl .nonfull [e61 x])) = some (.osl h.length 0 (found.length + 1) false, pushH h q found x) := by
  have hz : zs = found ++ [x] := by
    unfold app at ha
    split at ha
    · cases ha; rfl
    · cases ha
  have hne : zs.map e61 ≠ [] := by subst hz; simp
  by_cases hf : found = []
  · subst hf
    have := row_n (T := T) h 53 62 ti62 .nonfull e61 [x] zs ha (by kernel_rfl) (by kernel_rfl) (by kernel_rfl) (by kernel_rfl) (fun _ => rfl)
    rw [rowD_cons hne, rowO_cons hne] at this
    subst hz
    exact this
  · have := row_app (T := T) h 53 62 q ti62 .nonfull e61 found [x] zs ha (by kernel_rfl) (by kernel_rfl) (by kernel_rfl) (by kernel_rfl) (fun _ => rfl) (hq hf)
    rw [rowD_cons hne, rowO_cons hne] at this
    subst hz
    unfold pushH
    rw [if_neg hf]
    simpa [fdD, show ti62.size = 4 from rfl] using this

/-- what a call leaves -/
def FPost (l : S51) (H : List AObj) (r q : Nat) (found : List S61) (h' : List AObj) (s : Fst) : Prop := ∃ q', Wk h' r q' l s.1 s.2 ∧ H.length ≤ h'.length ∧ (∀ i, i < H.length → i ≠ r → (found = [] ∨ i ≠ q) → h'[i]? = H[i]?) ∧ (s.1 = [] ∨ (q' = q ∧ found ≠ []) ∨ H.length ≤ q')
noncomputable def C54 : Code := bodyOf Proofs.Tryd.prog 54
def FQ (l : S51) (H : List AObj) (r q : Nat) (found : List S61) (o : Bool × Fst) : Post := fun e σ => (e = .normal ∨ e = .ret) ∧ ∃ d, resultsD T σ (resOf Proofs.Tryd.prog 54) = some d ∧ (d = dB o.1 ∧ FPost l H r q found σ.heap o.2)
theorem FQ.of {l : S51} {H : List AObj} {r q : Nat} {found : List S61} {o : Bool × Fst} {σ : St} (b : Bool) (h8 : σ.tmps.getD 8 .undef = dB b) (hb : b = o.1) (h : FPost l H r q found σ.heap o.2) : FQ l H r q found o .ret σ := by
  have hr : resOf Proofs.Tryd.prog 54 = [.tmp 8] := by kernel_rfl
  subst hb
  refine ⟨.inr rfl, dB o.1, ?_, rfl, h⟩
  rw [hr]
  simp only [resultsD, allM, resultD, h8]
/-- in the loop over a class's items -/
structure LI (l : S51) (H : List AObj) (r q0 : Nat) (found0 : List S61) (e : S61) (G : List AObj) (q : Nat) (s : Fst) : Prop where
  wk : Wk G r q l s.1 s.2
  len : H.length + 1 ≤ G.length
  box : G[H.length]? = some (boxE e)
  fr : ∀ i, i < H.length → i ≠ r → (found0 = [] ∨ i ≠ q0) → G[i]? = H[i]?
  qc : s.1 = [] ∨ (q = q0 ∧ found0 ≠ []) ∨ H.length < q
theorem LI.post {l : S51} {H : List AObj} {r q0 : Nat} {found0 : List S61} {e : S61} {G : List AObj} {q : Nat} {s : Fst} (h : LI l H r q0 found0 e G q s) : FPost l H r q0 found0 G s :=
  ⟨q, h.wk, by have := h.len; omega, h.fr, h.qc.imp_right fun h => h.imp_right fun h => by omega⟩
/-- an item's box, and one more step -/
theorem LI.item {l : S51} {H : List AObj} {r q0 : Nat} {found0 : List S61} {e : S61} {G : List AObj} {q : Nat} {s : Fst} (h : LI l H r q0 found0 e G q s) (hr : r < H.length) (X : List AObj) (s' : Int) :
    LI l H r q0 found0 e ((G ++ X).set r (wkC l q s.1 s')) q (s.1, s') := by
  refine ⟨h.wk.app.step s', by have := h.len; simp; omega, gS (gA h.box) (by omega), fun i hi hir hiq => ?_, h.qc⟩
  rw [List.getElem?_set_ne (Ne.symm hir), List.getElem?_append_left (by have := h.len; omega)]
  exact h.fr i hi hir hiq
theorem LI.app {l : S51} {H : List AObj} {r q0 : Nat} {found0 : List S61} {e : S61} {G : List AObj} {q : Nat} {s : Fst} (h : LI l H r q0 found0 e G q s) (X : List AObj) : LI l H r q0 found0 e (G ++ X) q s :=
  ⟨h.wk.app, by have := h.len; simp; omega, gA h.box, fun i hi hir hiq => by
    rw [List.getElem?_append_left (by have := h.len; omega)]; exact h.fr i hi hir hiq, h.qc⟩
theorem LI.push {l : S51} {H : List AObj} {r q0 : Nat} {found0 : List S61} {e : S61} {G : List AObj} {q : Nat} {s : Fst} (h : LI l H r q0 found0 e G q s) (hr : r < H.length) (x : S61) :
    LI l H r q0 found0 e ((pushH G q s.1 x).set r (wkC l G.length (s.1 ++ [x]) s.2)) G.length (s.1 ++ [x], s.2) := by
  have hq : s.1 = [] ∨ q ≠ H.length := by
    rcases h.qc with h1 | ⟨h1, h2⟩ | h1
    · exact .inl h1
    · by_cases hs : s.1 = []
      · exact .inl hs
      · refine .inr fun e => ?_
        have hb := h.box
        have hrow := h.wk.row hs
        rw [e, hb] at hrow
        rw [rowO_cons (by simpa using hs)] at hrow
        cases hrow
    · exact .inr (by omega)
  have hpr : r < (pushH G q s.1 x).length := by rw [push_len]; have := h.len; omega
  refine ⟨⟨List.getElem?_set_self hpr, fun _ => ?_, fun _ => by have := h.len; omega⟩, by rw [List.length_set, push_len]; have := h.len; omega, gS (push_get h.box hq) (by omega), fun i hi hir hiq => ?_, .inr (.inr (by have := h.len; omega))⟩
  · rw [rowO_cons (by simp)]
    exact gS (push_new G q s.1 x) (by have := h.len; omega)
  · rw [List.getElem?_set_ne (Ne.symm hir)]
    have hg := h.fr i hi hir hiq
    have hiG : i < G.length := by have := h.len; omega
    rw [← hg, List.getElem?_eq_getElem hiG]
    refine push_get (List.getElem?_eq_getElem hiG) ?_
    rcases h.qc with h1 | ⟨h1, h2⟩ | h1
    · exact .inl h1
    · rcases hiq with h3 | h3
      · exact absurd h3 h2
      · exact .inr (by rw [h1]; exact Ne.symm h3)
    · exact .inr (by omega)
/-- behind a call of its own -/
theorem LI.call {l : S51} {H : List AObj} {r q0 : Nat} {found0 : List S61} {e : S61} {G : List AObj} {q : Nat} {s s' : Fst} {h' : List AObj} (h : LI l H r q0 found0 e G q s) (hr : r < H.length) (hp : FPost l G r q s.1 h' s') : ∃ q', LI l H r q0 found0 e h' q' s' := by
  obtain ⟨q', p1, p2, p3, p4⟩ := hp
  have hlen := h.len
  have hqb : s.1 = [] ∨ H.length ≠ q := by
    rcases h.qc with h1 | ⟨h1, h2⟩ | h1
    · exact .inl h1
    · by_cases hs : s.1 = []
      · exact .inl hs
      · refine .inr fun e => ?_
        have hb := h.box
        have hrow := h.wk.row hs
        rw [← e, hb] at hrow
        rw [rowO_cons (by simpa using hs)] at hrow
        cases hrow
    · exact .inr (by omega)
  refine ⟨q', p1, by omega, by rw [p3 _ (by omega) (by omega) hqb]; exact h.box, fun i hi hir hiq => ?_, ?_⟩
  · rw [p3 i (by omega) hir ?_]
    · exact h.fr i hi hir hiq
    · rcases h.qc with h1 | ⟨h1, h2⟩ | h1
      · exact .inl h1
      · rcases hiq with h3 | h3
        · exact absurd h3 h2
        · exact .inr (by rw [h1]; exact h3)
      · exact .inr (by omega)
  · rcases p4 with h1 | ⟨h1, h2⟩ | h1
    · exact .inl h1
    · rcases h.qc with h3 | h3 | h3
      · exact absurd h3 h2
      · exact .inr (.inl (by rw [h1]; exact h3))
      · exact .inr (.inr (by omega))
    · exact .inr (.inr (by omega))
end Go.Abs
