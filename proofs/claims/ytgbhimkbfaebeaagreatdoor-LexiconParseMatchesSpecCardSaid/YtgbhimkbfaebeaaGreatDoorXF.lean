import Derived.Test.YtgbhimkbfaebeaaGreatDoorXA
namespace Go.Abs
open Go.Proofs Go.RowKit Go.Sort
set_option linter.unusedVariables false
set_option linter.unusedSimpArgs false
set_option linter.unnecessarySimpa false
set_option maxRecDepth 100000
def eB8 (c : UInt8) : V := .int .u8 (c.toNat : Int)
def zeroB : D → Bool
 | .v (.int .u8 n) => n == 0
 | _ => false
theorem zeroB_spec {d : D} (h : zeroB d = true) : d = .v (.int .u8 0) := by
 unfold zeroB at h
 split at h
 ·rw [beq_iff_eq] at h; rw [h]
 ·cases h
def digV (u : Int) : List V := (Lib.decDigits u.toNat).map eB8
def fmtF : List D → List AObj → Option (D × List AObj)
 | [.osl r 0 n false, .v (.int .u64 u)], h => match h[r]? with
  | some (.cells cs) => if n ≤ cs.length ∧ (cs.take n).all zeroB = true ∧ 0 ≤ u ∧ u < 18446744073709551616 ∧ n = Lib.nDigits u.toNat ∧ n ≤ 24 then
    some (U, h.set r (.cells ((digV u).map .v ++ cs.drop n))) else none
  | _ => none
 | _, _ => none
theorem xis80 : Is Tryz.prog 80 := ⟨Tryz.f80, Tryz.func80, by kernel_rfl, by kernel_rfl⟩
theorem digV_len (u : Int) : (digV u).length = Lib.nDigits u.toNat := by unfold digV; rw [List.length_map, Lib.decDigits_length]
theorem xod80 : DOk False Tryz.prog 80 fmtF := by
 refine ⟨xis80, fun ds h d h' hd S β w vs hrel hi => ?_⟩
 unfold fmtF at hd
 split at hd
 case h_2 => cases hd
 rename_i h0 r n u
 split at hd
 case h_2 => cases hd
 rename_i cs hcs
 split at hd
 case isFalse => cases hd
 rename_i hc
 obtain ⟨hn, hz, hu0, hu1, hnd, hn24⟩ := hc
 obtain ⟨rfl, rfl⟩ := Prod.mk.inj (Option.some.inj hd)
 obtain ⟨a, b, rfl, ha, hb⟩ : ∃ a b, vs = #[a, b] ∧ RelD S β w a (.osl r 0 n false) ∧ RelD S β w b (.v (.int .u64 u)) := by
  obtain ⟨h1, h2⟩ := hrel
  obtain ⟨l⟩ := vs
  match l, h1 with
  | [a, b], _ => exact ⟨a, b, rfl, h2 0 a _ rfl rfl, h2 1 b _ rfl rfl⟩
 have hb := hb.of_v
 cases hb
 cases ha with
 | osl _ _ _ b c k p cap _ hb hlc hp hcap =>
 obtain ⟨o1, o2, o3, cur, e, o4, o5, o6⟩ := hi.obj r _ b c k hcs hb
 subst o1
 simp only [Nat.zero_mul] at hp
 subst hp
 have hblt := hi.lt r _ b c 1 hcs rfl hb
 have hcell : ∀ j : Nat, w.cell? ⟨b, j, none⟩ = cur[j]? := fun j => cell_own o4
 have hH : Holds (fun (b : UInt8) => Value.int .u8 (b.toNat : Int)) w b 0 (Array.replicate n (0 : UInt8)) := fun j hj => by
  have hj : j < n := by simpa using hj
  have hd := List.getElem?_eq_getElem (l := cs) (i := j) (by omega)
  have hz1 := List.all_eq_true.1 hz cs[j] (by
   have : (cs.take n)[j]? = some cs[j] := by rw [List.getElem?_take, if_pos hj, hd]
   exact List.mem_of_getElem? this)
  have hcj : cur[j]? = some cur[j] := Array.getElem?_eq_getElem (by omega)
  have := o6 j _ _ hcj hd
  rw [zeroB_spec hz1] at this
  have := this.of_v
  refine ⟨?_, ?_⟩
  ·rw [Nat.zero_add, hcell, hcj, getElem!_pos _ j (by simpa using hj)]
   generalize cur[j] = u at this
   cases this
   simp
  ·simp [World.frozen?, o4]
 have hsz : (Array.replicate n (0 : UInt8)).size = n := Array.size_replicate
 have hu : u = ((u.toNat : Nat) : Int) := by omega
 have hcall := Tryz.internal_strconv_formatBase10 b 0 cap u.toNat (Array.replicate n 0) w hH (by rw [hsz, hnd]; exact Lib.lt_pow_nDigits u.toNat) (by omega) (by rw [hsz]; omega)
 rw [hsz, ← hu] at hcall
 refine hcall.mono ?_
 rintro ex w' ⟨rfl, m, v', dk, rfl, hF⟩
 rw [hnd] at hF
 have hrow := Lib.row_is_numeral hF
 have hds := hF.size
 have hdl : (Lib.decDigits u.toNat).length = n := by rw [Lib.decDigits_length, hnd]
 have hnew : ((putRow (fun (b : UInt8) => Value.int .u8 (b.toNat : Int)) w b 0 dk).drewN m).heap[b]? = some (.cells (putCells (fun (b : UInt8) => Value.int .u8 (b.toNat : Int)) 0 dk cur) e (0, 0)) := by
  show (w.heap.modify b _)[b]? = _
  rw [Array.getElem?_modify, if_pos rfl, o4]
  rfl
 obtain ⟨e1, e2⟩ := own_write (DR := False) (w' := (putRow (fun (b : UInt8) => Value.int .u8 (b.toNat : Int)) w b 0 dk).drewN m) (o' := .cells ((digV u).map .v ++ cs.drop n)) hi hcs rfl hb
  (by show (w.heap.modify b _).size = _; simp) (fun j hj => by show (w.heap.modify b _)[j]? = _; rw [Array.getElem?_modify, if_neg (Ne.symm hj)]) rfl rfl rfl (by show w.drawn ≤ w.drawn + m; omega) rfl
  (fun hk => ⟨rfl, o2, by rw [List.length_append, List.length_map, digV_len, List.length_drop]; omega, _, e, hnew, by simp [putCells, o5], fun j v d h1 h2 => by
   simp only [putCells, Array.getElem?_mapIdx] at h1
   obtain ⟨x, hx, rfl⟩ := Option.map_eq_some_iff.1 h1
   rcases Nat.lt_or_ge j n with g | g
   ·rw [List.getElem?_append_left (by rw [List.length_map, digV_len]; omega), List.getElem?_map] at h2
    obtain ⟨y, hy, rfl⟩ := Option.map_eq_some_iff.1 h2
    unfold digV at hy
    rw [List.getElem?_map] at hy
    obtain ⟨c1, hc1, rfl⟩ := Option.map_eq_some_iff.1 hy
    rw [if_pos ⟨Nat.zero_le _, by omega⟩, Nat.sub_zero]
    have hjl : j < (Lib.decDigits u.toNat).length := by omega
    rw [List.getElem?_eq_getElem hjl] at hc1
    rw [← hrow j hjl, Option.some.inj hc1]
    exact .v _ _ (.int _ _)
   ·rw [if_neg (by omega)]
    rw [List.getElem?_append_right (by rw [List.length_map, digV_len]; omega), List.length_map, digV_len, ← hnd, List.getElem?_drop, show n + (j - n) = j by omega] at h2
    exact (o6 j x d hx h2).mono hk (fun _ _ h => h)⟩)
 exact ⟨_, S, β, rfl, e1, e2, unit_rel _ _ _⟩
end Go.Abs
