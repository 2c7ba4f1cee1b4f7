import PyProof.Rows.All
import Wide.All
import OpenK.AllK
import Wide.FinOn
import PySem.Challenge.RW_k14_0003
open PySem PySem.W PyProof.Rows
set_option Elab.async false
namespace Mine
def pad (ks : List Int) : List Int := ks ++ List.replicate (15 - ks.length) 0
def cell29 (ns : List Int) (i : Int) : Int := ns.getD i.toNat (29 * i)
theorem start (ks : List Int) : ([] : List Int).length = ([] : List Int).length ∧ ([] : List Int) = (pad ks).take ([] : List Int).length ∧ (0 : Int) = (ks.take ([] : List Int).length).sum % 256 := by
  simp
theorem sum_take_succ (ks : List Int) (i : Nat) (h : i < ks.length) : (ks.take (i + 1)).sum = (ks.take i).sum + ks[i] := by
  rw [List.take_add_one, List.getElem?_eq_getElem h, List.sum_append]; simp only [Option.toList_some, List.sum_cons, List.sum_nil, Int.add_zero]
theorem pad_take (ks : List Int) (i : Nat) (h : i < ks.length) : (pad ks).take i ++ [ks[i]] = (pad ks).take (i + 1) := by
  have e : (pad ks)[i]? = some ks[i] := by unfold pad; rw [List.getElem?_append_left h, List.getElem?_eq_getElem h]
  rw [List.take_add_one, e]; rfl
theorem pad_zero (ks : List Int) (i : Nat) (h : ¬ i < ks.length) (h2 : i < 15) : (pad ks).take i ++ [0] = (pad ks).take (i + 1) := by
  have e : (pad ks)[i]? = some 0 := by
    unfold pad; rw [List.getElem?_append_right (by omega), List.getElem?_replicate]; simp; omega
  rw [List.take_add_one, e]; rfl
theorem pad_all (ks : List Int) (h : ks.length ≤ 15) : (pad ks).take 15 = pad ks := List.take_of_length_le (by simp [pad]; omega)
theorem rk_get {g : Int → Int} {N i : Nat} (h : i < N) : ∃ h' : i < (List.map g (rangeKs 0 N)).length, (List.map g (rangeKs 0 N))[i] = g (0 + (i : Int)) := by
  refine ⟨by rw [List.length_map, rangeKs_length]; exact h, ?_⟩
  rw [List.getElem_map]
  congr 1
  simp [rangeKs]
theorem rk_len {g : Int → Int} {N : Nat} : (List.map g (rangeKs 0 N)).length = N := by rw [List.length_map, rangeKs_length]
section
variable {g : Int → Int} {pre want : List Int} {k n z : Int}
theorem t_hi (hk : k = 0 + (pre.length : Int)) (hl : want.length = pre.length) (hw : want = (pad (List.map g (rangeKs 0 (n - 0).toNat))).take pre.length) (hz : z = ((List.map g (rangeKs 0 (n - 0).toNat)).take pre.length).sum % 256)
    (hn : k < n) (h : 256 ≤ z + g (0 + k)) (hg : g (0 + k) < 256) :
    (want ++ [g (0 + k)]).length = (pre ++ [k]).length ∧ want ++ [g (0 + k)] = (pad (List.map g (rangeKs 0 (n - 0).toNat))).take (pre ++ [k]).length ∧ z + g (0 + k) - 256 = ((List.map g (rangeKs 0 (n - 0).toNat)).take (pre ++ [k]).length).sum % 256 := by
  obtain ⟨h1, h2⟩ := rk_get (g := g) (N := (n - 0).toNat) (i := pre.length) (by omega)
  have hk' : 0 + k = 0 + (pre.length : Int) := by omega
  rw [hk'] at h hg ⊢
  rw [← h2] at h hg ⊢
  refine ⟨by simp [hl], ?_, ?_⟩
  · rw [hw, pad_take _ _ h1, List.length_append]; rfl
  · rw [List.length_append]
    show _ = (List.take (pre.length + 1) _).sum % 256
    rw [sum_take_succ _ _ h1]; omega
theorem t_lo (hk : k = 0 + (pre.length : Int)) (hl : want.length = pre.length) (hw : want = (pad (List.map g (rangeKs 0 (n - 0).toNat))).take pre.length) (hz : z = ((List.map g (rangeKs 0 (n - 0).toNat)).take pre.length).sum % 256)
    (hn : k < n) (h : ¬ 256 ≤ z + g (0 + k)) (hg : 0 ≤ g (0 + k)) :
    (want ++ [g (0 + k)]).length = (pre ++ [k]).length ∧ want ++ [g (0 + k)] = (pad (List.map g (rangeKs 0 (n - 0).toNat))).take (pre ++ [k]).length ∧ z + g (0 + k) = ((List.map g (rangeKs 0 (n - 0).toNat)).take (pre ++ [k]).length).sum % 256 := by
  obtain ⟨h1, h2⟩ := rk_get (g := g) (N := (n - 0).toNat) (i := pre.length) (by omega)
  have hk' : 0 + k = 0 + (pre.length : Int) := by omega
  rw [hk'] at h hg ⊢
  rw [← h2] at h hg ⊢
  refine ⟨by simp [hl], ?_, ?_⟩
  · rw [hw, pad_take _ _ h1, List.length_append]; rfl
  · rw [List.length_append]
    show _ = (List.take (pre.length + 1) _).sum % 256
    rw [sum_take_succ _ _ h1]; omega
theorem t_out (hk : k = 0 + (pre.length : Int)) (hl : want.length = pre.length) (hw : want = (pad (List.map g (rangeKs 0 (n - 0).toNat))).take pre.length) (hz : z = ((List.map g (rangeKs 0 (n - 0).toNat)).take pre.length).sum % 256)
    (hn : ¬ k < n) (h0 : 0 ≤ n) (hp : pre.length < (15 - 0 : Int).toNat) :
    (want ++ [0]).length = (pre ++ [k]).length ∧ want ++ [0] = (pad (List.map g (rangeKs 0 (n - 0).toNat))).take (pre ++ [k]).length ∧ z = ((List.map g (rangeKs 0 (n - 0).toNat)).take (pre ++ [k]).length).sum % 256 := by
  have hL := rk_len (g := g) (N := (n - 0).toNat)
  refine ⟨by simp [hl], ?_, ?_⟩
  · rw [hw, pad_zero _ _ (by omega) (by omega), List.length_append]; rfl
  · rw [hz, List.length_append, List.take_of_length_le (by omega), List.take_of_length_le (by show _ ≤ pre.length + 1; omega)]
theorem fl_len (m : Nat) : (List.replicate m [(0 : Int)]).flatten = List.replicate m 0 := by
  induction m with
  | zero => rfl
  | succ m ih => rw [List.replicate_succ, List.flatten_cons, ih, List.replicate_succ]; rfl
theorem e_len (a : (((List.map g (rangeKs 0 (n - 0).toNat)).length + (List.replicate (15 - ((n - 0).toNat : Int)).toNat [(0 : Int)]).flatten.length + 1 : Nat) : Int) ≠ 16) (h0 : 0 ≤ n) (h1 : n < 16) : False := by
  rw [fl_len, List.length_replicate, rk_len] at a
  omega
theorem e_eq (hw : want = (pad (List.map g (rangeKs 0 (n - 0).toNat))).take (rangeKs 0 (15 - 0 : Int).toNat).length) (hz : z = ((List.map g (rangeKs 0 (n - 0).toNat)).take (rangeKs 0 (15 - 0 : Int).toNat).length).sum % 256)
    (a : ¬ List.map g (rangeKs 0 (n - 0).toNat) ++ (List.replicate (15 - ((n - 0).toNat : Int)).toNat [(0 : Int)]).flatten ++ [(List.map g (rangeKs 0 (n - 0).toNat)).sum.fmod 256] = want ++ [z]) (h0 : 0 ≤ n) (h1 : n < 16) : False := by
  have hL := rk_len (g := g) (N := (n - 0).toNat)
  have h15 : (rangeKs 0 (15 - 0 : Int).toNat).length = 15 := by rw [rangeKs_length]; rfl
  rw [h15] at hw hz
  apply a
  rw [hw, hz, pad_all _ (by omega), List.take_of_length_le (by omega), fl_len, Int.fmod_eq_emod_of_nonneg _ (by decide)]
  unfold pad
  rw [hL]
  have e : (15 - ((n - 0).toNat : Int)).toNat = 15 - (n - 0).toNat := by omega
  rw [e]
end
end Mine
set_option maxRecDepth 100000 in
set_option maxHeartbeats 8000000 in
theorem PySem.Challenge.cw_k14_0003_holds : PySem.Challenge.rw_k14_0003.Holds := by
  k_with "call ref" => k_call_by "_law_cell" Mine.cell29 (fun (_ : List Int) (i : Int) => 0 ≤ i)
  k_with "tree" => simp only [Mine.cell29]
  k_with "end" => first
    | exact (Mine.e_len (by assumption) (by assumption) (by assumption)).elim
    | exact (Mine.e_eq (by assumption) (by assumption) (by assumption) (by assumption) (by assumption)).elim
  k_with "binaryOp Mult ref int" => (simp only [List.length_map, rangeKs_length]; km_mul KM.mul)
  k_with "pyIter ref" => (k_of "x" => k_search (fun _ => True))
  k_with "pyIter ref" => (k_of "i" => k_state_given ["kept"] (fun kept pre want z => want.length = pre.length ∧ want = (Mine.pad kept).take pre.length ∧ z = (kept.take pre.length).sum % 256) "want" "seal")
  k_with "state" => first
    | exact Mine.start _
    | exact Mine.t_hi (g := fun k' => (Mine.cell29 _ (1 + k')).fmod 256) (by assumption) (by assumption) (by assumption) (by assumption) (by assumption) (by assumption) (Int.fmod_lt_of_pos _ (by decide))
    | exact Mine.t_lo (g := fun k' => (Mine.cell29 _ (1 + k')).fmod 256) (by assumption) (by assumption) (by assumption) (by assumption) (by assumption) (by assumption) (Int.fmod_nonneg_of_pos _ (by decide))
    | exact Mine.t_out (g := fun k' => (Mine.cell29 _ (1 + k')).fmod 256) (by assumption) (by assumption) (by assumption) (by assumption) (by assumption) (by assumption) (by assumption)
  open_k
