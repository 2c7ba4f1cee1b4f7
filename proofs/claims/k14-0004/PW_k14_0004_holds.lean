import PyProof.Rows.All
import Wide.All
import OpenK.AllK
import Wide.FinOn
import PySem.Challenge.RW_k14_0004
open PySem PySem.W PyProof.Rows PySem.Calls PySem.Spec
set_option Elab.async false
namespace Mine
set_option maxRecDepth 100000 in
set_option maxHeartbeats 8000000 in
open_top hd for PySem.Challenge.rw_k14_0004
def BlockTells (prog : Program) (w : World) (K : Frag) (p : Program) (loose : List Str) (mean : ExcName → Option Value) (mg mb : Str → Option Value) (f : Addr) : Prop :=
  ∀ (dp un : Nat) (gd : Option (List Code)) (cn : Str) (cs : Scope) (a : Addr) (ccd : Value) (cl : List (Str × Addr)) (outer : List Env) (A₀ : Around) (base h₀ : Heap) (L : Addr) (m : Str → Option Value) (s : Shared) (l : Addr) (vs : List Value) (ns : List Int)
    (Q E : Value → Shared → Prop),
    Below A₀ base outer h₀ → Fr h₀ L s.heap m → K.In h₀ → News h₀ L s.heap [] → Top p loose mean mg mb h₀ → cs.kind = .function → base.IsList l vs.toArray → IntsAre vs ns → (PyData.list (List.map PyData.int ns)).layable0 = true → ¬ ((63 : Nat) : Int) < (ns.length : Int) → dp + 2 < recursionLimit → un + 16 < cLine →
    (∀ r us ms n h' tk', Fr h₀ L h' m → News h₀ L h' [(r, W.listOf (List.toArray us) n)] → IntsAre us ms → ms.length ≤ 100 → Q (.ref r) { s with heap := h', toks := tk' }) →
    wpAny (model prog w) (ktrTop dp un gd cn cs L a ccd cl outer) (call (.ref f) [.ref l]) Q E s
theorem news_one {h₀ h : Heap} {L : Addr} {l : List (Addr × Obj)} {q : Addr × Obj} (N : News h₀ L h l) (hq : q ∈ l) : News h₀ L h [q] := fun p hp => by rw [List.mem_singleton.mp hp]; exact N q hq
set_option maxRecDepth 100000 in
set_option maxHeartbeats 4000000 in
theorem block_tells (w : World) (mean : ExcName → Option Value) (mg mb : Str → Option Value) : BlockTells PySem.Challenge.rw_k14_0004.row.prog w (Mine.hd.heap_39 w.params) Mine.hd.view_39 (looseW Mine.hd.view_39 []) mean mg mb 38 := by
  k_fill
  k_with "call ref" => k_call_by "_law_cell" (fun (ns : List Int) (i : Int) => cellAt ns i 0) (fun (_ : List Int) (i : Int) => 0 ≤ i)
  k_with "tree" => cell_eq
  unfold BlockTells
  intro dp un gd cn cs a ccd cl outer A₀ base h₀ L m s l vs ns Q E B F X N T hk hl hi hlay h63 hd hu hret
  refine wpAny_call ?_
  k_dflt (refine' code_defC ?k1 ?k2 ?k3 ?k4 ?k5 ?kA ?kF ?kK ?k6 ?k7 ?k8 ?k9 ?kB ?kD ?_ ?c2 ?c3 ?c4; (case kA => exact rfl); (case kF => exact rfl); (case kK => assumption); (case k1 => k_asm); (case k2 => k_asm); (case k3 => k_asm); (case k4 => k_asm); (case k5 => k_asm); (case k6 => k_is); (case k7 => k_is); (case k8 => ktr_room); (case k9 => exact BindsTo.of_eq rfl); (case kB => exact rfl); (case kD => decide +kernel); (case c2 => exact rfl); (case c3 => exact rfl); (case c4 => exact rfl); k_whole)
  intro g' L' h' tk' cells' FG' F' N' Y' B' X' T' l1
  (try k_lt l1)
  k_cells Y'
  (try simp only [List.cons_append, List.nil_append] at N')
  (try dsimp only)
  (try k_lift B')
  (try k_fold)
  k_steps
  all_goals (refine hret _ _ _ _ _ _ (by k_asm) (news_one (by k_asm) (by k_mem)) (by l_ints) ?_; ((try simp only [List.length_append, List.length_set, List.length_map, rangeKs_length, List.length_cons, List.length_nil, List.length_take]); first | omega | ((try k_fmods); omega)))
theorem block_use {w : World} {mean : ExcName → Option Value} {mg mb : Str → Option Value} {dp un : Nat} {gd : Option (List Code)} {cn : Str} {cs : Scope} {a : Addr} {ccd : Value} {cl : List (Str × Addr)} {outer : List Env} {A₀ : Around} {base h₀ : Heap} {L : Addr} {m : Str → Option Value} {s : Shared} {l : Addr} {vs : List Value} {ns : List Int}
    {Q E : Value → Shared → Prop} (B : Below A₀ base outer h₀) (F : Fr h₀ L s.heap m) (X : (Mine.hd.heap_39 w.params).In h₀) (T : Top Mine.hd.view_39 (looseW Mine.hd.view_39 []) mean mg mb h₀) (hk : cs.kind = .function) (hl : base.IsList l vs.toArray) (hi : IntsAre vs ns) (hy : (PyData.list (List.map PyData.int ns)).layable0 = true) (h63 : ¬ ((63 : Nat) : Int) < (ns.length : Int)) (hd : dp + 2 < recursionLimit) (hu : un + 16 < cLine)
    (ret : ∀ r us ms n h' tk', Fr h₀ L h' m → News h₀ L h' [(r, W.listOf (List.toArray us) n)] → IntsAre us ms → ms.length ≤ 100 → Q (.ref r) { s with heap := h', toks := tk' }) :
    wpAny (model PySem.Challenge.rw_k14_0004.row.prog w) (ktrTop dp un gd cn cs L a ccd cl outer) (call (.ref 38) [.ref l]) Q E s := block_tells w mean mg mb _ _ _ _ _ _ _ _ _ _ _ _ _ _ _ _ _ _ _ _ B F X (fun _ hp => nomatch hp) T hk hl hi hy h63 hd hu ret
section
variable {ms : List Int} {z k : Int}
theorem z1 (h : ms = List.map (fun k' => k'.fmod 256) (List.take 15 ms) ++ [z]) (hl : (ms.length : Int) ≠ 16) : False := by
  have := congrArg List.length h
  rw [List.length_append, List.length_map, List.length_take] at this
  simp only [List.length_cons, List.length_nil] at this
  omega
theorem z2 (h : ms = List.map (fun k' => k'.fmod 256) (List.take 15 ms) ++ [z]) (hz : z = (List.take 15 ms).sum % 256) (hm : k ∈ ms) (hk : k < 0 ∨ 255 < k) : False := by
  rw [h] at hm
  rcases List.mem_append.mp hm with hm | hm
  · obtain ⟨y, _, rfl⟩ := List.mem_map.mp hm
    rw [Int.fmod_eq_emod_of_nonneg _ (by decide)] at hk
    omega
  · rw [List.mem_singleton.mp hm] at hk
    omega
theorem s1 {pre : List Int} (hz : z = pre.sum % 256) : (z + k).fmod 256 = (pre ++ [k]).sum % 256 := by
  rw [Int.fmod_eq_emod_of_nonneg _ (by decide), List.sum_append, List.sum_cons, List.sum_nil]
  omega
theorem z15 (h : ms = List.map (fun k' => k'.fmod 256) (List.take 15 ms) ++ [z]) (hl : (ms.length : Int) = 16) : ms.getD (Int.toNat 15) 0 = z := by
  have e : (15 : Int).toNat = 15 := rfl
  rw [e, h, List.getD_eq_getElem?_getD, List.getElem?_append_right (by rw [List.length_map, List.length_take]; omega), List.length_map, List.length_take]
  have e2 : 15 - min 15 ms.length = 0 := by omega
  rw [e2]; rfl
theorem z3 (h : ms = List.map (fun k' => k'.fmod 256) (List.take 15 ms) ++ [z]) (hz : z = (List.take 15 ms).sum % 256) (hl : (ms.length : Int) = 16) (a : ((ms.getD (Int.toNat 15) 0 == (List.take 15 ms).sum.fmod 256) != true) = true) : False := by
  rw [z15 h hl, hz, Int.fmod_eq_emod_of_nonneg _ (by decide)] at a
  simp at a
theorem z4 (h : ¬ ms = List.map (fun k' => k'.fmod 256) (List.take 15 ms) ++ [z]) (hz : z = (List.take 15 ms).sum % 256) (hl : (ms.length : Int) = 16) (hr : ∀ v : Int, v ∈ ms → 0 ≤ v ∧ v ≤ 255) (a : ((ms.getD (Int.toNat 15) 0 == (List.take 15 ms).sum.fmod 256) != false) = true) : False := by
  have a' : ms.getD 15 0 = (List.take 15 ms).sum % 256 := by
    rw [← Int.fmod_eq_emod_of_nonneg _ (by decide)]
    simpa using a
  apply h
  have hm : List.map (fun k' => Int.fmod k' 256) (List.take 15 ms) = List.take 15 ms := by
    conv => rhs; rw [← List.map_id (List.take 15 ms)]
    apply List.map_congr_left
    intro x hx
    have := hr x (List.mem_of_mem_take hx)
    rw [Int.fmod_eq_emod_of_nonneg _ (by decide)]
    simp only [id]; omega
  rw [hm, hz, ← a']
  have h15 : 15 < ms.length := by omega
  have hd : ms.drop 15 = [ms.getD 15 0] := by
    apply List.ext_getElem?
    intro i
    rw [List.getElem?_drop]
    cases i with
    | zero => rw [List.getD_eq_getElem?_getD, Nat.add_zero, List.getElem?_eq_getElem h15]; rfl
    | succ i => rw [List.getElem?_eq_none (by omega)]; simp
  rw [← hd]
  exact (List.take_append_drop 15 ms).symm
end
end Mine
set_option maxRecDepth 100000 in
set_option maxHeartbeats 8000000 in
theorem PySem.Challenge.cw_k14_0004_holds : PySem.Challenge.rw_k14_0004.Holds := by
  refine Mine.hd ?_
  k_with "call ref" => (k_dflt (refine' Mine.block_use ?k1 ?k2 ?k3 ?k4 ?kK ?kl ?ki ?ky ?k6 ?kd ?ku ?_; (case k1 => k_asm); (case k2 => k_asm); (case k3 => k_asm); (case k4 => k_asm); (case kK => first | exact rfl | assumption); (case kl => k_asm); (case ki => l_ints); (case ky => assumption); (case k6 => assumption); (case kd => ktr_room); (case ku => ktr_units); (intro r9 us9 ms9 n9 h9 tk9 F9 N9 hI9 hL9); (try dsimp only); (try k_fold)))
  k_with "pyIter ref" => k_search (fun pre => ∀ v ∈ pre, 0 ≤ v ∧ v ≤ 255)
  k_with "pyIter ref" => k_state (fun pre total => total = pre.sum % 256) "total"
  k_with "state" => exact Mine.s1 (by assumption)
  k_with "end" => first
    | exact (Mine.z1 (by assumption) (by assumption)).elim
    | exact (Mine.z2 (by assumption) (by assumption) (by assumption) (Or.inl (by assumption))).elim
    | exact (Mine.z2 (by assumption) (by assumption) (by assumption) (Or.inr (by assumption))).elim
    | exact (Mine.z3 (by assumption) (by assumption) (by assumption) (by assumption)).elim
    | exact (Mine.z4 (by assumption) (by assumption) (by assumption) (by assumption) (by assumption)).elim
  k_go
