import PyProof.Rows.All
import Wide.All
import OpenK.AllK
import Wide.FinOn
import PySem.Challenge.RW_k14_0010
open PySem PySem.W PyProof.Rows PySem.Calls PySem.Spec
set_option Elab.async false
namespace Mine
set_option maxRecDepth 100000 in
set_option maxHeartbeats 8000000 in
open_top hd for PySem.Challenge.rw_k14_0010
def encP (p : Int × Int) : Dat := .tuple [.int p.1, .int p.2]
def RunTells (prog : Program) (w : World) (K : Frag) (p : Program) (loose : List Str) (mean : ExcName → Option Value) (mg mb : Str → Option Value) (f : Addr) (sign : Int) : Prop :=
  ∀ (dp un : Nat) (gd : Option (List Code)) (cn : Str) (cs : Scope) (a : Addr) (ccd : Value) (cl : List (Str × Addr)) (outer : List Env) (A₀ : Around) (base h₀ : Heap) (L : Addr) (m : Str → Option Value) (news : List (Addr × Obj)) (s : Shared) (l : Addr) (vs : List Value) (ns : List Int)
    (first count key : Int) (t1 t2 t3 t4 : Tok) (Q E : Value → Shared → Prop),
    Below A₀ base outer h₀ → Fr h₀ L s.heap m → K.In h₀ → News h₀ L s.heap news → Top p loose mean mg mb h₀ → cs.kind = .function → base.IsList l vs.toArray → IntsAre vs ns → (PyData.list (List.map PyData.int ns)).layable0 = true → ¬ ((63 : Nat) : Int) < (ns.length : Int) → 0 ≤ first → first ≤ 8 → 0 ≤ count → count ≤ 40 → dp + 2 < recursionLimit → un + 16 < cLine →
    (∀ r us n tl ps h' tk', Fr h₀ L h' m → News h₀ L h' ((r, W.listOf (List.toArray us) n) :: (news ++ tl)) → (∀ q ∈ news, q.1 < r) → OwnOff tl (r :: List.map Prod.fst news) → DatAll (news ++ tl) us (List.map encP ps) → (∀ p ∈ ps, p.1 ≠ key) → ps.length ≤ 40 → Q (.ref r) { s with heap := h', toks := tk' }) →
    wpAny (model prog w) (ktrTop dp un gd cn cs L a ccd cl outer) (call (.ref f) [.ref l, .int first t1, .int count t2, .int key t3, .int sign t4]) Q E s
theorem r_start (key : Int) : ([] : List Dat).length = ([] : List Int).length ∧ (0 : Int) ≤ 0 ∧ (0 : Int) ≤ 3 * ((([] : List Int).length : Nat) : Int) ∧ ∃ ps : List (Int × Int), ([] : List Dat) = List.map encP ps ∧ ∀ p ∈ ps, p.1 ≠ key :=
  ⟨rfl, by decide, by decide, [], rfl, fun _ h => nomatch h⟩
theorem r_turn {ws : List (Int × Int)} {pre : List Int} {k off c v key : Int} (sg : Int) (hs : sg = 1 ∨ sg = -1) (hl : (List.map encP ws).length = pre.length) (h0 : 0 ≤ off) (h3 : off ≤ 3 * (pre.length : Int)) (hr : ∀ p : Int × Int, p ∈ ws → p.1 ≠ key) :
    (List.map encP ws ++ [Dat.tuple [Dat.int (key + sg * (off + 1 + c.fmod 3)), Dat.int v]]).length = (pre ++ [k]).length ∧ 0 ≤ off + 1 + c.fmod 3 ∧ off + 1 + c.fmod 3 ≤ 3 * ((pre ++ [k]).length : Int) ∧
      ∃ ps : List (Int × Int), List.map encP ws ++ [Dat.tuple [Dat.int (key + sg * (off + 1 + c.fmod 3)), Dat.int v]] = List.map encP ps ∧ ∀ p ∈ ps, p.1 ≠ key := by
  have e : (pre ++ [k]).length = pre.length + 1 := by simp
  have hf : c.fmod 3 = c % 3 := Int.fmod_eq_emod_of_nonneg _ (by decide)
  rw [e, hf]
  refine ⟨by rw [List.length_append, hl]; rfl, by omega, by omega, ws ++ [(key + sg * (off + 1 + c % 3), v)], by rw [List.map_append]; rfl, fun p hp => ?_⟩
  rcases List.mem_append.mp hp with hp | hp
  · exact hr p hp
  · rw [List.mem_singleton.mp hp]
    show key + sg * (off + 1 + c % 3) ≠ key
    rcases hs with rfl | rfl <;> omega
set_option maxRecDepth 100000 in
set_option maxHeartbeats 4000000 in
theorem run_tells (w : World) (mean : ExcName → Option Value) (mg mb : Str → Option Value) (sign : Int) (hs : sign = 1 ∨ sign = -1) : RunTells PySem.Challenge.rw_k14_0010.row.prog w (Mine.hd.heap_39 w.params) Mine.hd.view_39 (looseW Mine.hd.view_39 []) mean mg mb 33 sign := by
  w_top off
  k_fill
  k_with_none
  k_with "call ref" => k_call_by "_law_cell" (fun (ns : List Int) (i : Int) => cellAt ns i 0) (fun (_ : List Int) (i : Int) => 0 ≤ i)
  k_with "tree" => cell_eq
  unfold RunTells
  intro dp un gd cn cs a ccd cl outer A₀ base h₀ L m news s l vs ns first count key t1 t2 t3 t4 Q E B F X N T hk hl hi hlay h63 hf0 hf8 hc0 hc5 hd hu hret
  k_with "pyIter ref" => k_dat (fun pre out off => out.length = pre.length ∧ 0 ≤ off ∧ off ≤ 3 * (pre.length : Int) ∧ ∃ ps : List (Int × Int), out = List.map encP ps ∧ ∀ p ∈ ps, p.1 ≠ key) "out*" "off"
  k_with "state" => first
    | exact r_start key
    | exact r_turn 1 (.inl rfl) (by assumption) (by assumption) (by assumption) (by assumption)
    | exact r_turn (-1) (.inr rfl) (by assumption) (by assumption) (by assumption) (by assumption)
  rcases hs with hs | hs <;> subst hs
  all_goals (refine wpAny_call ?_; k_dflt cell_enter; k_steps)
  all_goals (refine hret _ _ _ _ _ _ _ (by k_asm) (by k_asm) (by assumption) (by assumption) (by assumption) (by assumption) ?_; ((try simp only [List.length_map, rangeKs_length] at *); omega))
theorem datP {news : List (Addr × Obj)} {v : Value} {p : Int × Int} (h : DatIn news v (encP p)) : ∃ (a : Addr) (t1 t2 : Tok) (n : Nat), v = .ref a ∧ (a, ({ cls := .type "tuple", data := .seq [Value.int p.1 t1, Value.int p.2 t2].toArray n } : Obj)) ∈ news := by
  unfold encP at h
  cases h with
  | tuple hm r =>
    cases r with
    | cons h1 r =>
      cases r with
      | cons h2 r =>
        cases r
        cases h1
        cases h2
        exact ⟨_, _, _, _, rfl, hm⟩
theorem drop2 {h₀ h : Heap} {L : Addr} {l : List (Addr × Obj)} {q p : Addr × Obj} (N : News h₀ L h (q :: p :: l)) : News h₀ L h (q :: l) := fun x hx => N x ((List.mem_cons.mp hx).elim (fun e => e ▸ List.mem_cons_self) fun h => List.mem_cons_of_mem _ (List.mem_cons_of_mem _ h))
theorem off1_mem {D : Addr} : ∀ {l : List (Addr × Obj)}, LCg.Off1 D l → ∀ p ∈ l, p.1 ≠ D
  | [], _, _, h => nomatch h
  | _ :: _, x, p, h => by
    rcases List.mem_cons.mp h with rfl | h
    · exact x.1
    · exact off1_mem x.2 p h
section
variable {prog : Program} {w : World} {A : Around} {h₀ : Heap} {L : Addr} {m : Str → Option Value} {env : Env} {ct elt : Expr} {x : Str} {scope : Scope} {cl : List (Str × Addr)} {s : Shared} {S : List (Addr × Obj) → Prop} {Fin : List Value → List (Addr × Obj) → Prop} {news : List (Addr × Obj)}
theorem cd_rest {n₀ : List (Addr × Obj)} {us : List Value} {ps : List (Int × Int)} {key : Int} (hd : DatAll n₀ us (List.map encP ps)) (hsub : ∀ p ∈ n₀, p ∈ news)
    (turn : ∀ (a : Addr) (k v : Int) (t1 t2 : Tok) (nn : Nat) I oI C oC D m₂ ys h tk (E' : Value → Shared → Prop), (a, ({ cls := .type "tuple", data := .seq [Value.int k t1, Value.int v t2].toArray nn } : Obj)) ∈ news → LCg.NsObj oC m₂ → m₂ x = some (.ref a) → Fr h₀ L h m → News h₀ L h ((I, oI) :: (C, oC) :: (D, LCg.lst ys) :: news) → LCg.Off3 I C D news → ((@Ne Nat I C) ∧ (@Ne Nat I D) ∧ (@Ne Nat C D)) →
      wpAny (model prog w) A (isTrue ct (compEnvC scope cl C env) (eval ct (compEnvC scope cl C env))) (fun b s' => if b = true then wpAny (model prog w) A (eval elt (compEnvC scope cl C env)) (LCg.CompEnd h₀ L m { s with heap := h, toks := tk } I oI C oC D (LCg.lst ys) S (fun y news' => news' = news ∧ y = .ref a ∧ k ≠ key)) E' s'
        else LCg.CompEnd h₀ L m { s with heap := h, toks := tk } I oI C oC D (LCg.lst ys) S (fun _ news' => news' = news ∧ k = key) Value.none s') E' { s with heap := h, toks := tk })
    (fin : ∀ ys, DatAll n₀ ys (List.map encP (ps.filter fun p => !decide (p.1 = key))) → ys.length ≤ us.length → Fin ys news) :
    LCt.CompRestT prog w A h₀ L m env ct elt x scope cl s S (fun i v => us.toArray[i]? = some v) Fin us.toArray.size 0 [] news := by
  have hlen : us.length = ps.length := by rw [hd.length, List.length_map]
  have step : ∀ (j i : Nat) (ys : List Value), i + j = us.length → ys.length ≤ i → DatAll n₀ ys (List.map encP ((ps.take i).filter fun p => !decide (p.1 = key))) → LCt.CompRestT prog w A h₀ L m env ct elt x scope cl s S (fun i v => us.toArray[i]? = some v) Fin j i ys news := by
    intro j
    induction j with
    | zero =>
      intro i ys hi hyl hy
      have e : i = ps.length := by omega
      subst e
      rw [List.take_length] at hy
      exact LCt.CompRestT.zero (fin ys hy (by omega))
    | succ j ih =>
      intro i ys hi hyl hy
      refine LCt.CompRestT.succ ?_
      intro v I oI C oC D m₂ h tk E' hv hC hx F N off ne
      have hiL : i < ps.length := by omega
      obtain ⟨v', hv', hD⟩ := hd.get (k := i) (by rw [List.length_map]; exact hiL)
      have ev : v' = v := by
        have : us[i]? = some v := by simpa using hv
        rw [this] at hv'; exact (Option.some.inj hv').symm
      subst ev
      rw [List.getElem_map] at hD
      obtain ⟨a, t1, t2, nn, rfl, hm⟩ := datP hD
      have hs : (ps.take (i + 1)) = ps.take i ++ [ps[i]] := by rw [List.take_add_one, List.getElem?_eq_getElem hiL]; rfl
      refine wpAny_mono (turn a _ _ t1 t2 nn I oI C oC D m₂ ys h tk E' (hsub _ hm) hC hx F N off ne) (fun b s₂ hq => ?_) fun _ _ e => e
      cases b with
      | true =>
        simp only [if_true] at hq ⊢
        refine wpAny_mono hq (fun y s₃ hr => ?_) fun _ _ e => e
        obtain ⟨h', tk', nw, e, F', N', off', hS, hn, hy', hk⟩ := hr
        rw [hn] at N' off' hS
        refine ⟨h', tk', news, e, F', N', off', hS, ?_⟩
        rw [hy']
        refine ih (i + 1) _ (by omega) (by rw [List.length_append]; simp only [List.length_cons, List.length_nil]; omega) ?_
        rw [hs, List.filter_append, List.map_append]
        refine DatAll.append hy ?_
        have : (List.filter (fun p => !decide (p.1 = key)) [ps[i]]) = [ps[i]] := by simp [hk]
        rw [this]
        exact DatAll.one hD
      | false =>
        simp only [Bool.false_eq_true, if_false] at hq ⊢
        obtain ⟨h', tk', nw, e, F', N', off', hS, hn, hk⟩ := hq
        rw [hn] at N' off' hS
        refine ⟨h', tk', news, e, F', N', off', hS, ih (i + 1) _ (by omega) (by omega) ?_⟩
        rw [hs, List.filter_append, List.map_append]
        have : (List.filter (fun p => !decide (p.1 = key)) [ps[i]]) = [] := by simp [hk]
        rw [this]
        simpa using hy
  have := step us.length 0 [] (by omega) (Nat.le_refl _) (by simpa using DatAll.nil)
  rw [List.size_toArray]
  exact this
end
def DelTells (prog : Program) (w : World) (K : Frag) (p : Program) (loose : List Str) (mean : ExcName → Option Value) (mg mb : Str → Option Value) (f : Addr) : Prop :=
  ∀ (dp un : Nat) (gd : Option (List Code)) (cn : Str) (cs : Scope) (a : Addr) (ccd : Value) (cl : List (Str × Addr)) (outer : List Env) (A₀ : Around) (base h₀ : Heap) (L : Addr) (m : Str → Option Value) (news : List (Addr × Obj)) (s : Shared) (l : Addr) (us : List Value) (n : Nat) (ps : List (Int × Int)) (n₀ : List (Addr × Obj))
    (key : Int) (t1 : Tok) (Q E : Value → Shared → Prop),
    Below A₀ base outer h₀ → Fr h₀ L s.heap m → K.In h₀ → News h₀ L s.heap news → Top p loose mean mg mb h₀ → cs.kind = .function → (l, W.listOf (List.toArray us) n) ∈ news → DatAll n₀ us (List.map encP ps) → (∀ p ∈ n₀, p ∈ news) → ps.length ≤ 1000 → dp + 2 < recursionLimit → un + 16 < cLine →
    (∀ r us' n' h' tk', Fr h₀ L h' m → News h₀ L h' ((r, W.listOf (List.toArray us') n') :: news) → LCg.Off1 r news → DatAll n₀ us' (List.map encP (ps.filter fun p => !decide (p.1 = key))) → Q (.ref r) { s with heap := h', toks := tk' }) →
    wpAny (model prog w) (ktrTop dp un gd cn cs L a ccd cl outer) (call (.ref f) [.ref l, .int key t1]) Q E s
set_option maxRecDepth 100000 in
set_option maxHeartbeats 4000000 in
theorem del_tells (w : World) (mean : ExcName → Option Value) (mg mb : Str → Option Value) : DelTells PySem.Challenge.rw_k14_0010.row.prog w (Mine.hd.heap_39 w.params) Mine.hd.view_39 (looseW Mine.hd.view_39 []) mean mg mb 19 := by
  w_top off
  k_fill
  k_with_none
  unfold DelTells
  intro dp un gd cn cs a ccd cl outer A₀ base h₀ L m news s l us n ps n₀ key t1 Q E B F X N T hk hl hD hsub hlen hd hu hret
  refine wpAny_call ?_
  k_dflt (refine' code_defC ?k1 ?k2 ?k3 ?k4 ?k5 ?kA ?kF ?kK ?k6 ?k7 ?k8 ?k9 ?kB ?kD ?_ ?c2 ?c3 ?c4; (case kA => exact rfl); (case kF => exact rfl); (case kK => assumption); (case k1 => k_asm); (case k2 => k_asm); (case k3 => k_asm); (case k4 => k_asm); (case k5 => k_asm); (case k6 => k_is); (case k7 => k_is); (case k8 => ktr_room); (case k9 => exact BindsTo.of_eq rfl); (case kB => exact rfl); (case kD => decide +kernel); (case c2 => exact rfl); (case c3 => exact rfl); (case c4 => exact rfl); k_whole)
  intro g' L' h' tk' cells' FG' F' N' Y' B' X' T' l1
  (try k_lt l1)
  k_cells Y'
  (try simp only [List.cons_append, List.nil_append] at N')
  (try dsimp only)
  (try k_lift B')
  (try k_fold)
  walk1
  walk1
  k_dflt (refine LCt.ListComp_T (F₀ := by k_asm) (by with_unfolding_all rfl) (by decide) (by rfl) (by decide) (by rfl) ?_)
  walk1
  k_dflt (refine LCt.CompSrcT.ledger (by rfl) (by k_asm) (by k_asm) (List.mem_cons_of_mem _ hl) (by rw [List.size_toArray, hD.length, List.length_map, PySem.sizeLine_eq]; omega) ?_)
  intro g9
  refine cd_rest (key := key) hD (fun p h => List.mem_cons_of_mem _ (hsub p h)) ?_ ?_
  · intro a k v t1' t2' nn I oI C oC D m₂ ys h9 tk9 E' hmem hC hx F9 N9 off ne
    have kMark := kdMark
    k_steps
    · exact LCg.CompEnd.intro (by assumption) (by assumption) _ (fun _ hp => hp) (by assumption) (Or.inr ⟨_, List.mem_cons_of_mem _ hl, rfl, _, rfl⟩) ⟨rfl, rfl, by assumption⟩
    · exact LCg.CompEnd.intro (by assumption) (by assumption) _ (fun _ hp => hp) (by assumption) (Or.inr ⟨_, List.mem_cons_of_mem _ hl, rfl, _, rfl⟩) ⟨rfl, by first | assumption | omega⟩
  · intro ys hy hyl
    k_steps
    (rename _ ∧ LCg.Off1 _ _ => o1)
    exact hret _ ys ys.length _ _ (by k_asm) (drop2 (by assumption)) o1.2 hy
section
variable {prog : Program} {w : World} {A : Around} {E : Value → Shared → Prop} {s : Shared} {h₀ : Heap} {L a b : Addr} {m : Str → Option Value} {news n₁ n₂ : List (Addr × Obj)} {oa ob : Obj} {us ws : List Value} {ka kb : Nat} {ps qs : List (Int × Int)} {Q : Value → Shared → Prop}
theorem isL {h : Heap} (N : News h₀ L h news) (ma : (a, oa) ∈ news) (ca : oa.cls = .type "list") (da : oa.data = .seq us.toArray ka) : h.IsList a us.toArray := ⟨oa, (N _ ma).1, ca, ka, da⟩
theorem add_dat (F : Fr h₀ L s.heap m) (N : News h₀ L s.heap news) (ma : (a, oa) ∈ news) (ca : oa.cls = .type "list") (da : oa.data = .seq us.toArray ka) (Da : DatAll n₁ us (List.map encP ps)) (sa : ∀ p ∈ n₁, p ∈ news)
    (mb : (b, ob) ∈ news) (cb : ob.cls = .type "list") (db : ob.data = .seq ws.toArray kb) (Db : DatAll n₂ ws (List.map encP qs)) (sb : ∀ p ∈ n₂, p ∈ news) (hz : ps.length + qs.length ≤ 1000)
    (h : ∀ D h', Fr h₀ L h' m → News h₀ L h' ((D, W.listOf (List.toArray (us ++ ws)) 0) :: news) → (∀ p ∈ news, p.1 < D) → DatAll (n₁ ++ n₂) (us ++ ws) (List.map encP (ps ++ qs)) → Q (.ref D) { s with heap := h' }) :
    wpAny (model prog w) A (binaryOp .Add (.ref a) (.ref b)) Q E s := by
  have h1 := Da.length
  have h2 := Db.length
  rw [List.length_map] at h1 h2
  refine kmk_add_lit (zs := us ++ ws) F N (isL N ma ca da) (isL N mb cb db) (by simp) (fun D h' F' N' l1 => h D h' F' N' l1 ?_) ?_
  · rw [List.map_append]
    exact DatAll.append (Da.mono fun _ h => List.mem_append.mpr (.inl h)) (Db.mono fun _ h => List.mem_append.mpr (.inr h))
  · rw [PySem.sizeLine_eq]
    simp only [List.toList_toArray]
    omega
theorem rev_all {ds : List Dat} (h : DatAll news us ds) : DatAll news us.reverse ds.reverse := by
  induction us generalizing ds with
  | nil => cases h; exact DatAll.nil
  | cons v vs ih =>
    cases h with
    | cons h r =>
      rw [List.reverse_cons, List.reverse_cons]
      exact DatAll.append (ih r) (DatAll.one h)
theorem rev_dat {value slice : PySem.Expr} {vk : Value} {ops : List Value} (F : Fr h₀ L s.heap m) (N : News h₀ L s.heap news) (ma : (a, oa) ∈ news) (ca : oa.cls = .type "list") (da : oa.data = .seq us.toArray ka) (Da : DatAll n₁ us (List.map encP ps)) (pk : IsPart vk (some (-1)))
    (h : ∀ D h', Fr h₀ L h' m → News h₀ L h' ((D, W.listOf (List.toArray us.reverse) 0) :: news) → (∀ p ∈ news, p.1 < D) → DatAll n₁ us.reverse (List.map encP ps.reverse) → us.reverse.length = ps.length → Q (.ref D) { s with heap := h' })
    (hs : subscripted slice false (.ref a) (.ref s.heap.objs.size) = operate ops (getItem (.ref a) (.ref s.heap.objs.size))) (ht : ∀ r, letTemporaryGo value (.ref a) r = pure ()) (hz : ps.length ≤ 1000) :
    wpAny (model prog w) A (subscriptTail value slice (.ref a) (.ref s.heap.objs.size)) Q E { s with heap := s.heap.push { cls := .type "slice", data := .fields #[.none, .none, vk] } } := by
  have h1 := Da.length
  rw [List.length_map] at h1
  refine krv_lit (its := us.toArray) (zs := us.reverse) F N (isL N ma ca da) pk rfl (fun D h' F' N' l1 => h D h' F' N' l1 ?_ (by rw [List.length_reverse]; exact h1)) hs ht ?_
  · rw [List.map_reverse]
    exact rev_all Da
  · rw [PySem.sizeLine_eq, List.size_toArray]
    omega
end
section
variable {w : World} {mean : ExcName → Option Value} {mg mb : Str → Option Value} {dp un : Nat} {gd : Option (List Code)} {cn : Str} {cs : Scope} {a : Addr} {ccd : Value} {cl : List (Str × Addr)} {outer : List Env} {A₀ : Around} {base h₀ : Heap} {L : Addr} {m : Str → Option Value} {news : List (Addr × Obj)} {s : Shared} {l : Addr}
  {Q E : Value → Shared → Prop}
theorem run_use {vs : List Value} {ns : List Int} {first count key sign : Int} {t1 t2 t3 t4 : Tok} (hs : sign = 1 ∨ sign = -1) (B : Below A₀ base outer h₀) (F : Fr h₀ L s.heap m) (X : (Mine.hd.heap_39 w.params).In h₀) (N : News h₀ L s.heap news) (T : Top Mine.hd.view_39 (looseW Mine.hd.view_39 []) mean mg mb h₀) (hk : cs.kind = .function) (hl : base.IsList l vs.toArray) (hi : IntsAre vs ns) (hy : (PyData.list (List.map PyData.int ns)).layable0 = true) (h63 : ¬ ((63 : Nat) : Int) < (ns.length : Int))
    (h1 : 0 ≤ first) (h2 : first ≤ 8) (h3 : 0 ≤ count) (h4 : count ≤ 40) (hd : dp + 2 < recursionLimit) (hu : un + 16 < cLine)
    (ret : ∀ r us n tl ps h' tk', Fr h₀ L h' m → News h₀ L h' ((r, W.listOf (List.toArray us) n) :: (news ++ tl)) → (∀ q ∈ news, q.1 < r) → OwnOff tl (r :: List.map Prod.fst news) → DatAll (news ++ tl) us (List.map encP ps) → (∀ p ∈ ps, p.1 ≠ key) → ps.length ≤ 40 → Q (.ref r) { s with heap := h', toks := tk' }) :
    wpAny (model PySem.Challenge.rw_k14_0010.row.prog w) (ktrTop dp un gd cn cs L a ccd cl outer) (call (.ref 33) [.ref l, .int first t1, .int count t2, .int key t3, .int sign t4]) Q E s :=
  run_tells w mean mg mb sign hs _ _ _ _ _ _ _ _ _ _ _ _ _ _ _ _ _ _ _ _ _ _ _ _ _ _ _ _ B F X N T hk hl hi hy h63 h1 h2 h3 h4 hd hu ret
theorem del_use {us : List Value} {n : Nat} {ps : List (Int × Int)} {key : Int} {t1 : Tok} {n₁ : List (Addr × Obj)} (B : Below A₀ base outer h₀) (F : Fr h₀ L s.heap m) (X : (Mine.hd.heap_39 w.params).In h₀) (N : News h₀ L s.heap news) (T : Top Mine.hd.view_39 (looseW Mine.hd.view_39 []) mean mg mb h₀) (hk : cs.kind = .function) (hl : (l, W.listOf (List.toArray us) n) ∈ news) (hD : DatAll n₁ us (List.map encP ps)) (sa : ∀ p ∈ n₁, p ∈ news) (hz : ps.length ≤ 1000) (hd : dp + 2 < recursionLimit) (hu : un + 16 < cLine)
    (ret : ∀ r us' n' h' tk', Fr h₀ L h' m → News h₀ L h' ((r, W.listOf (List.toArray us') n') :: news) → LCg.Off1 r news → DatAll n₁ us' (List.map encP (ps.filter fun p => !decide (p.1 = key))) → Q (.ref r) { s with heap := h', toks := tk' }) :
    wpAny (model PySem.Challenge.rw_k14_0010.row.prog w) (ktrTop dp un gd cn cs L a ccd cl outer) (call (.ref 19) [.ref l, .int key t1]) Q E s :=
  del_tells w mean mg mb _ _ _ _ _ _ _ _ _ _ _ _ _ _ _ _ _ _ _ _ _ _ _ _ _ B F X N T hk hl hD sa hz hd hu ret
end
theorem keep_all {K : Int} {l : List (Int × Int)} (h : ∀ p : Int × Int, p ∈ l → p.1 ≠ K) : l.filter (fun p => !decide (p.1 = K)) = l :=
  List.filter_eq_self.mpr fun p hp => by simp [h p hp]
theorem f_hit {K c : Int} {P Q : List (Int × Int)} {i : Decidable (List.map encP (List.filter (fun p => !decide (p.1 = K)) (P.reverse ++ [(K + 1 - 1, c)] ++ Q)) = List.map encP (P.reverse ++ Q))}
    (h : @decide (List.map encP (List.filter (fun p => !decide (p.1 = K)) (P.reverse ++ [(K + 1 - 1, c)] ++ Q)) = List.map encP (P.reverse ++ Q)) i = false) (hP : ∀ p : Int × Int, p ∈ P → p.1 ≠ K) (hQ : ∀ p : Int × Int, p ∈ Q → p.1 ≠ K) : False := by
  apply of_decide_eq_false h
  rw [List.filter_append, List.filter_append, keep_all (l := P.reverse) (fun p hp => hP p (List.mem_reverse.mp hp)), keep_all hQ]
  have e : K + 1 - 1 = K := by omega
  have : List.filter (fun p : Int × Int => !decide (p.1 = K)) [(K + 1 - 1, c)] = [] := by simp [e]
  rw [this, List.append_nil]
theorem f_no {K : Int} {P Q : List (Int × Int)} {i : Decidable (List.map encP (List.filter (fun p => !decide (p.1 = K)) (P.reverse ++ [] ++ Q)) = List.map encP (P.reverse ++ Q))}
    (h : @decide (List.map encP (List.filter (fun p => !decide (p.1 = K)) (P.reverse ++ [] ++ Q)) = List.map encP (P.reverse ++ Q)) i = false) (hP : ∀ p : Int × Int, p ∈ P → p.1 ≠ K) (hQ : ∀ p : Int × Int, p ∈ Q → p.1 ≠ K) : False := by
  apply of_decide_eq_false h
  rw [List.append_nil, List.filter_append, keep_all (l := P.reverse) (fun p hp => hP p (List.mem_reverse.mp hp)), keep_all hQ]
theorem one_dat {news : List (Addr × Obj)} {v : Value} {x y : Int} (h : DatAll news [v] [Dat.tuple [Dat.int x, Dat.int y]]) : DatAll news [v] (List.map encP [(x, y)]) := h
theorem no_dat : DatAll ([] : List (Addr × Obj)) [] (List.map encP []) := DatAll.nil
end Mine
local macro_rules | `(tactic| walk_at "subscriptTail Name Slice ref ref") => `(tactic| (kd_here; (with_reducible show wpAny _ _ (subscriptTail _ (PySem.Expr.Slice none none (some _) _) (Value.ref _) (Value.ref _)) _ _ _); k_dflt (refine' Mine.rev_dat ?zF ?zN ?za ?zb ?zc ?zd ?zk ?_ ?zs ?zt ?zz; (case zF => k_asm); (case zN => k_asm); (case za => k_mem); (case zb => rfl); (case zc => rfl); (case zd => with_reducible assumption); (case zk => exact IsPart.int _ _); (case zs => with_unfolding_all rfl); (case zt => kmk_pure); (case zz => omega)); intro D' h' F' N' l1 hD' hlD'; (try k_lt l1); (try k_sweep)))
local macro_rules | `(tactic| walk_at "binaryOp Add ref ref") => `(tactic| (kd_here; (with_reducible show wpAny _ _ (binaryOp _ (Value.ref _) (Value.ref _)) _ _ _); k_dflt (first
  | (refine' Mine.add_dat ?zF ?zN ?za ?zb ?zc ?zd ?ze ?zf ?zg ?zi ?zj ?zk ?zz ?_; (case zF => k_asm); (case zN => k_asm); (case za => k_mem); (case zb => rfl); (case zc => rfl); (case zd => with_reducible assumption); (case ze => kqd_sub); (case zf => k_mem); (case zg => rfl); (case zi => rfl); (case zj => first | with_reducible assumption | exact Mine.no_dat); (case zk => kqd_sub); (case zz => (simp only [List.length_append, List.length_reverse, List.length_cons, List.length_nil]; omega)))
  | (refine' Mine.add_dat ?zF ?zN ?za ?zb ?zc ?zd ?ze ?zf ?zg ?zi ?zj (fun _ h => h) ?zz ?_; (case zF => k_asm); (case zN => k_asm); (case za => k_mem); (case zb => rfl); (case zc => rfl); (case zd => with_reducible assumption); (case ze => kqd_sub); (case zf => k_mem); (case zg => rfl); (case zi => rfl); (case zj => exact Mine.one_dat (by kqd_all)); (case zz => (simp only [List.length_append, List.length_reverse, List.length_cons, List.length_nil]; omega)))); intro D' h' F' N' l1 hD'; (try k_lt l1); (try k_sweep)))
set_option maxRecDepth 100000 in
set_option maxHeartbeats 8000000 in
theorem PySem.Challenge.cw_k14_0010_holds : PySem.Challenge.rw_k14_0010.Holds := by
  refine Mine.hd ?_
  k_with_none
  k_with "call ref" => k_call_by "_law_cell" (fun (ns : List Int) (i : Int) => cellAt ns i 0) (fun (_ : List Int) (i : Int) => 0 ≤ i)
  k_with "tree" => cell_eq
  k_with "call ref" => (k_dflt (refine' Mine.run_use ?yhs ?yk1 ?yk2 ?yk3 ?yk4 ?yk5 ?ykK ?ykl ?yki ?yky ?yk6 ?yh1 ?yh2 ?yh3 ?yh4 ?ykd ?yku ?_; (case yhs => first | exact .inl rfl | exact .inr rfl); (case yk1 => k_asm); (case yk2 => k_asm); (case yk3 => k_asm); (case yk4 => k_asm); (case yk5 => k_asm); (case ykK => first | exact rfl | assumption); (case ykl => k_asm); (case yki => l_ints); (case yky => assumption); (case yk6 => assumption); (case yh1 => decide); (case yh2 => decide); (case yh3 => ((try k_fmods); omega)); (case yh4 => ((try k_fmods); omega)); (case ykd => ktr_room); (case yku => ktr_units); (intro r9 us9 n9 tl9 ps9 h9 tk9 F9 N9 hlt9 off9 hD9 hne9 hlen9); (try k_lt hlt9); (try simp only [List.nil_append, List.cons_append, List.append_assoc] at N9 hD9); (have hlu9 := DatAll.length hD9); (rw [List.length_map] at hlu9); (have kMk := kdMark); (have kMk := kstMark); (try dsimp only); (try k_fold)))
  k_with "call ref" => (k_dflt (refine' Mine.del_use ?yk1 ?yk2 ?yk3 ?yk4 ?yk5 ?ykK ?ykl ?yki ?yks ?ykz ?ykd ?yku ?_; (case yk1 => k_asm); (case yk2 => k_asm); (case yk3 => k_asm); (case yk4 => k_asm); (case yk5 => k_asm); (case ykK => first | exact rfl | assumption); (case ykl => k_mem); (case yki => with_reducible assumption); (case yks => kqd_sub); (case ykz => (simp only [List.length_append, List.length_reverse, List.length_cons, List.length_nil]; omega)); (case ykd => ktr_room); (case yku => ktr_units); (intro r9 us9 n9 h9 tk9 F9 N9 hne9 hD9); (simp only [LCg.Off1] at hne9); (try dsimp only); (try k_fold)))
  k_with "end" => first
    | exact (Mine.f_hit (by assumption) (by assumption) (by assumption)).elim
    | exact (Mine.f_no (by assumption) (by assumption) (by assumption)).elim
  k_go
