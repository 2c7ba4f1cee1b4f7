import PyProof.Rows.All
import Wide.All
import OpenK.AllK
import Wide.FinOn
import PySem.Challenge.RW_k14_0011
open PySem PySem.W PyProof.Rows PySem.Calls PySem.Spec
set_option Elab.async false
namespace Mine
set_option maxRecDepth 100000 in
set_option maxHeartbeats 8000000 in
open_top hd for PySem.Challenge.rw_k14_0011
abbrev Kd {σ : Type} (Led : σ → List (Addr × Obj)) (cst : List (Addr × Obj)) (ps : σ → List (Str × Value)) (R : List (Addr × Obj) → σ → Prop) (x : Str) (stored : List Str) (m₀ : Str → Option Value) (P : Nat → σ → Prop) (adr : List Addr) (i : Nat) : (Str → Option Value) → List (Addr × Obj) → Prop :=
  KdS Led cst ps (fun L9 c => ∃ tl, L9 = cst ++ tl ∧ R tl c) x stored m₀ P adr i
section
variable {prog : Program} {w : World} {A : Around} {E : Value → Shared → Prop} {s : Shared} {env : Env} {h₀ : Heap} {x : Str} {body : List Stmt} {Q : Flow → Shared → Prop}
/-- a loop over a list of the ledger, by an invariant over the turn's number, the letters and what was made -/
theorem iter_l {σ : Type} {l : Addr} {vs : List Value} {nn : Nat} {m₀ : Str → Option Value} {news : List (Addr × Obj)} (Led : σ → List (Addr × Obj)) (cst : List (Addr × Obj)) (ps : σ → List (Str × Value)) (R : List (Addr × Obj) → σ → Prop) (stored : List Str) (P : Nat → σ → Prop) (adr : List Addr) (c₀ : σ)
    (hh : A.handled = none) (hl : (l, W.listOf vs.toArray nn) ∈ cst) (F : Fr h₀ env.locals s.heap m₀) (N : News h₀ env.locals s.heap news) (hn : ∀ p ∈ Led c₀ ++ cst, p ∈ news) (hadr : ∀ c, (Led c ++ cst).map (·.1) = adr) (hf : R [] c₀) (hk : ∀ p ∈ ps c₀, m₀ p.1 = some p.2) (hp : P 0 c₀)
    (turn : ∀ i v (c : σ) tl (u : Str → Option Value) h tk own, vs[i]? = some v → KdSep own tl adr → R tl c → P i c →
      Fr h₀ env.locals h (fun y => if y = x then some v else kstB (fun z => if stored.contains z then u z else m₀ z) (ps c) y) → News h₀ env.locals h (Led c ++ (cst ++ (tl ++ own))) →
      wpAny (model prog w) A (execs body env) (InvPostG h₀ env.locals (Kd Led cst ps R x stored m₀ P adr (i + 1)) own { s with heap := h, toks := tk } Q) E { s with heap := h, toks := tk })
    (done : ∀ (c : σ) tl (u : Str → Option Value) h tk, OwnOff tl adr → R tl c → P vs.length c → Fr h₀ env.locals h (fun y => if y = x then u y else kstB (fun z => if stored.contains z then u z else m₀ z) (ps c) y) → News h₀ env.locals h (Led c ++ (cst ++ tl)) → Q .next { s with heap := h, toks := tk }) :
    wpAny (model prog w) A (pyIter (.ref l)) (fun it s₂ => LoopAtV prog w A h₀ env x body Q E it s₂) E s := by
  refine kdl_iter (news := Led c₀ ++ (cst ++ [])) (fun i m nx => Kd Led cst ps R x stored m₀ P adr i m nx) hh (List.mem_append.mpr (.inr (List.mem_append.mpr (.inl hl)))) F (fun p hp => N p (hn p (by rw [List.append_nil] at hp; exact hp))) ⟨c₀, [], rfl, fun _ hp => (nomatch hp), ⟨[], rfl, hf⟩, hk, fun _ _ _ _ => rfl, hp⟩ ?_ ?_
  · rintro i v m₁ nx h tk own hv hoff _ ⟨c, tl, rfl, ht, ⟨tl', e, hf'⟩, h1, h2, hp'⟩ F₁ N₁
    have e' : tl = tl' := List.append_cancel_left e
    subst e'
    obtain ⟨o1, o2⟩ := kd_split (hadr c) hoff
    rw [List.append_assoc, List.append_assoc] at N₁
    refine wpAny_mono (turn i v c tl m₁ h tk own hv ⟨o1, o2, ht⟩ hf' hp' (kst_fr h1 h2 F₁) N₁) (fun f s₂ p => ?_) fun _ _ x => x
    have up : InvEndG h₀ env.locals (Kd Led cst ps R x stored m₀ P adr (i + 1)) own { s with heap := h, toks := tk } s₂ →
        InvEndG h₀ env.locals (fun m' nx => (l, W.listOf vs.toArray nn) ∈ nx ∧ Kd Led cst ps R x stored m₀ P adr (i + 1) m' nx) own { s with heap := h, toks := tk } s₂ := by
      rintro ⟨h', tk', m', news', nx', e', F', N', hn', ho', ha, hS⟩
      refine ⟨h', tk', m', news', nx', e', F', N', hn', ho', ha, ?_, hS⟩
      obtain ⟨c', tl', rfl, _⟩ := hS
      exact List.mem_append.mpr (.inr (List.mem_append.mpr (.inl hl)))
    cases f with
    | ret v => exact p
    | brk => exact p
    | next => exact up p
    | cont => exact up p
  · rintro m₁ nx h tk ⟨c, tl, rfl, ht, ⟨tl', e, hf'⟩, h1, h2, hp'⟩ F₁ N₁
    have e' : tl = tl' := List.append_cancel_left e
    subst e'
    exact done c tl m₁ h tk ht hf' hp' (kst_frOut h1 h2 F₁) N₁
/-- a turn's end -/
theorem iter_end {σ : Type} {Led : σ → List (Addr × Obj)} {cst : List (Addr × Obj)} {ps : σ → List (Str × Value)} {R : List (Addr × Obj) → σ → Prop} {stored : List Str} {m₀ : Str → Option Value} {P : Nat → σ → Prop} {adr : List Addr} {i : Nat} (c : σ) (add : List (Addr × Obj)) {tl : List (Addr × Obj)} {L : Addr} {m' : Str → Option Value} {own news' : List (Addr × Obj)} {s₁ : Shared} {h' : Heap} {tk : Nat}
    (h0 : KdSep own tl adr) (F : Fr h₀ L h' m') (N : News h₀ L h' news') (hn : ∀ p ∈ Led c ++ (cst ++ (add ++ tl)), p ∈ news') (ho : ∀ p ∈ own, p ∈ news') (hadr : (Led c ++ cst).map (·.1) = adr)
    (hb : OwnOff add adr) (hw : ∀ q ∈ add, ∀ p ∈ own, p.1 ≠ q.1) (hk : ∀ p ∈ ps c, m' p.1 = some p.2) (hr : ∀ z, z ≠ x → (∀ p ∈ ps c, z ≠ p.1) → stored.contains z = false → m' z = m₀ z) (hf : R (add ++ tl) c) (hp : P i c) :
    InvEndG h₀ L (Kd Led cst ps R x stored m₀ P adr i) own s₁ { s₁ with heap := h', toks := tk } :=
  kd_end c add h0 F N hn ho hadr (fun q hq b hb' e => hb q hq b hb' e.symm) hw hk hr ⟨_, rfl, hf⟩ hp
end
section
variable {prog : Program} {w : World} {A : Around} {E : Value → Shared → Prop} {s : Shared} {env : Env} {h₀ : Heap} {x : Str} {body : List Stmt} {Q : Flow → Shared → Prop}
/-- as iter_l; something made stands at the start already -/
theorem iter_t {σ : Type} {l : Addr} {vs : List Value} {nn : Nat} {m₀ : Str → Option Value} {news : List (Addr × Obj)} (Led : σ → List (Addr × Obj)) (cst : List (Addr × Obj)) (ps : σ → List (Str × Value)) (R : List (Addr × Obj) → σ → Prop) (stored : List Str) (P : Nat → σ → Prop) (adr : List Addr) (c₀ : σ) (tl₀ : List (Addr × Obj))
    (hh : A.handled = none) (hl : (l, W.listOf vs.toArray nn) ∈ cst) (F : Fr h₀ env.locals s.heap m₀) (N : News h₀ env.locals s.heap news) (hn : ∀ p ∈ Led c₀ ++ (cst ++ tl₀), p ∈ news) (hadr : ∀ c, (Led c ++ cst).map (·.1) = adr) (hoff : OwnOff tl₀ adr) (hf : R tl₀ c₀) (hk : ∀ p ∈ ps c₀, m₀ p.1 = some p.2) (hp : P 0 c₀)
    (turn : ∀ i v (c : σ) tl (u : Str → Option Value) h tk own, vs[i]? = some v → KdSep own tl adr → R tl c → P i c →
      Fr h₀ env.locals h (fun y => if y = x then some v else kstB (fun z => if stored.contains z then u z else m₀ z) (ps c) y) → News h₀ env.locals h (Led c ++ (cst ++ (tl ++ own))) →
      wpAny (model prog w) A (execs body env) (InvPostG h₀ env.locals (Kd Led cst ps R x stored m₀ P adr (i + 1)) own { s with heap := h, toks := tk } Q) E { s with heap := h, toks := tk })
    (done : ∀ (c : σ) tl (u : Str → Option Value) h tk, OwnOff tl adr → R tl c → P vs.length c → Fr h₀ env.locals h (fun y => if y = x then u y else kstB (fun z => if stored.contains z then u z else m₀ z) (ps c) y) → News h₀ env.locals h (Led c ++ (cst ++ tl)) → Q .next { s with heap := h, toks := tk }) :
    wpAny (model prog w) A (pyIter (.ref l)) (fun it s₂ => LoopAtV prog w A h₀ env x body Q E it s₂) E s := by
  refine kdl_iter (news := Led c₀ ++ (cst ++ tl₀)) (fun i m nx => Kd Led cst ps R x stored m₀ P adr i m nx) hh (List.mem_append.mpr (.inr (List.mem_append.mpr (.inl hl)))) F (fun p hp => N p (hn p hp)) ⟨c₀, tl₀, rfl, hoff, ⟨tl₀, rfl, hf⟩, hk, fun _ _ _ _ => rfl, hp⟩ ?_ ?_
  · rintro i v m₁ nx h tk own hv hoff _ ⟨c, tl, rfl, ht, ⟨tl', e, hf'⟩, h1, h2, hp'⟩ F₁ N₁
    have e' : tl = tl' := List.append_cancel_left e
    subst e'
    obtain ⟨o1, o2⟩ := kd_split (hadr c) hoff
    rw [List.append_assoc, List.append_assoc] at N₁
    refine wpAny_mono (turn i v c tl m₁ h tk own hv ⟨o1, o2, ht⟩ hf' hp' (kst_fr h1 h2 F₁) N₁) (fun f s₂ p => ?_) fun _ _ x => x
    have up : InvEndG h₀ env.locals (Kd Led cst ps R x stored m₀ P adr (i + 1)) own { s with heap := h, toks := tk } s₂ →
        InvEndG h₀ env.locals (fun m' nx => (l, W.listOf vs.toArray nn) ∈ nx ∧ Kd Led cst ps R x stored m₀ P adr (i + 1) m' nx) own { s with heap := h, toks := tk } s₂ := by
      rintro ⟨h', tk', m', news', nx', e', F', N', hn', ho', ha, hS⟩
      refine ⟨h', tk', m', news', nx', e', F', N', hn', ho', ha, ?_, hS⟩
      obtain ⟨c', tl', rfl, _⟩ := hS
      exact List.mem_append.mpr (.inr (List.mem_append.mpr (.inl hl)))
    cases f with
    | ret v => exact p
    | brk => exact p
    | next => exact up p
    | cont => exact up p
  · rintro m₁ nx h tk ⟨c, tl, rfl, ht, ⟨tl', e, hf'⟩, h1, h2, hp'⟩ F₁ N₁
    have e' : tl = tl' := List.append_cancel_left e
    subst e'
    exact done c tl m₁ h tk ht hf' hp' (kst_frOut h1 h2 F₁) N₁
end
section
variable {prog : Program} {w : World} {A : Around} {E : Value → Shared → Prop} {s : Shared} {env : Env} {h₀ : Heap} {x : Str} {body : List Stmt} {Q : Flow → Shared → Prop}
/-- as iter_l, over range(n) -/
theorem iter_r {σ : Type} {r : Addr} {b₀ : Int} {t₀ u₀ v₀ : Tok} {m₀ : Str → Option Value} {news : List (Addr × Obj)} (n : Nat) (Led : σ → List (Addr × Obj)) (cst : List (Addr × Obj)) (ps : σ → List (Str × Value)) (R : List (Addr × Obj) → σ → Prop) (stored : List Str) (P : Nat → σ → Prop) (adr : List Addr) (c₀ : σ)
    (hh : A.handled = none) (hr : IsRange s.heap r 0 b₀ 1 t₀ u₀ v₀) (hsmall : Builtin.Range.small 0 b₀ 1 = true) (hsz : Builtin.Range.rangeSize 0 b₀ 1 = (n : Int)) (F : Fr h₀ env.locals s.heap m₀) (N : News h₀ env.locals s.heap news) (hn : ∀ p ∈ Led c₀ ++ cst, p ∈ news) (hadr : ∀ c, (Led c ++ cst).map (·.1) = adr) (hf : R [] c₀) (hk : ∀ p ∈ ps c₀, m₀ p.1 = some p.2) (hp : P 0 c₀)
    (turn : ∀ i t (c : σ) tl (u : Str → Option Value) h tk own, i < n → KdSep own tl adr → R tl c → P i c →
      Fr h₀ env.locals h (fun y => if y = x then some (.int (i : Int) t) else kstB (fun z => if stored.contains z then u z else m₀ z) (ps c) y) → News h₀ env.locals h (Led c ++ (cst ++ (tl ++ own))) →
      wpAny (model prog w) A (execs body env) (InvPostG h₀ env.locals (Kd Led cst ps R x stored m₀ P adr (i + 1)) own { s with heap := h, toks := tk } Q) E { s with heap := h, toks := tk })
    (done : ∀ (c : σ) tl (u : Str → Option Value) h tk, OwnOff tl adr → R tl c → P n c → Fr h₀ env.locals h (fun y => if y = x then u y else kstB (fun z => if stored.contains z then u z else m₀ z) (ps c) y) → News h₀ env.locals h (Led c ++ (cst ++ tl)) → Q .next { s with heap := h, toks := tk }) :
    wpAny (model prog w) A (pyIter (.ref r)) (fun it s₂ => LoopAtV prog w A h₀ env x body Q E it s₂) E s := by
  refine kd_range (n := n) Led cst ps (fun L9 c => ∃ tl, L9 = cst ++ tl ∧ R tl c) stored (fun pre c => P pre.length c) adr c₀ hh hr hsmall hsz F N (fun p hp => hn p (by rw [List.append_nil] at hp; exact hp)) hadr ⟨[], rfl, hf⟩ hk hp ?_ ?_
  · rintro c tl pre k t u h tk own hk' hpre hsep _ ⟨tl', e, hf'⟩ hp' F₁ N₁
    have e' : tl = tl' := List.append_cancel_left e
    subst e'
    have ek : k = (pre.length : Int) := by omega
    subst ek
    have q := turn pre.length t c tl u h tk own hpre hsep hf' hp' F₁ N₁
    have ej : KdS Led cst ps (fun L9 c => ∃ tl, L9 = cst ++ tl ∧ R tl c) x stored m₀ (fun (pre : List Int) c => P pre.length c) adr (pre ++ [(pre.length : Int)]) = Kd Led cst ps R x stored m₀ P adr (pre.length + 1) := by
      funext m nx
      unfold Kd KdS
      dsimp only
      rw [List.length_append, List.length_singleton]
    rw [ej]
    exact q
  · rintro c tl u h tk hoff ⟨tl', e, hf'⟩ hp' F₁ N₁
    have e' : tl = tl' := List.append_cancel_left e
    subst e'
    rw [rangeKs_length] at hp'
    exact done c tl u h tk hoff hf' hp' F₁ N₁
end
section
variable {prog : Program} {w : World} {A : Around} {E : Value → Shared → Prop} {s : Shared} {h₀ : Heap} {L : Addr} {news n₁ n₂ : List (Addr × Obj)} {Q : Value → Shared → Prop}
theorem item_led {value slice : PySem.Expr} {l : Addr} {vs : List Value} {n i : Nat} {u : Tok} {v : Value} (N : News h₀ L s.heap news) (hm : (l, W.listOf vs.toArray n) ∈ news) (hi : vs[i]? = some v) (hfit : i < 1000) (h : Q v s)
    (hs : subscripted slice false (.ref l) (.int (i : Int) u) = operate [.ref l, .int (i : Int) u] (getItem (.ref l) (.int (i : Int) u))) :
    wpAny (model prog w) A (subscriptTail value slice (.ref l) (.int (i : Int) u)) Q E s := by
  have hl : s.heap.IsList l vs.toArray := ⟨_, (N _ hm).1, rfl, n, rfl⟩
  exact tail_any hl.typeIs slot_list_getitem.lookup (wpAny_getItem_list hl (by omega) (by omega) (by simpa using hi) h) hs
theorem len_led {l : Addr} {us : List Value} {n : Nat} (N : News h₀ L s.heap news) (hm : (l, W.listOf us.toArray n) ∈ news) (hz : us.length ≤ 1000) (h : Q (.int (us.length : Int) (s.toks + 1)) { s with toks := s.toks + 1 + 1 }) : wpAny (model prog w) A (call (.builtin "len") [.ref l]) Q E s := by
  have hl : s.heap.IsList l us.toArray := ⟨_, (N _ hm).1, rfl, n, rfl⟩
  have e : us.toArray.size = us.length := List.size_toArray
  exact len_list hl (by rw [e]; omega) (by rw [e]; exact h)
open Classical in
theorem ne_same {a b : Addr} {xs ys : List Value} {ka kb : Nat} {ds : List Dat} (N : News h₀ L s.heap news) (ma : (a, W.listOf xs.toArray ka) ∈ news) (Da : DatAll n₁ xs ds) (sa : ∀ p ∈ n₁, p ∈ news) (mb : (b, W.listOf ys.toArray kb) ∈ news) (Db : DatAll n₂ ys ds) (sb : ∀ p ∈ n₂, p ∈ news)
    (ha : ∀ d ∈ ds, kqdOk 8 d = true) (hu : A.units + 64 < cLine) (h : Q (.bool false) s) : wpAny (model prog w) A (compareOp .NotEq (.ref a) (.ref b)) Q E s := by
  refine kqd_ne N ma rfl rfl Da sa mb rfl rfl Db sb ha ha hu ?_
  rw [decide_eq_true (rfl : ds = ds)]
  exact h
end
def encP (p : Int × Int) : Dat := .tuple [.int p.1, .int p.2]
def putStep (key value : Int) (s : List (Int × Int) × Bool) (p : Int × Int) : List (Int × Int) × Bool :=
  if p.1 = key then s else if s.2 = false ∧ key < p.1 then (s.1 ++ [(key, value)] ++ [p], true) else (s.1 ++ [p], s.2)
def putFin (key value : Int) (s : List (Int × Int) × Bool) : List (Int × Int) := if s.2 = true then s.1 else s.1 ++ [(key, value)]
def putL (ps : List (Int × Int)) (key value : Int) : List (Int × Int) := putFin key value (ps.foldl (putStep key value) ([], false))
theorem datP {news : List (Addr × Obj)} {v : Value} {p : Int × Int} (h : DatIn news v (encP p)) : ∃ (a : Addr) (t1 t2 : Tok) (n : Nat), v = .ref a ∧ (a, ({ cls := .type "tuple", data := .seq [Value.int p.1 t1, Value.int p.2 t2].toArray n } : Obj)) ∈ news := by
  unfold encP at h
  cases h with
  | tuple hm r =>
    cases r with
    | cons h1 r =>
      cases r with
      | cons h2 r =>
        cases r
        cases h1
        cases h2
        exact ⟨_, _, _, _, rfl, hm⟩
theorem lt_ne : ∀ {l : List (Addr × Obj)} {d : Addr}, AllLt d l → ∀ p ∈ l, p.1 ≠ d := fun h p hp => Nat.ne_of_lt (ktn_ltOf h p hp)
theorem putStep_len (key value : Int) : ∀ (ps : List (Int × Int)) (s : List (Int × Int) × Bool), ((ps.foldl (putStep key value) s).1.length + if (ps.foldl (putStep key value) s).2 = true then 0 else 1) ≤ s.1.length + ps.length + if s.2 = true then 0 else 1
  | [], s => by simp only [List.foldl_nil, List.length_nil, Nat.add_zero]; exact Nat.le_refl _
  | p :: ps, s => by
    rw [List.foldl_cons]
    refine Nat.le_trans (putStep_len key value ps _) ?_
    unfold putStep
    obtain ⟨l, b⟩ := s
    by_cases h : p.1 = key
    · simp [h] <;> omega
    · cases b <;> by_cases h2 : key < p.1 <;> simp [h, h2] <;> omega
section
variable {news tl own : List (Addr × Obj)} {q t : Addr × Obj} {O D : Addr} {o : Obj}
theorem in0 : ∀ p ∈ [q] ++ (news ++ ([] ++ tl)), p ∈ q :: (news ++ (tl ++ own)) := fun p hp => by
  simp only [List.nil_append, List.cons_append, List.mem_cons, List.mem_append] at hp ⊢
  rcases hp with h | h | h <;> simp [h]
theorem io0 : ∀ p ∈ own, p ∈ q :: (news ++ (tl ++ own)) := fun p hp => by simp [hp]
theorem in1 : ∀ p ∈ [q] ++ (news ++ ([t] ++ tl)), p ∈ t :: q :: (news ++ (tl ++ own)) := fun p hp => by
  simp only [List.nil_append, List.cons_append, List.mem_cons, List.mem_append] at hp ⊢
  rcases hp with h | h | h | h <;> simp [h]
theorem io1 : ∀ p ∈ own, p ∈ t :: q :: (news ++ (tl ++ own)) := fun p hp => by simp [hp]
theorem off_new (h : O < D ∧ AllLt D (news ++ (tl ++ own))) : OwnOff [(D, o)] (O :: List.map Prod.fst news) := fun p hp b hb => by
  rw [List.mem_singleton.mp hp]
  rcases List.mem_cons.mp hb with rfl | hb
  · exact Nat.ne_of_gt h.1
  · obtain ⟨r, hr, rfl⟩ := List.mem_map.mp hb
    exact fun x => lt_ne h.2 r (List.mem_append.mpr (.inl hr)) x.symm
theorem own_new (h : O < D ∧ AllLt D (news ++ (tl ++ own))) : ∀ q ∈ [(D, o)], ∀ p ∈ own, p.1 ≠ q.1 := fun q hq p hp => by
  rw [List.mem_singleton.mp hq]
  exact lt_ne h.2 p (List.mem_append.mpr (.inr (List.mem_append.mpr (.inr hp))))
section
variable {n₀ : List (Addr × Obj)} {ovs : List Value} {st : List (Int × Int)} {a : Addr} {x y key value : Int} {t1 t2 : Tok} {k : Nat}
theorem d_ins (hR : DatAll (n₀ ++ tl) ovs (List.map encP st)) (hD : DatIn n₀ (Value.ref a) (encP (x, y))) : DatAll (n₀ ++ ([(D, ({ cls := .type "tuple", data := .seq [Value.int key t1, Value.int value t2].toArray k } : Obj))] ++ tl)) (ovs ++ [Value.ref D] ++ [Value.ref a]) (List.map encP (st ++ [(key, value)] ++ [(x, y)])) := by
  rw [List.map_append, List.map_append]
  refine DatAll.append (DatAll.append (hR.mono fun p hp => ?_) (DatAll.one (.tuple (List.mem_append.mpr (.inr (.head _))) (.cons (.int _ _) (.cons (.int _ _) .nil))))) (DatAll.one (hD.mono fun _ h => List.mem_append.mpr (.inl h)))
  rcases List.mem_append.mp hp with hp | hp
  · exact List.mem_append.mpr (.inl hp)
  · exact List.mem_append.mpr (.inr (.tail _ hp))
end
section
variable {h₀ h' : Heap} {L : Addr} {m : Str → Option Value} {n₀ : List (Addr × Obj)} {ovs : List Value} {on tk' : Nat} {ps st : List (Int × Int)} {key value : Int} {s : Shared} {Q : Value → Shared → Prop} {b : Bool}
theorem put_fin1 (hret : ∀ r tl h' tk', Fr h₀ L h' m → News h₀ L h' (news ++ tl) → OwnOff tl (List.map Prod.fst news) → DatIn (n₀ ++ tl) r (.list (List.map encP (putL ps key value))) → Q r { s with heap := h', toks := tk' })
    (hO : AllLt O news) (hoff : OwnOff tl (O :: List.map Prod.fst news)) (hR : DatAll (n₀ ++ tl) ovs (List.map encP st)) (hP : (st, b) = ps.foldl (putStep key value) ([], false)) (hb : b = true) (F : Fr h₀ L h' m) (N : News h₀ L h' ((O, W.listOf ovs.toArray on) :: (news ++ tl))) : Q (.ref O) { s with heap := h', toks := tk' } := by
  have e2 : putL ps key value = st := by unfold putL putFin; rw [← hP, hb]; rfl
  refine hret _ ((O, W.listOf ovs.toArray on) :: tl) _ _ F (fun p hp => N p ?_) (fun p hp c hc => ?_) (.list (n := on) (vs := ovs) (List.mem_append.mpr (.inr (.head _))) ?_)
  · rcases List.mem_append.mp hp with hp | hp
    · exact .tail _ (List.mem_append.mpr (.inl hp))
    · rcases List.mem_cons.mp hp with rfl | hp
      · exact .head _
      · exact .tail _ (List.mem_append.mpr (.inr hp))
  · rcases List.mem_cons.mp hp with rfl | hp
    · obtain ⟨q, hq, rfl⟩ := List.mem_map.mp hc
      exact fun x => lt_ne hO q hq x.symm
    · exact hoff p hp c (.tail _ hc)
  · rw [e2]
    refine hR.mono fun p hp => ?_
    rcases List.mem_append.mp hp with hp | hp
    · exact List.mem_append.mpr (.inl hp)
    · exact List.mem_append.mpr (.inr (.tail _ hp))
theorem put_fin2 (hret : ∀ r tl h' tk', Fr h₀ L h' m → News h₀ L h' (news ++ tl) → OwnOff tl (List.map Prod.fst news) → DatIn (n₀ ++ tl) r (.list (List.map encP (putL ps key value))) → Q r { s with heap := h', toks := tk' })
    {t1 t2 : Tok} {k : Nat} (hO : AllLt O news) (hlt : O < D ∧ AllLt D (news ++ tl)) (hoff : OwnOff tl (O :: List.map Prod.fst news)) (hR : DatAll (n₀ ++ tl) ovs (List.map encP st)) (hP : (st, b) = ps.foldl (putStep key value) ([], false)) (hb : b = false) (F : Fr h₀ L h' m)
    (N : News h₀ L h' ((D, ({ cls := .type "tuple", data := .seq [Value.int key t1, Value.int value t2].toArray k } : Obj)) :: (O, W.listOf (ovs.toArray.push (.ref D)) on) :: (news ++ tl))) : Q (.ref O) { s with heap := h', toks := tk' } := by
  have e2 : putL ps key value = st ++ [(key, value)] := by unfold putL putFin; rw [← hP, hb]; rfl
  rw [show ovs.toArray.push (Value.ref D) = (ovs ++ [Value.ref D]).toArray by simp] at N
  refine hret _ ((D, ({ cls := .type "tuple", data := .seq [Value.int key t1, Value.int value t2].toArray k } : Obj)) :: (O, W.listOf (ovs ++ [Value.ref D]).toArray on) :: tl) _ _ F (fun p hp => N p ?_) (fun p hp c hc => ?_) (.list (n := on) (vs := ovs ++ [.ref D]) (List.mem_append.mpr (.inr (.tail _ (.head _)))) ?_)
  · rcases List.mem_append.mp hp with hp | hp
    · exact .tail _ (.tail _ (List.mem_append.mpr (.inl hp)))
    · rcases List.mem_cons.mp hp with rfl | hp
      · exact .head _
      · rcases List.mem_cons.mp hp with rfl | hp
        · exact .tail _ (.head _)
        · exact .tail _ (.tail _ (List.mem_append.mpr (.inr hp)))
  · rcases List.mem_cons.mp hp with rfl | hp
    · obtain ⟨q, hq, rfl⟩ := List.mem_map.mp hc
      exact fun x => lt_ne hlt.2 q (List.mem_append.mpr (.inl hq)) x.symm
    · rcases List.mem_cons.mp hp with rfl | hp
      · obtain ⟨q, hq, rfl⟩ := List.mem_map.mp hc
        exact fun x => lt_ne hO q hq x.symm
      · exact hoff p hp c (.tail _ hc)
  · rw [e2, List.map_append]
    refine DatAll.append (hR.mono fun p hp => ?_) (DatAll.one (.tuple (List.mem_append.mpr (.inr (.head _))) (.cons (.int _ _) (.cons (.int _ _) .nil))))
    rcases List.mem_append.mp hp with hp | hp
    · exact List.mem_append.mpr (.inl hp)
    · exact List.mem_append.mpr (.inr (.tail _ (.tail _ hp)))
end
end
def PutTells (prog : Program) (w : World) (K : Frag) (p : Program) (loose : List Str) (mean : ExcName → Option Value) (mg mb : Str → Option Value) (f : Addr) : Prop :=
  ∀ (dp un : Nat) (gd : Option (List Code)) (cn : Str) (cs : Scope) (a : Addr) (ccd : Value) (cl : List (Str × Addr)) (outer : List Env) (A₀ : Around) (base h₀ : Heap) (L : Addr) (m : Str → Option Value) (news n₀ : List (Addr × Obj)) (s : Shared) (v : Value) (ps : List (Int × Int))
    (key value : Int) (t1 t2 : Tok) (Q E : Value → Shared → Prop),
    Below A₀ base outer h₀ → Fr h₀ L s.heap m → K.In h₀ → News h₀ L s.heap news → Top p loose mean mg mb h₀ → cs.kind = .function → DatIn n₀ v (.list (List.map encP ps)) → (∀ p ∈ n₀, p ∈ news) → ps.length ≤ 1000 → dp + 2 < recursionLimit → un + 16 < cLine →
    (∀ r tl h' tk', Fr h₀ L h' m → News h₀ L h' (news ++ tl) → OwnOff tl (List.map Prod.fst news) → DatIn (n₀ ++ tl) r (.list (List.map encP (putL ps key value))) → Q r { s with heap := h', toks := tk' }) →
    wpAny (model prog w) (ktrTop dp un gd cn cs L a ccd cl outer) (call (.ref f) [v, .int key t1, .int value t2]) Q E s
set_option maxRecDepth 100000 in
set_option maxHeartbeats 4000000 in
theorem put_tells (w : World) (mean : ExcName → Option Value) (mg mb : Str → Option Value) : PutTells PySem.Challenge.rw_k14_0011.row.prog w (Mine.hd.heap_39 w.params) Mine.hd.view_39 (looseW Mine.hd.view_39 []) mean mg mb 21 := by
  w_top off
  k_fill
  k_with_none
  unfold PutTells
  intro dp un gd cn cs a ccd cl outer A₀ base h₀ L m news n₀ s v ps key value t1 t2 Q E B F X N T hk hv hsub hlen hd hu hret
  cases hv with
  | list hl hD =>
  rename_i l us n
  have hul := hD.length
  rw [List.length_map] at hul
  have kMk := kdMark
  have kMk2 := kstMark
  k_with "pyIter ref" => fail "none"
  refine wpAny_call ?_
  k_dflt cell_enter
  iterate 15 (first | walk1 | (dsimp only; walk1))
  rename_i g1 L1 h1 FG1 B1 X1 T1 O h2 lO h3 h4 F4 N4
  have lA := allLt_of lO
  refine iter_l (σ := (List Value × Nat) × (List (Int × Int) × Bool)) (vs := us) (nn := n) (fun c => [(O, W.listOf c.1.1.toArray c.1.2)]) news (fun c => [(Str.ofString "placed", Value.bool c.2.2)]) (fun tl c => DatAll (n₀ ++ tl) c.1.1 (List.map encP c.2.1)) [] (fun i c => c.2 = (ps.take i).foldl (putStep key value) ([], false)) (O :: List.map Prod.fst news) (([], 0), ([], false)) (by rfl) (hsub _ hl) F4 N4 (fun _ h => h) (fun _ => rfl) DatAll.nil (by kst_all) rfl ?_ ?_
  · intro i v c tl u h tk own hv hsep hR hP F5 N5
    obtain ⟨⟨ovs, on⟩, st, b⟩ := c
    dsimp only at hR hP N5 F5
    dsimp only [kstB] at F5
    simp only [List.cons_append, List.nil_append] at N5
    have hi : i < ps.length := by
      have := (List.getElem?_eq_some_iff.mp hv).1
      omega
    obtain ⟨v', hv', hDi⟩ := hD.get (k := i) (by rw [List.length_map]; exact hi)
    have ev : v' = v := by rw [hv] at hv'; exact (Option.some.inj hv').symm
    subst ev
    rw [List.getElem_map] at hDi
    have hstep : (ps.take (i + 1)).foldl (putStep key value) ([], false) = putStep key value (st, b) ps[i] := by
      rw [List.take_add_one, List.getElem?_eq_getElem hi, List.foldl_append, ← hP]; rfl
    have hol : ovs.length ≤ 2000 := by
      have h1 := hR.length
      have h2 := putStep_len key value (ps.take i) ([], false)
      rw [← hP] at h2
      rw [List.length_map] at h1
      rw [List.length_take] at h2
      simp only [List.length_nil] at h2
      split at h2 <;> simp at h2 <;> omega
    generalize ps[i] = p at hDi hstep
    obtain ⟨x, y⟩ := p
    obtain ⟨a9, s1, s2, nn, rfl, hm⟩ := datP hDi
    dsimp only at hm
    have hm' := hsub _ hm
    have kO4 := kd_off hsep.one hsep.three
    have hD1 : DatAll (n₀ ++ tl) (ovs ++ [Value.ref a9]) (List.map encP (st ++ [(x, y)])) := by
      rw [List.map_append]
      exact DatAll.append hR (DatAll.one (hDi.mono fun _ h => List.mem_append.mpr (.inl h)))
    (try k_fold)
    k_steps
    all_goals ((rename News _ _ _ _ => nE); (try simp only [List.push_toArray] at nE))
    · exact iter_end ((ovs, on), (st, b)) [] hsep (by k_asm) nE in0 io0 rfl (fun _ h => nomatch h) (fun _ h => nomatch h) (by kst_all) (by kst_same) hR (by rw [hstep]; simp [putStep, *])
    · exact iter_end ((ovs ++ [Value.ref a9], on + 1), (st ++ [(x, y)], b)) [] hsep (by k_asm) nE in0 io0 rfl (fun _ h => nomatch h) (fun _ h => nomatch h) (by kst_all) (by kst_same) hD1 (by rw [hstep]; simp [putStep, *])
    · refine iter_end ((_, on + 1 + 1), (st ++ [(key, value)] ++ [(x, y)], true)) [_] hsep (by k_asm) nE in1 io1 rfl (off_new (by assumption)) (own_new (by assumption)) (by kst_all) (by kst_same) (d_ins hR hDi) (by rw [hstep]; simp [putStep, *])
    · exact iter_end ((ovs ++ [Value.ref a9], on + 1), (st ++ [(x, y)], b)) [] hsep (by k_asm) nE in0 io0 rfl (fun _ h => nomatch h) (fun _ h => nomatch h) (by kst_all) (by kst_same) hD1 (by rw [hstep]; simp [putStep, *])
  · intro c tl u h tk hoff hR hP F5 N5
    obtain ⟨⟨ovs, on⟩, st, b⟩ := c
    dsimp only at hR hP N5 F5
    dsimp only [kstB] at F5
    simp only [List.cons_append, List.nil_append] at N5
    rw [List.take_of_length_le (by omega)] at hP
    have hol : ovs.length ≤ 2000 := by
      have h1 := hR.length
      have h2 := putStep_len key value ps ([], false)
      rw [← hP] at h2
      rw [List.length_map] at h1
      simp only [List.length_nil] at h2
      split at h2 <;> simp at h2 <;> omega
    (try k_fold)
    k_steps
    · exact put_fin1 hret lA hoff hR hP (by assumption) (by k_asm) (by k_asm)
    · exact put_fin2 hret lA (by assumption) hoff hR hP (by assumption) (by k_asm) (by k_asm)
theorem drop2 {h₀ h : Heap} {L : Addr} {l : List (Addr × Obj)} {q p : Addr × Obj} (N : News h₀ L h (q :: p :: l)) : News h₀ L h (q :: l) := fun x hx => N x ((List.mem_cons.mp hx).elim (fun e => e ▸ List.mem_cons_self) fun h => List.mem_cons_of_mem _ (List.mem_cons_of_mem _ h))
theorem off1_mem {D : Addr} : ∀ {l : List (Addr × Obj)}, LCg.Off1 D l → ∀ p ∈ l, p.1 ≠ D
  | [], _, _, h => nomatch h
  | _ :: _, x, p, h => by
    rcases List.mem_cons.mp h with rfl | h
    · exact x.1
    · exact off1_mem x.2 p h
section
variable {prog : Program} {w : World} {A : Around} {h₀ : Heap} {L : Addr} {m : Str → Option Value} {env : Env} {ct elt : Expr} {x : Str} {scope : Scope} {cl : List (Str × Addr)} {s : Shared} {S : List (Addr × Obj) → Prop} {Fin : List Value → List (Addr × Obj) → Prop} {news : List (Addr × Obj)}
theorem cd_rest {n₀ : List (Addr × Obj)} {us : List Value} {ps : List (Int × Int)} {key : Int} (hd : DatAll n₀ us (List.map encP ps)) (hsub : ∀ p ∈ n₀, p ∈ news)
    (turn : ∀ (a : Addr) (k v : Int) (t1 t2 : Tok) (nn : Nat) I oI C oC D m₂ ys h tk (E' : Value → Shared → Prop), (a, ({ cls := .type "tuple", data := .seq [Value.int k t1, Value.int v t2].toArray nn } : Obj)) ∈ news → LCg.NsObj oC m₂ → m₂ x = some (.ref a) → Fr h₀ L h m → News h₀ L h ((I, oI) :: (C, oC) :: (D, LCg.lst ys) :: news) → LCg.Off3 I C D news → ((@Ne Nat I C) ∧ (@Ne Nat I D) ∧ (@Ne Nat C D)) →
      wpAny (model prog w) A (isTrue ct (compEnvC scope cl C env) (eval ct (compEnvC scope cl C env))) (fun b s' => if b = true then wpAny (model prog w) A (eval elt (compEnvC scope cl C env)) (LCg.CompEnd h₀ L m { s with heap := h, toks := tk } I oI C oC D (LCg.lst ys) S (fun y news' => news' = news ∧ y = .ref a ∧ k ≠ key)) E' s'
        else LCg.CompEnd h₀ L m { s with heap := h, toks := tk } I oI C oC D (LCg.lst ys) S (fun _ news' => news' = news ∧ k = key) Value.none s') E' { s with heap := h, toks := tk })
    (fin : ∀ ys, DatAll n₀ ys (List.map encP (ps.filter fun p => !decide (p.1 = key))) → ys.length ≤ us.length → Fin ys news) :
    LCt.CompRestT prog w A h₀ L m env ct elt x scope cl s S (fun i v => us.toArray[i]? = some v) Fin us.toArray.size 0 [] news := by
  have hlen : us.length = ps.length := by rw [hd.length, List.length_map]
  have step : ∀ (j i : Nat) (ys : List Value), i + j = us.length → ys.length ≤ i → DatAll n₀ ys (List.map encP ((ps.take i).filter fun p => !decide (p.1 = key))) → LCt.CompRestT prog w A h₀ L m env ct elt x scope cl s S (fun i v => us.toArray[i]? = some v) Fin j i ys news := by
    intro j
    induction j with
    | zero =>
      intro i ys hi hyl hy
      have e : i = ps.length := by omega
      subst e
      rw [List.take_length] at hy
      exact LCt.CompRestT.zero (fin ys hy (by omega))
    | succ j ih =>
      intro i ys hi hyl hy
      refine LCt.CompRestT.succ ?_
      intro v I oI C oC D m₂ h tk E' hv hC hx F N off ne
      have hiL : i < ps.length := by omega
      obtain ⟨v', hv', hD⟩ := hd.get (k := i) (by rw [List.length_map]; exact hiL)
      have ev : v' = v := by
        have : us[i]? = some v := by simpa using hv
        rw [this] at hv'; exact (Option.some.inj hv').symm
      subst ev
      rw [List.getElem_map] at hD
      obtain ⟨a, t1, t2, nn, rfl, hm⟩ := datP hD
      have hs : (ps.take (i + 1)) = ps.take i ++ [ps[i]] := by rw [List.take_add_one, List.getElem?_eq_getElem hiL]; rfl
      refine wpAny_mono (turn a _ _ t1 t2 nn I oI C oC D m₂ ys h tk E' (hsub _ hm) hC hx F N off ne) (fun b s₂ hq => ?_) fun _ _ e => e
      cases b with
      | true =>
        simp only [if_true] at hq ⊢
        refine wpAny_mono hq (fun y s₃ hr => ?_) fun _ _ e => e
        obtain ⟨h', tk', nw, e, F', N', off', hS, hn, hy', hk⟩ := hr
        rw [hn] at N' off' hS
        refine ⟨h', tk', news, e, F', N', off', hS, ?_⟩
        rw [hy']
        refine ih (i + 1) _ (by omega) (by rw [List.length_append]; simp only [List.length_cons, List.length_nil]; omega) ?_
        rw [hs, List.filter_append, List.map_append]
        refine DatAll.append hy ?_
        have : (List.filter (fun p => !decide (p.1 = key)) [ps[i]]) = [ps[i]] := by simp [hk]
        rw [this]
        exact DatAll.one hD
      | false =>
        simp only [Bool.false_eq_true, if_false] at hq ⊢
        obtain ⟨h', tk', nw, e, F', N', off', hS, hn, hk⟩ := hq
        rw [hn] at N' off' hS
        refine ⟨h', tk', news, e, F', N', off', hS, ih (i + 1) _ (by omega) (by omega) ?_⟩
        rw [hs, List.filter_append, List.map_append]
        have : (List.filter (fun p => !decide (p.1 = key)) [ps[i]]) = [] := by simp [hk]
        rw [this]
        simpa using hy
  have := step us.length 0 [] (by omega) (Nat.le_refl _) (by simpa using DatAll.nil)
  rw [List.size_toArray]
  exact this
end
def DelTells (prog : Program) (w : World) (K : Frag) (p : Program) (loose : List Str) (mean : ExcName → Option Value) (mg mb : Str → Option Value) (f : Addr) : Prop :=
  ∀ (dp un : Nat) (gd : Option (List Code)) (cn : Str) (cs : Scope) (a : Addr) (ccd : Value) (cl : List (Str × Addr)) (outer : List Env) (A₀ : Around) (base h₀ : Heap) (L : Addr) (m : Str → Option Value) (news : List (Addr × Obj)) (s : Shared) (l : Addr) (us : List Value) (n : Nat) (ps : List (Int × Int)) (n₀ : List (Addr × Obj))
    (key : Int) (t1 : Tok) (Q E : Value → Shared → Prop),
    Below A₀ base outer h₀ → Fr h₀ L s.heap m → K.In h₀ → News h₀ L s.heap news → Top p loose mean mg mb h₀ → cs.kind = .function → (l, W.listOf (List.toArray us) n) ∈ news → DatAll n₀ us (List.map encP ps) → (∀ p ∈ n₀, p ∈ news) → ps.length ≤ 1000 → dp + 2 < recursionLimit → un + 16 < cLine →
    (∀ r us' n' h' tk', Fr h₀ L h' m → News h₀ L h' ((r, W.listOf (List.toArray us') n') :: news) → LCg.Off1 r news → DatAll n₀ us' (List.map encP (ps.filter fun p => !decide (p.1 = key))) → Q (.ref r) { s with heap := h', toks := tk' }) →
    wpAny (model prog w) (ktrTop dp un gd cn cs L a ccd cl outer) (call (.ref f) [.ref l, .int key t1]) Q E s
set_option maxRecDepth 100000 in
set_option maxHeartbeats 4000000 in
theorem del_tells (w : World) (mean : ExcName → Option Value) (mg mb : Str → Option Value) : DelTells PySem.Challenge.rw_k14_0011.row.prog w (Mine.hd.heap_39 w.params) Mine.hd.view_39 (looseW Mine.hd.view_39 []) mean mg mb 26 := by
  w_top off
  k_fill
  k_with_none
  unfold DelTells
  intro dp un gd cn cs a ccd cl outer A₀ base h₀ L m news s l us n ps n₀ key t1 Q E B F X N T hk hl hD hsub hlen hd hu hret
  refine wpAny_call ?_
  k_dflt (refine' code_defC ?k1 ?k2 ?k3 ?k4 ?k5 ?kA ?kF ?kK ?k6 ?k7 ?k8 ?k9 ?kB ?kD ?_ ?c2 ?c3 ?c4; (case kA => exact rfl); (case kF => exact rfl); (case kK => assumption); (case k1 => k_asm); (case k2 => k_asm); (case k3 => k_asm); (case k4 => k_asm); (case k5 => k_asm); (case k6 => k_is); (case k7 => k_is); (case k8 => ktr_room); (case k9 => exact BindsTo.of_eq rfl); (case kB => exact rfl); (case kD => decide +kernel); (case c2 => exact rfl); (case c3 => exact rfl); (case c4 => exact rfl); k_whole)
  intro g' L' h' tk' cells' FG' F' N' Y' B' X' T' l1
  (try k_lt l1)
  k_cells Y'
  (try simp only [List.cons_append, List.nil_append] at N')
  (try dsimp only)
  (try k_lift B')
  (try k_fold)
  walk1
  walk1
  k_dflt (refine LCt.ListComp_T (F₀ := by k_asm) (by with_unfolding_all rfl) (by decide) (by rfl) (by decide) (by rfl) ?_)
  walk1
  k_dflt (refine LCt.CompSrcT.ledger (by rfl) (by k_asm) (by k_asm) (List.mem_cons_of_mem _ hl) (by rw [List.size_toArray, hD.length, List.length_map, PySem.sizeLine_eq]; omega) ?_)
  intro g9
  refine cd_rest (key := key) hD (fun p h => List.mem_cons_of_mem _ (hsub p h)) ?_ ?_
  · intro a k v t1' t2' nn I oI C oC D m₂ ys h9 tk9 E' hmem hC hx F9 N9 off ne
    have kMark := kdMark
    k_steps
    · exact LCg.CompEnd.intro (by assumption) (by assumption) _ (fun _ hp => hp) (by assumption) (Or.inr ⟨_, List.mem_cons_of_mem _ hl, rfl, _, rfl⟩) ⟨rfl, rfl, by assumption⟩
    · exact LCg.CompEnd.intro (by assumption) (by assumption) _ (fun _ hp => hp) (by assumption) (Or.inr ⟨_, List.mem_cons_of_mem _ hl, rfl, _, rfl⟩) ⟨rfl, by first | assumption | omega⟩
  · intro ys hy hyl
    k_steps
    (rename _ ∧ LCg.Off1 _ _ => o1)
    exact hret _ ys ys.length _ _ (by k_asm) (drop2 (by assumption)) o1.2 hy
def DelU (prog : Program) (w : World) (K : Frag) (p : Program) (loose : List Str) (mean : ExcName → Option Value) (mg mb : Str → Option Value) (f : Addr) : Prop :=
  ∀ (dp un : Nat) (gd : Option (List Code)) (cn : Str) (cs : Scope) (a : Addr) (ccd : Value) (cl : List (Str × Addr)) (outer : List Env) (A₀ : Around) (base h₀ : Heap) (L : Addr) (m : Str → Option Value) (news n₀ : List (Addr × Obj)) (s : Shared) (v : Value) (ps : List (Int × Int))
    (key : Int) (t1 : Tok) (Q E : Value → Shared → Prop),
    Below A₀ base outer h₀ → Fr h₀ L s.heap m → K.In h₀ → News h₀ L s.heap news → Top p loose mean mg mb h₀ → cs.kind = .function → DatIn n₀ v (.list (List.map encP ps)) → (∀ p ∈ n₀, p ∈ news) → ps.length ≤ 1000 → dp + 2 < recursionLimit → un + 16 < cLine →
    (∀ r tl h' tk', Fr h₀ L h' m → News h₀ L h' (news ++ tl) → OwnOff tl (List.map Prod.fst news) → DatIn (n₀ ++ tl) r (.list (List.map encP (ps.filter fun p => !decide (p.1 = key)))) → Q r { s with heap := h', toks := tk' }) →
    wpAny (model prog w) (ktrTop dp un gd cn cs L a ccd cl outer) (call (.ref f) [v, .int key t1]) Q E s
theorem del_u (w : World) (mean : ExcName → Option Value) (mg mb : Str → Option Value) : DelU PySem.Challenge.rw_k14_0011.row.prog w (Mine.hd.heap_39 w.params) Mine.hd.view_39 (looseW Mine.hd.view_39 []) mean mg mb 26 := by
  intro dp un gd cn cs a ccd cl outer A₀ base h₀ L m news n₀ s v ps key t1 Q E B F X N T hk hv hsub hlen hd hu hret
  cases hv with
  | list hl hD =>
    refine del_tells w mean mg mb _ _ _ _ _ _ _ _ _ _ _ _ _ _ _ _ _ _ _ _ n₀ _ _ _ _ B F X N T hk (hsub _ hl) hD hsub hlen hd hu ?_
    intro r us' n' h' tk' F' N' off hD'
    refine hret _ [(r, W.listOf us'.toArray n')] _ _ F' (fun p hp => N' p ?_) (fun p hp c hc => ?_) (.list (List.mem_append.mpr (.inr (.head _))) (hD'.mono fun _ h => List.mem_append.mpr (.inl h)))
    · rcases List.mem_append.mp hp with hp | hp
      · exact .tail _ hp
      · rw [List.mem_singleton.mp hp]; exact .head _
    · rw [List.mem_singleton.mp hp]
      obtain ⟨q, hq, rfl⟩ := List.mem_map.mp hc
      exact fun x => off1_mem off q hq x.symm
abbrev Deed := Bool × Int × Int
def encD (d : Deed) : Dat := .tuple [.str (if d.1 = true then Str.ofString "put" else Str.ofString "del"), .int d.2.1, .int d.2.2]
def encT (t : List Deed) : Dat := .list (List.map encD t)
def step (st : List (Int × Int)) (d : Deed) : List (Int × Int) := if d.1 = true then putL st d.2.1 d.2.2 else st.filter fun p => !decide (p.1 = d.2.1)
theorem putL_len (ps : List (Int × Int)) (key value : Int) : (putL ps key value).length ≤ ps.length + 1 := by
  have := putStep_len key value ps ([], false)
  unfold putL putFin
  split
  · rename_i h; simp [h] at this; omega
  · rename_i h; simp [h] at this; simp; omega
theorem step_len (st : List (Int × Int)) (d : Deed) : (step st d).length ≤ st.length + 1 := by
  unfold step
  split
  · exact putL_len _ _ _
  · exact Nat.le_succ_of_le (List.length_filter_le _ _)
theorem steps_len : ∀ (ds : List Deed) (st : List (Int × Int)), (ds.foldl step st).length ≤ st.length + ds.length
  | [], st => by simp
  | d :: ds, st => by
    rw [List.foldl_cons, List.length_cons]
    have h1 := steps_len ds (step st d)
    have h2 := step_len st d
    omega
section
variable {prog : Program} {w : World} {A : Around} {E : Value → Shared → Prop} {s : Shared} {h₀ : Heap} {L a : Addr} {m : Str → Option Value} {news n₁ : List (Addr × Obj)} {oa : Obj} {us : List Value} {ka : Nat} {ds : List Dat} {Q : Value → Shared → Prop}
theorem pick_upto (us : List Value) {y : Int} (h : 0 ≤ y) : (slicePick us.toArray none (some y) none).toList = us.take y.toNat := by
  have e : sliceBounds none (some y) none us.toArray.size = (((0 : Nat) : Int), ((min y.toNat us.toArray.size : Nat) : Int), 1) := by
    simp only [sliceBounds, Option.getD_none, show (1 : Int) > 0 by decide, if_true, if_neg (show ¬ (y < 0) by omega)]
    congr 1
    congr 1
    omega
  rw [kmk_pick_nat _ e]
  show (us.drop 0).take (min y.toNat us.toArray.size - 0) = _
  rw [List.drop_zero, Nat.sub_zero, List.size_toArray, kmk_take_min]
theorem take_all {ds : List Dat} (h : DatAll news us ds) (k : Nat) : DatAll news (us.take k) (ds.take k) := by
  induction us generalizing ds k with
  | nil => cases h; simpa using DatAll.nil
  | cons v vs ih =>
    cases h with
    | cons h r =>
      cases k with
      | zero => simpa using DatAll.nil
      | succ k => rw [List.take_succ_cons, List.take_succ_cons]; exact .cons h (ih r k)
theorem take_dat {value slice : PySem.Expr} {vu : Value} {y : Int} (F : Fr h₀ L s.heap m) (N : News h₀ L s.heap news) (ma : (a, W.listOf us.toArray ka) ∈ news) (pu : IsPart vu (some y)) (hy : 0 ≤ y)
    (h : ∀ D h', Fr h₀ L h' m → News h₀ L h' ((D, W.listOf (List.toArray (us.take y.toNat)) 0) :: news) → (∀ p ∈ news, p.1 < D) → Q (.ref D) { s with heap := h' })
    (hs : subscripted slice false (.ref a) (.ref s.heap.objs.size) = operate [.ref s.heap.objs.size, .ref a] (getItem (.ref a) (.ref s.heap.objs.size))) (ht : ∀ r, letTemporaryGo value (.ref a) r = pure ()) (hz : us.length ≤ 1000) :
    wpAny (model prog w) A (subscriptTail value slice (.ref a) (.ref s.heap.objs.size)) Q E { s with heap := s.heap.push { cls := .type "slice", data := .fields #[.none, vu, .none] } } := by
  refine kmk_slice_lit (its := us.toArray) (zs := us.take y.toNat) F N ⟨_, (N _ ma).1, rfl, ka, rfl⟩ .none pu (pick_upto us hy) h hs ht ?_
  rw [PySem.sizeLine_eq, List.size_toArray]
  omega
end
theorem off_sub {tl A B : List (Addr × Obj)} (h : OwnOff tl (List.map Prod.fst A)) (hs : ∀ p ∈ B, p ∈ A) : OwnOff tl (List.map Prod.fst B) := fun p hp b hb => by
  obtain ⟨q, hq, rfl⟩ := List.mem_map.mp hb
  exact h p hp _ (List.mem_map.mpr ⟨q, hs q hq, rfl⟩)
theorem own_sub {tl A B : List (Addr × Obj)} (h : OwnOff tl (List.map Prod.fst A)) (hs : ∀ p ∈ B, p ∈ A) : ∀ q ∈ tl, ∀ p ∈ B, p.1 ≠ q.1 := fun q hq p hp e => h q hq _ (List.mem_map.mpr ⟨p, hs p hp, rfl⟩) e.symm
theorem off_two {news tl : List (Addr × Obj)} {D S : Addr} {o p : Obj} (h1 : AllLt D ((S, p) :: news)) (h2 : AllLt S news) (h3 : OwnOff tl (D :: S :: List.map Prod.fst news)) : OwnOff ((D, o) :: (S, p) :: tl) (List.map Prod.fst news) := fun q hq b hb => by
  rcases List.mem_cons.mp hq with rfl | hq
  · obtain ⟨r, hr, rfl⟩ := List.mem_map.mp hb
    exact fun x => lt_ne h1 r (.tail _ hr) x.symm
  · rcases List.mem_cons.mp hq with rfl | hq
    · obtain ⟨r, hr, rfl⟩ := List.mem_map.mp hb
      exact fun x => lt_ne h2 r hr x.symm
    · exact h3 q hq b (.tail _ (.tail _ hb))
section
variable {d s : Addr × Obj} {news tl own tl2 own2 tl9 : List (Addr × Obj)}
theorem sb1 : ∀ p ∈ [] ++ ((d :: s :: (news ++ (tl ++ own))) ++ (tl9 ++ tl2)), p ∈ (d :: s :: (news ++ (tl ++ own) ++ (tl2 ++ own2))) ++ tl9 := by
  intro p hp; simp only [List.cons_append, List.nil_append, List.mem_cons, List.mem_append] at hp ⊢; grind
theorem sb2 : ∀ p ∈ own2, p ∈ (d :: s :: (news ++ (tl ++ own) ++ (tl2 ++ own2))) ++ tl9 := by
  intro p hp; simp only [List.cons_append, List.nil_append, List.mem_cons, List.mem_append] at hp ⊢; grind
theorem sb3 : ∀ p ∈ d :: s :: (news ++ (tl ++ own)), p ∈ d :: s :: (news ++ (tl ++ own) ++ (tl2 ++ own2)) := by
  intro p hp; simp only [List.cons_append, List.nil_append, List.mem_cons, List.mem_append] at hp ⊢; grind
theorem sb4 : ∀ p ∈ own2, p ∈ d :: s :: (news ++ (tl ++ own) ++ (tl2 ++ own2)) := by
  intro p hp; simp only [List.cons_append, List.nil_append, List.mem_cons, List.mem_append] at hp ⊢; grind
theorem sb5 : ∀ p ∈ ((s :: tl) ++ tl2) ++ tl9, p ∈ (s :: tl) ++ (tl9 ++ tl2) := by
  intro p hp; simp only [List.cons_append, List.nil_append, List.mem_cons, List.mem_append] at hp ⊢; grind
theorem sb6 : ∀ p ∈ [] ++ ((d :: s :: news) ++ (tl2 ++ tl)), p ∈ d :: s :: (news ++ (tl ++ own) ++ tl2) := by
  intro p hp; simp only [List.cons_append, List.nil_append, List.mem_cons, List.mem_append] at hp ⊢; grind
theorem sb7 : ∀ p ∈ own, p ∈ d :: s :: (news ++ (tl ++ own) ++ tl2) := by
  intro p hp; simp only [List.cons_append, List.nil_append, List.mem_cons, List.mem_append] at hp ⊢; grind
theorem sb8 : ∀ p ∈ d :: s :: news, p ∈ d :: s :: (news ++ (tl ++ own)) := by
  intro p hp; simp only [List.cons_append, List.nil_append, List.mem_cons, List.mem_append] at hp ⊢; grind
theorem sb9 : ∀ p ∈ own, p ∈ d :: s :: (news ++ (tl ++ own)) := by
  intro p hp; simp only [List.cons_append, List.nil_append, List.mem_cons, List.mem_append] at hp ⊢; grind
theorem sb10 : ∀ p ∈ (s :: tl) ++ tl2, p ∈ s :: (tl2 ++ tl) := by
  intro p hp; simp only [List.cons_append, List.nil_append, List.mem_cons, List.mem_append] at hp ⊢; grind
theorem sb11 : ∀ p ∈ news ++ (d :: s :: tl), p ∈ d :: s :: (news ++ tl) := by
  intro p hp; simp only [List.cons_append, List.nil_append, List.mem_cons, List.mem_append] at hp ⊢; grind
theorem sb12 : ∀ p ∈ (s :: tl) ++ tl2, p ∈ d :: s :: (news ++ (tl ++ own) ++ (tl2 ++ own2)) := by
  intro p hp; simp only [List.cons_append, List.nil_append, List.mem_cons, List.mem_append] at hp ⊢; grind
end
theorem flat_le (ts : List (List Deed)) (c i : Nat) (h : i < (ts.take c).length) : (((ts.take c).take i).flatten ++ (ts.take c)[i]).length ≤ ts.flatten.length := by
  have e1 : ((ts.take c).take i).flatten ++ (ts.take c)[i] = ((ts.take c).take (i + 1)).flatten := by
    rw [List.take_add_one, List.getElem?_eq_getElem h, List.flatten_append]; simp
  have e2 : ts.flatten = ((ts.take c).take (i + 1)).flatten ++ (((ts.take c).drop (i + 1)).flatten ++ (ts.drop c).flatten) := by
    rw [← List.append_assoc, ← List.flatten_append, List.take_append_drop, ← List.flatten_append, List.take_append_drop]
  rw [e1, e2, List.length_append]
  exact Nat.le_add_right _ _
theorem datD {news : List (Addr × Obj)} {v : Value} {d : Deed} (h : DatIn news v (encD d)) : ∃ (a : Addr) (t0 t1 t2 : Tok) (n : Nat), v = .ref a ∧ (a, ({ cls := .type "tuple", data := .seq [Value.str (if d.1 = true then Str.ofString "put" else Str.ofString "del") t0, Value.int d.2.1 t1, Value.int d.2.2 t2].toArray n } : Obj)) ∈ news := by
  unfold encD at h
  cases h with
  | tuple hm r =>
    cases r with
    | cons h1 r =>
      cases r with
      | cons h2 r =>
        cases r with
        | cons h3 r =>
          cases r
          cases h1
          cases h2
          cases h3
          exact ⟨_, _, _, _, _, rfl, hm⟩
theorem datT {news : List (Addr × Obj)} {v : Value} {t : List Deed} (h : DatIn news v (encT t)) : ∃ (a : Addr) (vs : List Value) (n : Nat), v = .ref a ∧ (a, W.listOf vs.toArray n) ∈ news ∧ DatAll news vs (List.map encD t) := by
  unfold encT at h
  cases h with
  | list hm r => exact ⟨_, _, _, rfl, hm, r⟩
section
variable {w : World} {mean : ExcName → Option Value} {mg mb : Str → Option Value} {dp un : Nat} {gd : Option (List Code)} {cn : Str} {cs : Scope} {a : Addr} {ccd : Value} {cl : List (Str × Addr)} {outer : List Env} {A₀ : Around} {base h₀ : Heap} {L : Addr} {m : Str → Option Value} {news n₀ : List (Addr × Obj)} {s : Shared} {v : Value} {ps : List (Int × Int)} {key value : Int} {t1 t2 : Tok}
  {Q E : Value → Shared → Prop}
theorem put_use (hv : DatIn n₀ v (.list (List.map encP ps))) (hsub : ∀ p ∈ n₀, p ∈ news) (B : Below A₀ base outer h₀) (F : Fr h₀ L s.heap m) (X : (Mine.hd.heap_39 w.params).In h₀) (N : News h₀ L s.heap news) (T : Top Mine.hd.view_39 (looseW Mine.hd.view_39 []) mean mg mb h₀) (hk : cs.kind = .function) (hz : ps.length ≤ 1000) (hd : dp + 2 < recursionLimit) (hu : un + 16 < cLine)
    (ret : ∀ r tl h' tk', Fr h₀ L h' m → News h₀ L h' (news ++ tl) → OwnOff tl (List.map Prod.fst news) → DatIn (n₀ ++ tl) r (.list (List.map encP (putL ps key value))) → Q r { s with heap := h', toks := tk' }) :
    wpAny (model PySem.Challenge.rw_k14_0011.row.prog w) (ktrTop dp un gd cn cs L a ccd cl outer) (call (.ref 21) [v, .int key t1, .int value t2]) Q E s :=
  put_tells w mean mg mb _ _ _ _ _ _ _ _ _ _ _ _ _ _ _ _ _ _ _ _ _ _ _ _ _ B F X N T hk hv hsub hz hd hu ret
theorem del_use (hv : DatIn n₀ v (.list (List.map encP ps))) (hsub : ∀ p ∈ n₀, p ∈ news) (B : Below A₀ base outer h₀) (F : Fr h₀ L s.heap m) (X : (Mine.hd.heap_39 w.params).In h₀) (N : News h₀ L s.heap news) (T : Top Mine.hd.view_39 (looseW Mine.hd.view_39 []) mean mg mb h₀) (hk : cs.kind = .function) (hz : ps.length ≤ 1000) (hd : dp + 2 < recursionLimit) (hu : un + 16 < cLine)
    (ret : ∀ r tl h' tk', Fr h₀ L h' m → News h₀ L h' (news ++ tl) → OwnOff tl (List.map Prod.fst news) → DatIn (n₀ ++ tl) r (.list (List.map encP (ps.filter fun p => !decide (p.1 = key)))) → Q r { s with heap := h', toks := tk' }) :
    wpAny (model PySem.Challenge.rw_k14_0011.row.prog w) (ktrTop dp un gd cn cs L a ccd cl outer) (call (.ref 26) [v, .int key t1]) Q E s :=
  del_u w mean mg mb _ _ _ _ _ _ _ _ _ _ _ _ _ _ _ _ _ _ _ _ _ _ _ B F X N T hk hv hsub hz hd hu ret
end
def AfterTells (prog : Program) (w : World) (K : Frag) (p : Program) (loose : List Str) (mean : ExcName → Option Value) (mg mb : Str → Option Value) (f : Addr) : Prop :=
  ∀ (dp un : Nat) (gd : Option (List Code)) (cn : Str) (cs : Scope) (a : Addr) (ccd : Value) (cl : List (Str × Addr)) (outer : List Env) (A₀ : Around) (base h₀ : Heap) (L : Addr) (m : Str → Option Value) (news n₀ : List (Addr × Obj)) (s : Shared) (l : Addr) (us : List Value) (n : Nat) (ts : List (List Deed))
    (count : Int) (t1 : Tok) (Q E : Value → Shared → Prop),
    Below A₀ base outer h₀ → Fr h₀ L s.heap m → K.In h₀ → News h₀ L s.heap news → Top p loose mean mg mb h₀ → cs.kind = .function → (l, W.listOf us.toArray n) ∈ news → DatAll n₀ us (List.map encT ts) → (∀ p ∈ n₀, p ∈ news) → 0 ≤ count → us.length ≤ 100 → ts.flatten.length ≤ 100 → dp + 4 < recursionLimit → un + 32 < cLine →
    (∀ r tl h' tk', Fr h₀ L h' m → News h₀ L h' (news ++ tl) → OwnOff tl (List.map Prod.fst news) → DatIn tl r (.list (List.map encP ((ts.take count.toNat).flatten.foldl step []))) → Q r { s with heap := h', toks := tk' }) →
    wpAny (model prog w) (ktrTop dp un gd cn cs L a ccd cl outer) (call (.ref f) [.ref l, .int count t1]) Q E s
set_option maxRecDepth 100000 in
set_option maxHeartbeats 4000000 in
theorem after_tells (w : World) (mean : ExcName → Option Value) (mg mb : Str → Option Value) : AfterTells PySem.Challenge.rw_k14_0011.row.prog w (Mine.hd.heap_39 w.params) Mine.hd.view_39 (looseW Mine.hd.view_39 []) mean mg mb 33 := by
  w_top off
  k_fill
  k_with_none
  unfold AfterTells
  intro dp un gd cn cs a ccd cl outer A₀ base h₀ L m news n₀ s l us n ts count t1 Q E B F X N T hk hl hD hsub hc hul hfl hd hu hret
  have kMk := kdMark
  have kMk2 := kstMark
  k_with "pyIter ref" => fail "none"
  refine wpAny_call ?_
  k_dflt cell_enter
  iterate 17 (first | walk1 | (dsimp only; walk1))
  k_dflt (refine' take_dat ?zF ?zN ?za ?zp ?zy ?_ ?zs ?zt ?zz; (case zF => k_asm); (case zN => k_asm); (case za => exact List.mem_cons_of_mem _ hl); (case zp => exact IsPart.int _ _); (case zy => exact hc); (case zs => with_unfolding_all rfl); (case zt => kmk_pure); (case zz => omega))
  intro D h9 F9 N9 l9
  have l9' := allLt_of l9
  k_sweep
  rename_i g1 L1 h1 FG1 B1 X1 T1 S h2 lS h3
  have lS' := allLt_of lS
  clear lS l9
  refine iter_l (σ := Value × List (Int × Int)) (vs := us.take count.toNat) (nn := 0) (fun _ => []) ((D, W.listOf (List.take count.toNat us).toArray 0) :: (S, W.listOf #[] 0) :: news) (fun c => [(Str.ofString "state", c.1)]) (fun tl c => DatIn ((S, W.listOf #[] 0) :: tl) c.1 (.list (List.map encP c.2))) [Str.ofString "d"] (fun i c => c.2 = ((ts.take count.toNat).take i).flatten.foldl step []) (D :: S :: List.map Prod.fst news) (Value.ref S, []) (by rfl) (.head _) F9 N9 (fun _ h => h) (fun _ => rfl) (.list (n := 0) (vs := []) (.head _) .nil) (by kst_all) rfl ?_ ?_
  · intro i v c tl u h tk own hv hsep hR hP F5 N5
    obtain ⟨sv, st⟩ := c
    dsimp only at hR hP N5 F5
    dsimp only [kstB] at F5
    simp only [List.cons_append, List.nil_append] at N5
    have htl : (us.take count.toNat).length = (ts.take count.toNat).length := by rw [List.length_take, List.length_take, hD.length, List.length_map]
    have hi : i < (ts.take count.toNat).length := by rw [← htl]; exact (List.getElem?_eq_some_iff.mp hv).1
    have hDt := take_all hD count.toNat
    rw [← List.map_take] at hDt
    obtain ⟨v', hv', hDi⟩ := hDt.get (k := i) (by rw [List.length_map]; exact hi)
    have ev : v' = v := by rw [hv] at hv'; exact (Option.some.inj hv').symm
    subst ev
    rw [List.getElem_map] at hDi
    have hstep : ((ts.take count.toNat).take (i + 1)).flatten.foldl step [] = (ts.take count.toNat)[i].foldl step st := by
      rw [List.take_add_one, List.getElem?_eq_getElem hi, List.flatten_append, List.foldl_append, ← hP]; simp
    have hlens : st.length + (ts.take count.toNat)[i].length ≤ 100 := by
      have h1 := steps_len ((ts.take count.toNat).take i).flatten []
      rw [← hP] at h1
      have h2 : (((ts.take count.toNat).take i).flatten ++ (ts.take count.toNat)[i]).length ≤ ts.flatten.length := flat_le ts count.toNat i hi
      rw [List.length_append] at h2
      simp only [List.length_nil] at h1
      omega
    generalize (ts.take count.toNat)[i] = t at hDi hstep hlens
    obtain ⟨a9, tvs, tn, rfl, hm, hDT⟩ := datT hDi
    have hm' := hsub _ hm
    iterate 3 (first | walk1 | (dsimp only; walk1))
    refine iter_l (σ := Value × List (Int × Int)) (vs := tvs) (nn := tn) (fun _ => []) ((D, W.listOf (List.take count.toNat us).toArray 0) :: (S, W.listOf #[] 0) :: (news ++ (tl ++ own))) (fun c => [(Str.ofString "state", c.1)]) (fun tl2 c => DatIn (((S, W.listOf #[] 0) :: tl) ++ tl2) c.1 (.list (List.map encP c.2))) [] (fun j c => c.2 = (t.take j).foldl step st) (D :: S :: List.map Prod.fst (news ++ (tl ++ own))) (sv, st) (by rfl) (.tail _ (.tail _ (List.mem_append.mpr (.inl hm')))) (by k_asm) (by k_asm) (fun _ h => h) (fun _ => rfl) (by rw [List.append_nil]; exact hR) (by kst_all) rfl ?_ ?_
    · intro j v2 c2 tl2 u2 h2' tk2 own2 hv2 hsep2 hR2 hP2 F6 N6
      obtain ⟨sv2, st2⟩ := c2
      dsimp only at hR2 hP2 N6 F6
      dsimp only [kstB] at F6
      simp only [List.cons_append, List.nil_append] at N6
      have hj : j < t.length := by
        have h1 := (List.getElem?_eq_some_iff.mp hv2).1
        have h2 := hDT.length
        rw [List.length_map] at h2
        omega
      obtain ⟨v3, hv3, hDj⟩ := hDT.get (k := j) (by rw [List.length_map]; exact hj)
      have ev2 : v3 = v2 := by rw [hv2] at hv3; exact (Option.some.inj hv3).symm
      subst ev2
      rw [List.getElem_map] at hDj
      have hstep2 : (t.take (j + 1)).foldl step st = step st2 t[j] := by
        rw [List.take_add_one, List.getElem?_eq_getElem hj, List.foldl_append, ← hP2]; rfl
      have hl2 : st2.length ≤ 200 := by
        have h1 := steps_len (t.take j) st
        rw [← hP2, List.length_take] at h1
        omega
      generalize t[j] = dd at hDj hstep2
      obtain ⟨b, kk, vv⟩ := dd
      obtain ⟨a10, s0, s1, s2, nn, rfl, hm2⟩ := datD hDj
      have hm2' := hsub _ hm2
      dsimp only at hm2'
      k_with "call ref" => (k_dflt (refine' put_use hR2 ?ysub ?yk1 ?yk2 ?yk3 ?yk4 ?yk5 ?yk6 ?yz ?yd ?yu ?_; (case ysub => exact hsub2); (case yk1 => k_asm); (case yk2 => k_asm); (case yk3 => k_asm); (case yk4 => k_asm); (case yk5 => k_asm); (case yk6 => first | exact rfl | assumption); (case yz => omega); (case yd => ktr_room); (case yu => ktr_units); (intro r9 tl9 h9 tk9 F9 N9 off9 hD9); (try dsimp only); (try k_fold)))
      k_with "call ref" => (k_dflt (refine' del_use hR2 ?ysub ?yk1 ?yk2 ?yk3 ?yk4 ?yk5 ?yk6 ?yz ?yd ?yu ?_; (case ysub => exact hsub2); (case yk1 => k_asm); (case yk2 => k_asm); (case yk3 => k_asm); (case yk4 => k_asm); (case yk5 => k_asm); (case yk6 => first | exact rfl | assumption); (case yz => omega); (case yd => ktr_room); (case yu => ktr_units); (intro r9 tl9 h9 tk9 F9 N9 off9 hD9); (try dsimp only); (try k_fold)))
      have hsub2 : ∀ p ∈ ((S, W.listOf #[] 0) :: tl) ++ tl2, p ∈ (D, W.listOf (List.take count.toNat us).toArray 0) :: (S, W.listOf #[] 0) :: (news ++ (tl ++ own) ++ (tl2 ++ own2)) := sb12
      cases b
      all_goals (simp only [Bool.false_eq_true, if_false, if_true] at hm2'; (try k_fold); k_steps)
      · exact iter_end (r9, st2.filter fun p => !decide (p.1 = kk)) tl9 hsep2 (by k_asm) (by k_asm) sb1 sb2 rfl (off_sub (B := (D, W.listOf (List.take count.toNat us).toArray 0) :: (S, W.listOf #[] 0) :: (news ++ (tl ++ own))) off9 sb3) (own_sub off9 sb4) (by kst_all) (by kst_same) (hD9.mono sb5) (by rw [hstep2]; simp [step])
      · exact iter_end (r9, putL st2 kk vv) tl9 hsep2 (by k_asm) (by k_asm) sb1 sb2 rfl (off_sub (B := (D, W.listOf (List.take count.toNat us).toArray 0) :: (S, W.listOf #[] 0) :: (news ++ (tl ++ own))) off9 sb3) (own_sub off9 sb4) (by kst_all) (by kst_same) (hD9.mono sb5) (by rw [hstep2]; simp [step])
    · intro c2 tl2 u2 h2' tk2 hoff2 hR2 hP2 F6 N6
      obtain ⟨sv2, st2⟩ := c2
      dsimp only at hR2 hP2 N6 F6
      dsimp only [kstB] at F6
      simp only [List.cons_append, List.nil_append] at N6
      (try k_fold)
      k_steps
      exact iter_end (sv2, st2) tl2 hsep (by k_asm) (by k_asm) sb6 sb7 rfl (off_sub (A := (D, W.listOf (List.take count.toNat us).toArray 0) :: (S, W.listOf #[] 0) :: (news ++ (tl ++ own))) (B := (D, W.listOf (List.take count.toNat us).toArray 0) :: (S, W.listOf #[] 0) :: news) hoff2 sb8) (own_sub (A := (D, W.listOf (List.take count.toNat us).toArray 0) :: (S, W.listOf #[] 0) :: (news ++ (tl ++ own))) hoff2 sb9) (by kst_all) (by kst_same) (hR2.mono sb10) (by rw [hstep, hP2, List.take_of_length_le (by rw [hDT.length, List.length_map]; exact Nat.le_refl _)])
  · intro c tl u h tk hoff hR hP F5 N5
    obtain ⟨sv, st⟩ := c
    dsimp only at hR hP N5 F5
    dsimp only [kstB] at F5
    simp only [List.cons_append, List.nil_append] at N5
    k_steps
    rw [List.take_of_length_le (by rw [List.length_take, List.length_take, hD.length, List.length_map]; exact Nat.le_refl _)] at hP
    subst hP
    exact hret sv ((D, W.listOf (List.take count.toNat us).toArray 0) :: (S, W.listOf #[] 0) :: tl) _ _ (by k_asm) (kst_newsOf (by k_asm) sb11) (off_two l9' lS' hoff) (hR.mono fun _ h => List.mem_cons_of_mem _ h)
def delL (ps : List (Int × Int)) (key : Int) : List (Int × Int) := ps.filter fun p => !decide (p.1 = key)
def cell (k : Int) (o : Option Int) : List (Int × Int) := match o with | none => [] | some v => [(k, v)]
def four (low : Int) (o0 o1 o2 o3 : Option Int) : List (Int × Int) := cell low o0 ++ (cell (low + 1) o1 ++ (cell (low + 2) o2 ++ cell (low + 3) o3))
def opt (d : Deed) : Option Int := if d.1 = true then some d.2.2 else none
def upd (k : Int) (l d : Deed) : Deed := if d.2.1 = k then d else l

theorem del_four (low : Int) (o0 o1 o2 o3 : Option Int) (k : Int) (h : k = low ∨ k = low + 1 ∨ k = low + 2 ∨ k = low + 3) :
    delL (four low o0 o1 o2 o3) k = four low (if k = low then none else o0) (if k = low + 1 then none else o1) (if k = low + 2 then none else o2) (if k = low + 3 then none else o3) := by
  have e1 : ¬ (low = low + 1) := by omega
  have e2 : ¬ (low = low + 2) := by omega
  have e3 : ¬ (low = low + 3) := by omega
  have e4 : ¬ (low + 1 = low) := by omega
  have e5 : ¬ (low + 2 = low) := by omega
  have e6 : ¬ (low + 3 = low) := by omega
  have e7 : ¬ (low + 1 = low + 2) := by omega
  have e8 : ¬ (low + 1 = low + 3) := by omega
  have e9 : ¬ (low + 2 = low + 3) := by omega
  have f7 : ¬ (low + 2 = low + 1) := by omega
  have f8 : ¬ (low + 3 = low + 1) := by omega
  have f9 : ¬ (low + 3 = low + 2) := by omega
  rcases h with h | h | h | h <;> subst h <;> cases o0 <;> cases o1 <;> cases o2 <;> cases o3 <;>
    simp only [delL, four, cell, List.nil_append, List.cons_append, List.append_nil, List.filter_cons, List.filter_nil, e1, e2, e3, e4, e5, e6, e7, e8, e9, f7, f8, f9, if_true, if_false, decide_true, decide_false, Bool.not_true, Bool.not_false, Bool.false_eq_true]
theorem put_four (low : Int) (o0 o1 o2 o3 : Option Int) (k v : Int) (h : k = low ∨ k = low + 1 ∨ k = low + 2 ∨ k = low + 3) :
    putL (four low o0 o1 o2 o3) k v = four low (if k = low then some v else o0) (if k = low + 1 then some v else o1) (if k = low + 2 then some v else o2) (if k = low + 3 then some v else o3) := by
  have e1 : ¬ (low = low + 1) := by omega
  have e2 : ¬ (low = low + 2) := by omega
  have e3 : ¬ (low = low + 3) := by omega
  have e4 : ¬ (low + 1 = low) := by omega
  have e5 : ¬ (low + 2 = low) := by omega
  have e6 : ¬ (low + 3 = low) := by omega
  have e7 : ¬ (low + 1 = low + 2) := by omega
  have e8 : ¬ (low + 1 = low + 3) := by omega
  have e9 : ¬ (low + 2 = low + 3) := by omega
  have f7 : ¬ (low + 2 = low + 1) := by omega
  have f8 : ¬ (low + 3 = low + 1) := by omega
  have f9 : ¬ (low + 3 = low + 2) := by omega
  have g1 : low < low + 1 := by omega
  have g2 : low < low + 2 := by omega
  have g3 : low < low + 3 := by omega
  have g4 : low + 1 < low + 2 := by omega
  have g5 : low + 1 < low + 3 := by omega
  have g6 : low + 2 < low + 3 := by omega
  have n1 : ¬ low + 1 < low := by omega
  have n2 : ¬ low + 2 < low := by omega
  have n3 : ¬ low + 3 < low := by omega
  have n4 : ¬ low + 2 < low + 1 := by omega
  have n5 : ¬ low + 3 < low + 1 := by omega
  have n6 : ¬ low + 3 < low + 2 := by omega
  rcases h with h | h | h | h <;> subst h <;> cases o0 <;> cases o1 <;> cases o2 <;> cases o3 <;>
    simp only [putL, putFin, putStep, four, cell, List.nil_append, List.cons_append, List.append_nil, List.foldl_cons, List.foldl_nil, e1, e2, e3, e4, e5, e6, e7, e8, e9, f7, f8, f9, g1, g2, g3, g4, g5, g6, n1, n2, n3, n4, n5, n6, if_true, if_false, and_true, and_false, true_and, false_and, Bool.false_eq_true, Bool.true_eq_false]
theorem step_four (low : Int) (l0 l1 l2 l3 d : Deed) (h : d.2.1 = low ∨ d.2.1 = low + 1 ∨ d.2.1 = low + 2 ∨ d.2.1 = low + 3) :
    step (four low (opt l0) (opt l1) (opt l2) (opt l3)) d = four low (opt (upd low l0 d)) (opt (upd (low + 1) l1 d)) (opt (upd (low + 2) l2 d)) (opt (upd (low + 3) l3 d)) := by
  unfold step
  have up : ∀ k l, opt (upd k l d) = if d.2.1 = k then (if d.1 = true then some d.2.2 else none) else opt l := by
    intro k l; unfold upd; split <;> rfl
  rw [up, up, up, up]
  by_cases hp : d.1 = true
  · simp only [hp, if_true]; exact put_four low _ _ _ _ _ _ h
  · simp only [hp, if_false]; exact del_four low _ _ _ _ _ h
theorem all_four (low : Int) : ∀ (ds : List Deed) (l0 l1 l2 l3 : Deed), (∀ d ∈ ds, d.2.1 = low ∨ d.2.1 = low + 1 ∨ d.2.1 = low + 2 ∨ d.2.1 = low + 3) →
    ds.foldl step (four low (opt l0) (opt l1) (opt l2) (opt l3)) = four low (opt (ds.foldl (upd low) l0)) (opt (ds.foldl (upd (low + 1)) l1)) (opt (ds.foldl (upd (low + 2)) l2)) (opt (ds.foldl (upd (low + 3)) l3))
  | [], _, _, _, _, _ => rfl
  | d :: ds, l0, l1, l2, l3, h => by
    simp only [List.foldl_cons]
    rw [step_four low l0 l1 l2 l3 d (h d (.head _))]
    exact all_four low ds _ _ _ _ fun x hx => h x (.tail _ hx)
theorem plain (low : Int) (ds : List Deed) (h : ∀ d ∈ ds, d.2.1 = low ∨ d.2.1 = low + 1 ∨ d.2.1 = low + 2 ∨ d.2.1 = low + 3) :
    ds.foldl step [] = four low (opt (ds.foldl (upd low) (false, low, 0))) (opt (ds.foldl (upd (low + 1)) (false, low + 1, 0))) (opt (ds.foldl (upd (low + 2)) (false, low + 2, 0))) (opt (ds.foldl (upd (low + 3)) (false, low + 3, 0))) :=
  all_four low ds (false, low, 0) (false, low + 1, 0) (false, low + 2, 0) (false, low + 3, 0) h

def bstep (low : Int) (s : List (List Deed) × List Deed) (c : Int) : List (List Deed) × List Deed :=
  if c.fmod 7 = 0 then (s.1 ++ [s.2], []) else if c.fmod 7 < 3 then (s.1, s.2 ++ [(false, low + c.fmod 4, 0)]) else (s.1, s.2 ++ [(true, low + c.fmod 4, c - 3)])
def Near (low : Int) (d : Deed) : Prop := d.2.1 = low ∨ d.2.1 = low + 1 ∨ d.2.1 = low + 2 ∨ d.2.1 = low + 3
theorem near_mod (low c : Int) (b : Bool) (v : Int) : Near low (b, low + c.fmod 4, v) := by
  have h1 := Int.fmod_eq_emod_of_nonneg c (show (0 : Int) ≤ 4 by decide)
  unfold Near
  dsimp only
  rw [h1]
  omega
theorem bstep_near (low : Int) : ∀ (cs : List Int) (s : List (List Deed) × List Deed), (∀ d ∈ s.1.flatten ++ s.2, Near low d) → ∀ d ∈ (cs.foldl (bstep low) s).1.flatten ++ (cs.foldl (bstep low) s).2, Near low d
  | [], _, h => h
  | c :: cs, s, h => by
    rw [List.foldl_cons]
    refine bstep_near low cs _ ?_
    unfold bstep
    split
    · simpa using h
    · split
      · intro d hd
        dsimp only at hd
        rw [← List.append_assoc] at hd
        rcases List.mem_append.mp hd with hd | hd
        · exact h d hd
        · rw [List.mem_singleton.mp hd]; exact near_mod _ _ _ _
      · intro d hd
        dsimp only at hd
        rw [← List.append_assoc] at hd
        rcases List.mem_append.mp hd with hd | hd
        · exact h d hd
        · rw [List.mem_singleton.mp hd]; exact near_mod _ _ _ _
def lastOf (k : Int) (ds : List Deed) : Deed := ds.foldl (upd k) (false, k, 0)
def wantL (low : Int) (ds : List Deed) : Nat → List (Int × Int)
  | 0 => []
  | n + 1 => wantL low ds n ++ cell (low + (n : Int)) (opt (lastOf (low + (n : Int)) ds))
theorem want_four (low : Int) (ds : List Deed) (h : ∀ d ∈ ds, Near low d) : ds.foldl step [] = wantL low ds 4 := by
  rw [plain low ds h]
  simp only [wantL, four, lastOf, List.nil_append, List.append_assoc]
  have e0 : low + ((0 : Nat) : Int) = low := by omega
  have e1 : low + ((1 : Nat) : Int) = low + 1 := rfl
  have e2 : low + ((2 : Nat) : Int) = low + 2 := rfl
  have e3 : low + ((3 : Nat) : Int) = low + 3 := rfl
  rw [e0, e1, e2, e3]
theorem wantL_len (low : Int) (ds : List Deed) : ∀ n, (wantL low ds n).length ≤ n
  | 0 => Nat.le_refl _
  | n + 1 => by
    have h := wantL_len low ds n
    unfold wantL
    rw [List.length_append]
    have : (cell (low + (n : Int)) (opt (lastOf (low + (n : Int)) ds))).length ≤ 1 := by unfold cell; split <;> simp
    omega
theorem take_near {low : Int} {ts : List (List Deed)} (h : ∀ d ∈ ts.flatten, Near low d) (k : Nat) : ∀ d ∈ (ts.take k).flatten, Near low d := by
  intro d hd
  obtain ⟨t, ht, hd⟩ := List.mem_flatten.mp hd
  exact h d (List.mem_flatten.mpr ⟨t, List.mem_of_mem_take ht, hd⟩)
theorem flat_each {ts : List (List Deed)} {n : Nat} (h : ts.flatten.length ≤ n) : ∀ t ∈ ts, t.length ≤ n := by
  intro t ht
  induction ts with
  | nil => cases ht
  | cons a ts ih =>
    rw [List.flatten_cons, List.length_append] at h
    rcases List.mem_cons.mp ht with rfl | ht
    · omega
    · exact ih (by omega) ht
theorem okP (l : List (Int × Int)) : ∀ d ∈ List.map encP l, kqdOk 8 d = true := by
  intro d hd
  obtain ⟨x, _, rfl⟩ := List.mem_map.mp hd
  rfl
theorem okD (d : Deed) : kqdOk 7 (encD d) = true := by
  have h1 : PyData.strOk (Str.ofString "put") = true := by decide +kernel
  have h2 : PyData.strOk (Str.ofString "del") = true := by decide +kernel
  obtain ⟨b, k, v⟩ := d
  cases b
  · simp [encD, kqdOk, h2]
  · simp [encD, kqdOk, h1]
theorem okT (ts : List (List Deed)) : ∀ d ∈ List.map encT ts, kqdOk 8 d = true := by
  intro d hd
  obtain ⟨t, _, rfl⟩ := List.mem_map.mp hd
  show (List.map encD t).all (kqdOk 7) = true
  rw [List.all_eq_true]
  intro x hx
  obtain ⟨y, _, rfl⟩ := List.mem_map.mp hx
  exact okD y
section
variable {prog : Program} {w : World} {A : Around} {h₀ : Heap} {L : Addr} {m : Str → Option Value} {env : Env} {elt : PySem.Expr} {x : Str} {scope : Scope} {cl : List (Str × Addr)} {s : Shared} {S : List (Addr × Obj) → Prop} {Fin : List Value → List (Addr × Obj) → Prop} {news : List (Addr × Obj)}
theorem kc_rest {n₀ : List (Addr × Obj)} {us : List Value} {ts : List (List Deed)} (hd : DatAll n₀ us (List.map encT ts)) (hsub : ∀ p ∈ n₀, p ∈ news) (hz : ∀ t ∈ ts, t.length ≤ 10)
    (turn : ∀ (a : Addr) (vs : List Value) (n : Nat) I oI C oC D m₂ ys h tk add (E' : Value → Shared → Prop), (a, W.listOf vs.toArray n) ∈ news → vs.length ≤ 10 → LCg.NsObj oC m₂ → m₂ x = some (.ref a) → Fr h₀ L h m → News h₀ L h ((I, oI) :: (C, oC) :: (D, LCg.lst ys) :: (add ++ news)) → LCg.Off3 I C D (add ++ news) → ((@Ne Nat I C) ∧ (@Ne Nat I D) ∧ (@Ne Nat C D)) →
      wpAny (model prog w) A (eval elt (compEnvC scope cl C env)) (LCg.CompEnd h₀ L m { s with heap := h, toks := tk } I oI C oC D (LCg.lst ys) S (fun y news' => ∃ b k, y = .ref b ∧ news' = (b, W.listOf vs.toArray k) :: (add ++ news) ∧ ∀ p ∈ add ++ news, p.1 ≠ b)) E' { s with heap := h, toks := tk })
    (fin : ∀ ys add, OwnOff add (List.map Prod.fst news) → DatAll (n₀ ++ add) ys (List.map encT ts) → Fin ys (add ++ news)) :
    LCg.CompRest prog w A h₀ L m env elt x scope cl s S (fun i v => us.toArray[i]? = some v) Fin us.toArray.size 0 [] news := by
  have hlen : us.length = ts.length := by rw [hd.length, List.length_map]
  have step : ∀ (j i : Nat) (ys : List Value) (add : List (Addr × Obj)), i + j = us.length → OwnOff add (List.map Prod.fst news) → DatAll (n₀ ++ add) ys (List.map encT (ts.take i)) → LCg.CompRest prog w A h₀ L m env elt x scope cl s S (fun i v => us.toArray[i]? = some v) Fin j i ys (add ++ news) := by
    intro j
    induction j with
    | zero =>
      intro i ys add hi ho hy
      have e : i = ts.length := by omega
      subst e
      rw [List.take_length] at hy
      exact LCg.CompRest.zero (fin ys add ho hy)
    | succ j ih =>
      intro i ys add hi ho hy
      refine LCg.CompRest.succ ?_
      intro v I oI C oC D m₂ h tk E' hv hC hx F N off ne
      have hiL : i < ts.length := by omega
      obtain ⟨v', hv', hD⟩ := hd.get (k := i) (by rw [List.length_map]; exact hiL)
      have ev : v' = v := by
        have : us[i]? = some v := by simpa using hv
        rw [this] at hv'; exact (Option.some.inj hv').symm
      subst ev
      rw [List.getElem_map] at hD
      obtain ⟨a, vs, n, rfl, hm, hDT⟩ := datT hD
      have hvl : vs.length ≤ 10 := by
        have h9 := hDT.length
        rw [List.length_map] at h9
        rw [h9]; exact hz _ (List.getElem_mem hiL)
      have hs : (ts.take (i + 1)) = ts.take i ++ [ts[i]] := by rw [List.take_add_one, List.getElem?_eq_getElem hiL]; rfl
      refine wpAny_mono (turn a vs n I oI C oC D m₂ ys h tk add E' (hsub _ hm) hvl hC hx F N off ne) (fun y s₃ hr => ?_) fun _ _ e => e
      obtain ⟨h', tk', nw, e, F', N', off', hS, b, k, rfl, rfl, hb⟩ := hr
      refine ⟨h', tk', (b, W.listOf vs.toArray k) :: (add ++ news), e, F', N', off', hS, ?_⟩
      refine ih (i + 1) _ ((b, W.listOf vs.toArray k) :: add) (by omega) ?_ ?_
      · intro p hp c hc
        rcases List.mem_cons.mp hp with rfl | hp
        · obtain ⟨q, hq, rfl⟩ := List.mem_map.mp hc
          exact fun x => hb q (List.mem_append.mpr (.inr hq)) x.symm
        · exact ho p hp c hc
      · rw [hs, List.map_append]
        exact DatAll.append (hy.mono fun p hp => (List.mem_append.mp hp).elim (fun h => List.mem_append.mpr (.inl h)) fun h => List.mem_append.mpr (.inr (.tail _ h))) (DatAll.one (.list (List.mem_append.mpr (.inr (.head _))) (hDT.mono fun _ h => List.mem_append.mpr (.inl h))))
  have := step us.length 0 [] [] (by omega) (fun _ h => nomatch h) (by simpa using DatAll.nil)
  rw [List.size_toArray]
  exact this
end
section
variable {w : World} {mean : ExcName → Option Value} {mg mb : Str → Option Value} {dp un : Nat} {gd : Option (List Code)} {cn : Str} {cs : Scope} {a : Addr} {ccd : Value} {cl : List (Str × Addr)} {outer : List Env} {A₀ : Around} {base h₀ : Heap} {L l : Addr} {m : Str → Option Value} {news n₀ : List (Addr × Obj)} {s : Shared} {us : List Value} {n : Nat} {ts : List (List Deed)} {count : Int} {t1 : Tok}
  {Q E : Value → Shared → Prop}
theorem after_use (hD : DatAll n₀ us (List.map encT ts)) (hl : (l, W.listOf us.toArray n) ∈ news) (hsub : ∀ p ∈ n₀, p ∈ news) (hc : 0 ≤ count) (hul : us.length ≤ 100) (hfl : ts.flatten.length ≤ 100) (B : Below A₀ base outer h₀) (F : Fr h₀ L s.heap m) (X : (Mine.hd.heap_39 w.params).In h₀) (N : News h₀ L s.heap news) (T : Top Mine.hd.view_39 (looseW Mine.hd.view_39 []) mean mg mb h₀) (hk : cs.kind = .function) (hd : dp + 4 < recursionLimit) (hu : un + 32 < cLine)
    (ret : ∀ r tl h' tk', Fr h₀ L h' m → News h₀ L h' (news ++ tl) → OwnOff tl (List.map Prod.fst news) → DatIn tl r (.list (List.map encP ((ts.take count.toNat).flatten.foldl step []))) → Q r { s with heap := h', toks := tk' }) :
    wpAny (model PySem.Challenge.rw_k14_0011.row.prog w) (ktrTop dp un gd cn cs L a ccd cl outer) (call (.ref 33) [.ref l, .int count t1]) Q E s :=
  after_tells w mean mg mb _ _ _ _ _ _ _ _ _ _ _ _ _ _ _ _ _ _ _ _ _ _ _ _ _ B F X N T hk hl hD hsub hc hul hfl hd hu ret
end
theorem bstep_len (low : Int) : ∀ (cs : List Int) (s : List (List Deed) × List Deed), (cs.foldl (bstep low) s).1.length ≤ s.1.length + cs.length ∧ (cs.foldl (bstep low) s).2.length ≤ s.2.length + cs.length ∧ ((cs.foldl (bstep low) s).1.flatten ++ (cs.foldl (bstep low) s).2).length ≤ (s.1.flatten ++ s.2).length + cs.length
  | [], s => by simp
  | c :: cs, s => by
    rw [List.foldl_cons]
    have h := bstep_len low cs (bstep low s c)
    have h2 : (bstep low s c).1.length ≤ s.1.length + 1 ∧ (bstep low s c).2.length ≤ s.2.length + 1 ∧ ((bstep low s c).1.flatten ++ (bstep low s c).2).length ≤ (s.1.flatten ++ s.2).length + 1 := by
      unfold bstep
      split
      · simp [List.flatten_append]
      · split <;> simp <;> omega
    rw [List.length_cons]
    omega
theorem off_sep {own rest : List (Addr × Obj)} {T D C : Addr} {o : Obj} (h : KdSep own ((C, o) :: rest) [T, D]) (hr : ∀ p ∈ rest, p.1 ≠ C) : OwnOff (rest ++ own) [T, D, C] := fun p hp b hb => by
  rcases List.mem_append.mp hp with hp | hp
  · simp only [List.mem_cons, List.not_mem_nil, or_false] at hb
    rcases hb with rfl | rfl | rfl
    · exact h.three p (.tail _ hp) _ (.head _)
    · exact h.three p (.tail _ hp) _ (.tail _ (.head _))
    · exact hr p hp
  · simp only [List.mem_cons, List.not_mem_nil, or_false] at hb
    rcases hb with rfl | rfl | rfl
    · exact h.one p hp _ (.head _)
    · exact h.one p hp _ (.tail _ (.head _))
    · exact h.two p hp _ (.head _)
theorem app_cur {prog : Program} {w : World} {A : Around} {E : Value → Shared → Prop} {s : Shared} {h₀ : Heap} {L C : Addr} {m : Str → Option Value} {n t d : Addr × Obj} {rest : List (Addr × Obj)} {cvs : List Value} {cn : Nat} {x : Value} {Q : Value → Shared → Prop} (F : Fr h₀ L s.heap m) (N : News h₀ L s.heap (n :: t :: d :: (C, W.listOf cvs.toArray cn) :: rest)) (h1 : n.1 ≠ C) (h2 : t.1 ≠ C) (h3 : d.1 ≠ C) (h4 : ∀ p ∈ rest, p.1 ≠ C) (hz : cvs.length ≤ 1000)
    (h : ∀ h', Fr h₀ L h' m → News h₀ L h' (n :: t :: d :: (C, W.listOf (cvs.toArray.push x) (cn + 1)) :: rest) → Q .none { s with heap := h' }) : wpAny (model prog w) A (call (.builtin "list.append") [.ref C, x]) Q E s :=
  append_K F N (.tail h1 (.tail h2 (.tail h3 (.head h4)))) h (hsz := by rw [PySem.sizeLine_eq, List.size_toArray]; omega)
theorem sep_new {own rest : List (Addr × Obj)} {T D C N : Addr} {o o' oN : Obj} (h : KdSep own ((C, o) :: rest) [T, D]) (hl : T < N ∧ D < N ∧ C < N ∧ AllLt N (rest ++ own)) : KdSep own ((C, o') :: (N, oN) :: rest) [T, D] where
  one := h.one
  two := fun p hp b hb => by
    simp only [List.map_cons, List.mem_cons] at hb
    rcases hb with rfl | rfl | hb
    · exact h.two p hp _ (.head _)
    · exact lt_ne hl.2.2.2 p (List.mem_append.mpr (.inr hp))
    · exact h.two p hp b (.tail _ hb)
  three := fun p hp b hb => by
    rcases List.mem_cons.mp hp with rfl | hp
    · exact h.three (C, o) (.head _) b hb
    · rcases List.mem_cons.mp hp with rfl | hp
      · simp only [List.mem_cons, List.not_mem_nil, or_false] at hb
        rcases hb with rfl | rfl
        · exact Nat.ne_of_gt hl.1
        · exact Nat.ne_of_gt hl.2.1
      · exact h.three p (.tail _ hp) b hb
section
variable {d t c n : Addr × Obj} {rest own : List (Addr × Obj)} {C N T D : Addr} {oN oC : Obj} {tvs cvs : List Value} {cn : Nat} {ts : List (List Deed)} {cur : List Deed}
theorem sc1 : ∀ p ∈ [t] ++ ([d] ++ ([n] ++ (c :: rest))), p ∈ n :: t :: d :: c :: (rest ++ own) := by
  intro p hp; simp only [List.cons_append, List.nil_append, List.mem_cons, List.mem_append] at hp ⊢; grind
theorem sc2 : ∀ p ∈ own, p ∈ n :: t :: d :: c :: (rest ++ own) := by
  intro p hp; simp only [List.cons_append, List.nil_append, List.mem_cons, List.mem_append] at hp ⊢; grind
theorem sc3 : ∀ p ∈ [t] ++ ([d] ++ ([] ++ (c :: n :: rest))), p ∈ n :: t :: d :: c :: (rest ++ own) := by
  intro p hp; simp only [List.cons_append, List.nil_append, List.mem_cons, List.mem_append] at hp ⊢; grind
theorem off_n (h : T < N ∧ D < N ∧ C < N ∧ AllLt N (rest ++ own)) : OwnOff [(N, oN)] [T, D] := fun p hp b hb => by
  rw [List.mem_singleton.mp hp]
  simp only [List.mem_cons, List.not_mem_nil, or_false] at hb
  rcases hb with rfl | rfl
  · exact Nat.ne_of_gt h.1
  · exact Nat.ne_of_gt h.2.1
theorem own_n (h : T < N ∧ D < N ∧ C < N ∧ AllLt N (rest ++ own)) : ∀ q ∈ [(N, oN)], ∀ p ∈ own, p.1 ≠ q.1 := fun q hq p hp => by
  rw [List.mem_singleton.mp hq]
  exact lt_ne h.2.2.2 p (List.mem_append.mpr (.inr hp))
theorem new_txn (h : T < N ∧ D < N ∧ C < N ∧ AllLt N (rest ++ own)) (hDc : DatAll rest cvs (List.map encD cur)) (hDt : DatAll rest tvs (List.map encT ts)) :
    ∃ cvs' cn' rest', (N, W.listOf #[] 0) :: (C, W.listOf cvs.toArray cn) :: rest = (N, W.listOf (List.toArray cvs') cn') :: rest' ∧ (∀ p ∈ rest', p.1 ≠ N) ∧ DatAll rest' cvs' (List.map encD []) ∧ DatAll rest' (tvs ++ [Value.ref C]) (List.map encT (ts ++ [cur])) := by
  refine ⟨[], 0, _, rfl, fun p hp => ?_, .nil, ?_⟩
  · rcases List.mem_cons.mp hp with rfl | hp
    · exact Nat.ne_of_lt h.2.2.1
    · exact lt_ne h.2.2.2 p (List.mem_append.mpr (.inl hp))
  · rw [List.map_append]
    exact DatAll.append (hDt.mono fun _ h => .tail _ h) (DatAll.one (.list (.head _) (hDc.mono fun _ h => .tail _ h)))
theorem new_deed {b : Bool} {k v : Int} {t0 t1 t2 : Tok} {nn : Nat} (h : T < N ∧ D < N ∧ C < N ∧ AllLt N (rest ++ own)) (hrC : ∀ p ∈ rest, p.1 ≠ C) (hDc : DatAll rest cvs (List.map encD cur)) (hDt : DatAll rest tvs (List.map encT ts)) :
    ∃ cvs' cn' rest', (C, W.listOf (cvs ++ [Value.ref N]).toArray cn) :: (N, ({ cls := .type "tuple", data := .seq [Value.str (if b = true then Str.ofString "put" else Str.ofString "del") t0, Value.int k t1, Value.int v t2].toArray nn } : Obj)) :: rest = (C, W.listOf (List.toArray cvs') cn') :: rest' ∧ (∀ p ∈ rest', p.1 ≠ C) ∧ DatAll rest' cvs' (List.map encD (cur ++ [(b, k, v)])) ∧ DatAll rest' tvs (List.map encT ts) := by
  refine ⟨_, _, _, rfl, fun p hp => ?_, ?_, hDt.mono fun _ h => .tail _ h⟩
  · rcases List.mem_cons.mp hp with rfl | hp
    · exact Nat.ne_of_gt h.2.2.1
    · exact hrC p hp
  · rw [List.map_append]
    exact DatAll.append (hDc.mono fun _ h => .tail _ h) (DatAll.one (.tuple (.head _) (.cons (.str _ _) (.cons (.int _ _) (.cons (.int _ _) .nil)))))
end
def Held (low : Int) (tvs : List Value) (ts : List (List Deed)) (NW : List (Addr × Obj)) : Prop :=
  DatAll NW tvs (List.map encT ts) ∧ ts.length ≤ 11 ∧ ts.flatten.length ≤ 10 ∧ ∀ d ∈ ts.flatten, Near low d
def JoinPost (h₀ : Heap) (L : Addr) (m : Str → Option Value) (s : Shared) (T0 : Addr) (low : Int) (f : Flow) (s' : Shared) : Prop :=
  f = .next ∧ ∃ h' tk' tvs tn ts NW, s' = { s with heap := h', toks := tk' } ∧ Fr h₀ L h' m ∧ News h₀ L h' ((T0, W.listOf (List.toArray tvs) tn) :: NW) ∧ Held low tvs ts NW
theorem join_if {prog : Program} {w : World} {A : Around} {E : Value → Shared → Prop} {s : Shared} {h₀ : Heap} {L T0 : Addr} {m : Str → Option Value} {low : Int} {c : Sem Flow} {Q : Flow → Shared → Prop} (F : Fr h₀ L s.heap m) (h1 : wpAny (model prog w) A c (JoinPost h₀ L m s T0 low) E s)
    (h2 : ∀ h' tk' tvs tn ts NW, Fr h₀ L h' m → News h₀ L h' ((T0, W.listOf (List.toArray tvs) tn) :: NW) → Held low tvs ts NW → Q .next { s with heap := h', toks := tk' }) : wpAny (model prog w) A c Q E s :=
  wpAny_mono h1 (fun f s' ⟨e, h', tk', tvs, tn, ts, NW, es, F', N', hH⟩ => by subst e; subst es; exact h2 h' tk' tvs tn ts NW F' N' hH) fun _ _ e => e
theorem near_of {low : Int} {cs : List Int} {k : Nat} {ts : List (List Deed)} {cur : List Deed} (hP : (ts, cur) = (cs.take k).foldl (bstep low) ([], [])) : ∀ d ∈ ts.flatten ++ cur, Near low d := by
  have h := bstep_near low (cs.take k) ([], []) (by intro d hd; simp at hd)
  rw [← hP] at h
  exact h
section
variable {d : Addr × Obj} {rest : List (Addr × Obj)} {C : Addr} {tvs cvs : List Value} {cn : Nat} {ts : List (List Deed)} {cur : List Deed} {low : Int}
theorem held_add (hDc : DatAll rest cvs (List.map encD cur)) (hDt : DatAll rest tvs (List.map encT ts)) (h1 : ts.length ≤ 10) (h2 : ts.flatten.length + cur.length ≤ 10) (hn : ∀ d ∈ ts.flatten ++ cur, Near low d) :
    Held low (tvs ++ [Value.ref C]) (ts ++ [cur]) (d :: (C, W.listOf cvs.toArray cn) :: rest) := by
  have e : (ts ++ [cur]).flatten = ts.flatten ++ cur := by simp
  refine ⟨?_, by rw [List.length_append]; simp; omega, by rw [e, List.length_append]; exact h2, by rw [e]; exact hn⟩
  rw [List.map_append]
  exact DatAll.append (hDt.mono fun _ h => .tail _ (.tail _ h)) (DatAll.one (.list (.tail _ (.head _)) (hDc.mono fun _ h => .tail _ (.tail _ h))))
theorem held_same {c : Addr × Obj} (hDt : DatAll rest tvs (List.map encT ts)) (h1 : ts.length ≤ 10) (h2 : ts.flatten.length + cur.length ≤ 10) (hn : ∀ d ∈ ts.flatten ++ cur, Near low d) :
    Held low tvs ts (d :: c :: rest) :=
  ⟨hDt.mono fun _ h => .tail _ (.tail _ h), by omega, by omega, fun x hx => hn x (List.mem_append.mpr (.inl hx))⟩
end
theorem cnt_bounds (c : Int) (n : Nat) : 0 ≤ c.fmod ((n : Int) + 1) ∧ c.fmod ((n : Int) + 1) ≤ (n : Int) := by
  rw [Int.fmod_eq_emod_of_nonneg c (show (0 : Int) ≤ (n : Int) + 1 by omega)]
  have h1 := Int.emod_nonneg c (show ((n : Int) + 1) ≠ 0 by omega)
  have h2 := Int.emod_lt_of_pos c (show (0 : Int) < (n : Int) + 1 by omega)
  omega
section
variable {x y q : Addr × Obj} {NW base tl own tl2 own2 tl3 : List (Addr × Obj)} {X Y W' : Addr} {o o2 : Obj}
theorem wa1 : ∀ p ∈ [] ++ ((x :: y :: base) ++ ([] ++ tl)), p ∈ x :: y :: (base ++ (tl ++ own)) := by
  intro p hp; simp only [List.cons_append, List.nil_append, List.mem_cons, List.mem_append] at hp ⊢; grind
theorem wa2 : ∀ p ∈ own, p ∈ x :: y :: (base ++ (tl ++ own)) := by
  intro p hp; simp only [List.cons_append, List.nil_append, List.mem_cons, List.mem_append] at hp ⊢; grind
theorem wa3 : ∀ p ∈ [] ++ ((x :: y :: base) ++ ([] ++ tl)), p ∈ x :: y :: (base ++ (tl ++ own) ++ tl3) := by
  intro p hp; simp only [List.cons_append, List.nil_append, List.mem_cons, List.mem_append] at hp ⊢; grind
theorem wa4 : ∀ p ∈ own, p ∈ x :: y :: (base ++ (tl ++ own) ++ tl3) := by
  intro p hp; simp only [List.cons_append, List.nil_append, List.mem_cons, List.mem_append] at hp ⊢; grind
theorem wa5 : ∀ p ∈ [y] ++ (NW ++ ([] ++ tl)), p ∈ x :: y :: (NW ++ (tl ++ own) ++ tl2) := by
  intro p hp; simp only [List.cons_append, List.nil_append, List.mem_cons, List.mem_append] at hp ⊢; grind
theorem wa6 : ∀ p ∈ own, p ∈ x :: y :: (NW ++ (tl ++ own) ++ tl2) := by
  intro p hp; simp only [List.cons_append, List.nil_append, List.mem_cons, List.mem_append] at hp ⊢; grind
theorem wa7 : ∀ p ∈ [y] ++ (NW ++ ([q] ++ tl)), p ∈ q :: x :: y :: (NW ++ (tl ++ own) ++ tl2) := by
  intro p hp; simp only [List.cons_append, List.nil_append, List.mem_cons, List.mem_append] at hp ⊢; grind
theorem wa8 : ∀ p ∈ own, p ∈ q :: x :: y :: (NW ++ (tl ++ own) ++ tl2) := by
  intro p hp; simp only [List.cons_append, List.nil_append, List.mem_cons, List.mem_append] at hp ⊢; grind
theorem wb1 (h : X < Y ∧ W' < Y ∧ AllLt Y (NW ++ (tl ++ own) ++ tl2)) : OwnOff [(Y, o)] (W' :: List.map Prod.fst NW) := fun p hp b hb => by
  rw [List.mem_singleton.mp hp]
  rcases List.mem_cons.mp hb with rfl | hb
  · exact Nat.ne_of_gt h.2.1
  · obtain ⟨r, hr, rfl⟩ := List.mem_map.mp hb
    exact fun z => lt_ne h.2.2 r (List.mem_append.mpr (.inl (List.mem_append.mpr (.inl hr)))) z.symm
theorem wb2 (h : X < Y ∧ W' < Y ∧ AllLt Y (NW ++ (tl ++ own) ++ tl2)) : ∀ q ∈ [(Y, o)], ∀ p ∈ own, p.1 ≠ q.1 := fun q hq p hp => by
  rw [List.mem_singleton.mp hq]
  exact lt_ne h.2.2 p (List.mem_append.mpr (.inl (List.mem_append.mpr (.inr (List.mem_append.mpr (.inr hp))))))
theorem wb3 (h1 : AllLt W' NW) (h2 : KdSep own tl (W' :: List.map Prod.fst NW)) (h3 : OwnOff tl2 (X :: W' :: List.map Prod.fst (NW ++ (tl ++ own)))) : ∀ p ∈ NW ++ (tl ++ own) ++ tl2, p.1 ≠ W' := fun p hp => by
  rcases List.mem_append.mp hp with hp | hp
  · rcases List.mem_append.mp hp with hp | hp
    · exact lt_ne h1 p hp
    · rcases List.mem_append.mp hp with hp | hp
      · exact h2.three p hp _ (.head _)
      · exact h2.one p hp _ (.head _)
  · exact h3 p hp _ (.tail _ (.head _))
theorem want_put {wvs : List Value} {wl : List (Int × Int)} {k v : Int} {t1 t2 : Tok} {n : Nat} (h : DatAll tl wvs (List.map encP wl)) : DatAll ([(Y, ({ cls := .type "tuple", data := .seq [Value.int k t1, Value.int v t2].toArray n } : Obj))] ++ tl) (wvs ++ [Value.ref Y]) (List.map encP (wl ++ [(k, v)])) := by
  rw [List.map_append]
  exact DatAll.append (h.mono fun _ h => .tail _ h) (DatAll.one (.tuple (.head _) (.cons (.int _ _) (.cons (.int _ _) .nil))))
end
theorem app_want {prog : Program} {w : World} {A : Around} {E : Value → Shared → Prop} {s : Shared} {h₀ : Heap} {L C : Addr} {m : Str → Option Value} {n t : Addr × Obj} {rest : List (Addr × Obj)} {cvs : List Value} {cn : Nat} {x : Value} {Q : Value → Shared → Prop} (F : Fr h₀ L s.heap m) (N : News h₀ L s.heap (n :: t :: (C, W.listOf cvs.toArray cn) :: rest)) (h1 : n.1 ≠ C) (h2 : t.1 ≠ C) (h4 : ∀ p ∈ rest, p.1 ≠ C) (hz : cvs.length ≤ 1000)
    (h : ∀ h', Fr h₀ L h' m → News h₀ L h' (n :: t :: (C, W.listOf (cvs.toArray.push x) (cn + 1)) :: rest) → Q .none { s with heap := h' }) : wpAny (model prog w) A (call (.builtin "list.append") [.ref C, x]) Q E s :=
  append_K F N (.tail h1 (.tail h2 (.head h4))) h (hsz := by rw [PySem.sizeLine_eq, List.size_toArray]; omega)
theorem last_step {k : Int} {ts : List (List Deed)} {c j : Nat} (h : j < (ts.take c).length) : ((ts.take c).take (j + 1)).flatten.foldl (upd k) (false, k, 0) = (ts.take c)[j].foldl (upd k) (((ts.take c).take j).flatten.foldl (upd k) (false, k, 0)) := by
  rw [List.take_add_one, List.getElem?_eq_getElem h, List.flatten_append, List.foldl_append]; simp
theorem want_step {low : Int} {ds : List Deed} {i : Nat} {b : Bool} {k v : Int} (h : (b, k, v) = lastOf (low + (i : Int)) ds) : wantL low ds (i + 1) = wantL low ds i ++ (if b = true then [(low + (i : Int), v)] else []) := by
  rw [wantL, ← h]
  cases b <;> rfl
theorem ka1 {i c d b : Addr × Obj} {l : List (Addr × Obj)} : ∀ p ∈ i :: c :: d :: b :: l, p ∈ b :: i :: c :: d :: l := by
  intro p hp; simp only [List.mem_cons] at hp ⊢; grind
theorem ka2 {I C D b : Addr} {o : Obj} {l : List (Addr × Obj)} (h : I < b ∧ C < b ∧ D < b ∧ AllLt b l) (off : LCg.Off3 I C D l) : LCg.Off3 I C D ((b, o) :: l) :=
  ⟨⟨Nat.ne_of_gt h.1, Nat.ne_of_gt h.2.1, Nat.ne_of_gt h.2.2.1⟩, off⟩
theorem take_same (ts : List (List Deed)) (n : Nat) : (ts.take n).take n = ts.take n := by rw [List.take_take, Nat.min_self]
theorem datL {news : List (Addr × Obj)} {v : Value} {ds : List Dat} (h : DatIn news v (.list ds)) : ∃ (a : Addr) (vs : List Value) (n : Nat), v = .ref a ∧ (a, W.listOf vs.toArray n) ∈ news ∧ DatAll news vs ds := by
  cases h with
  | list hm r => exact ⟨_, _, _, rfl, hm, r⟩
end Mine
open Mine
local macro_rules | `(tactic| walk_at $s:str) => `(tactic| k_extra $s)
local macro_rules | `(tactic| walk_at "exec For Name Call cons nil") => `(tactic| ((rename Fr _ _ _ _ => lF9); (with_unfolding_all refine' For_invVF lF9 ?zk1 ?zk2 ?_; (case zk1 => exact rfl); (case zk2 => exact rfl))))
set_option maxRecDepth 100000 in
set_option maxHeartbeats 4000000 in
theorem PySem.Challenge.cw_k14_0011_holds : PySem.Challenge.rw_k14_0011.Holds := by
  refine Mine.hd ?_
  k_with_none
  k_with "call ref" => k_call_by "_law_cell" (fun (ns : List Int) (i : Int) => cellAt ns i 0) (fun (_ : List Int) (i : Int) => 0 ≤ i)
  k_with "tree" => cell_eq
  k_with "pyIter ref" => fail "none"
  k_with "call builtin:len" => (k_dflt (refine' len_led ?yN ?ym ?yz ?_; (case yN => k_asm); (case ym => first | exact .head _ | exact .tail _ (.tail _ (.head _))); (case yz => omega)))
  (k_go0; (all_goals try k_fold))
  iterate 38 (first | walk1 | (dsimp only; walk1) | skip)
  rename_i ns q30 q31 q32 q33 q34 q35 q36 sl svs q39 q40 q41 q42 q43 hIs q45 h63 q47 q48 q49 q50 q51 q52 q54 q55 q56 q59 T0 q61 q62 q63 q64 C0 q66 lC q68 D ws h5 F5 N5 hI5 hC5 hL5 l5
  generalize hcs : List.take (min 12 ns.length - 2) (List.drop 2 ns) = cs at hI5 hC5 hL5
  have hcl : cs.length ≤ 10 := by omega
  refine iter_t (σ := (List Value × Nat) × (Addr × (List (List Deed) × List Deed))) (vs := ws) (nn := 0) (fun c => [(T0, W.listOf c.1.1.toArray c.1.2)]) [(D, W.listOf ws.toArray 0)] (fun c => [(Str.ofString "current", Value.ref c.2.1)]) (fun tl c => ∃ cvs cn rest, tl = (c.2.1, W.listOf (List.toArray cvs) cn) :: rest ∧ (∀ p ∈ rest, p.1 ≠ c.2.1) ∧ DatAll rest cvs (List.map encD c.2.2.2) ∧ DatAll rest c.1.1 (List.map encT c.2.2.1)) [Str.ofString "key", Str.ofString "kind"] (fun i c => c.2.2 = (cs.take i).foldl (bstep (cellAt ns 0 0)) ([], [])) [T0, D] (([], 0), (C0, ([], []))) [(C0, W.listOf #[] 0)] (by rfl) (.head _) F5 N5 (by intro p hp; simp at hp ⊢; grind) (fun _ => rfl) (by intro p hp b hb; simp at hp hb; subst hp; rcases hb with rfl | rfl <;> (show (_ : Nat) ≠ _; omega)) ⟨[], 0, [], rfl, (fun _ h => nomatch h), DatAll.nil, DatAll.nil⟩ (by kst_all) rfl ?_ ?_
  · skip
    intro i v c tl u h tk own hv hsep hR hP F6 N6
    obtain ⟨⟨tvs, tn⟩, C, ts, cur⟩ := c
    obtain ⟨cvs, cn, rest, rfl, hrC, hDc, hDt⟩ := hR
    dsimp only at hP N6 F6 hDc hDt hrC
    dsimp only [kstB] at F6
    simp only [List.cons_append, List.nil_append] at N6
    have hwl := hI5.length
    have hi : i < cs.length := by rw [← hwl]; exact (List.getElem?_eq_some_iff.mp hv).1
    obtain ⟨t9, hx⟩ := hI5.get i cs[i] (List.getElem?_eq_getElem hi)
    have ev : v = .int cs[i] t9 := by rw [hx] at hv; exact (Option.some.inj hv).symm
    subst ev
    have hstep : (cs.take (i + 1)).foldl (bstep (cellAt ns 0 0)) ([], []) = bstep (cellAt ns 0 0) (ts, cur) cs[i] := by
      rw [List.take_add_one, List.getElem?_eq_getElem hi, List.foldl_append, ← hP]; rfl
    have hbl := bstep_len (cellAt ns 0 0) (cs.take i) ([], [])
    rw [← hP, List.length_take] at hbl
    have hcv := hDc.length
    have htv := hDt.length
    rw [List.length_map] at hcv htv
    have hcv2 : cvs.length ≤ 10 := by have := hbl.2.1; simp at this; omega
    have htv2 : tvs.length ≤ 10 := by have := hbl.1; simp at this; omega
    generalize cs[i] = c9 at hstep F6 hv hx
    have hCT : @Ne Nat C T0 := hsep.three _ (.head _) T0 (.head _)
    have hCD : @Ne Nat C D := hsep.three _ (.head _) D (.tail _ (.head _))
    have kO4 : OwnOff (rest ++ own) [T0, D, C] := off_sep hsep hrC
    have kMk := kdMark
    have kMk2 := kstMark
    have hOC : ∀ p ∈ rest ++ own, p.1 ≠ C := fun p hp => kO4 p hp C (.tail _ (.tail _ (.head _)))
    k_with "call builtin:list.append" => (k_dflt (refine' app_cur ?zF ?zN ?z1 ?z2 ?z3 ?z4 ?z5 ?_; (case zF => k_asm); (case zN => k_asm); (case z1 => k_ne); (case z2 => k_ne); (case z3 => k_ne); (case z4 => exact hOC); (case z5 => omega)); intro h' F' N'; (try k_sweep))
    (try k_fold)
    k_steps
    all_goals ((rename News _ _ _ _ => nE); (try simp only [List.push_toArray] at nE); (rename (T0 < _ ∧ _) => hlt))
    · exact iter_end ((tvs ++ [Value.ref C], tn + 1), (_, (ts ++ [cur], []))) [_] hsep (by k_asm) nE sc1 sc2 rfl (off_n hlt) (own_n hlt) (by kst_all) (by kst_same) (new_txn hlt hDc hDt) (by rw [hstep]; simp [bstep, *])
    · exact iter_end ((tvs, tn), (C, (ts, cur ++ [(false, cellAt ns 0 0 + c9.fmod 4, 0)]))) [] (sep_new hsep hlt) (by k_asm) nE sc3 sc2 rfl (fun _ h => nomatch h) (fun _ h => nomatch h) (by kst_all) (by kst_same) (new_deed (b := false) hlt hrC hDc hDt) (by rw [hstep]; simp [bstep, *])
    · exact iter_end ((tvs, tn), (C, (ts, cur ++ [(true, cellAt ns 0 0 + c9.fmod 4, c9 - 3)]))) [] (sep_new hsep hlt) (by k_asm) nE sc3 sc2 rfl (fun _ h => nomatch h) (fun _ h => nomatch h) (by kst_all) (by kst_same) (new_deed (b := true) hlt hrC hDc hDt) (by rw [hstep]; simp [bstep, *])
  · intro c tl u h tk hoff hR hP F6 N6
    obtain ⟨⟨tvs, tn⟩, C, ts, cur⟩ := c
    obtain ⟨cvs, cn, rest, rfl, hrC, hDc, hDt⟩ := hR
    dsimp only at hP N6 F6 hDc hDt hrC
    dsimp only [kstB] at F6
    simp only [List.cons_append, List.nil_append] at N6
    have hcv := hDc.length
    have htv := hDt.length
    rw [List.length_map] at hcv htv
    have hbl := bstep_len (cellAt ns 0 0) (cs.take ws.length) ([], [])
    rw [← hP, List.length_take] at hbl
    have hcv2 : cvs.length ≤ 10 := by have := hbl.2.1; simp at this; omega
    have htv2 : tvs.length ≤ 10 := by have := hbl.1; simp at this; omega
    have htl : ts.length ≤ 10 := by omega
    have hfl : ts.flatten.length + cur.length ≤ 10 := by have := hbl.2.2; rw [List.length_append] at this; simp at this ⊢; omega
    have hnr := near_of hP
    have hCT : @Ne Nat C T0 := hoff _ (.head _) T0 (.head _)
    have hCD : @Ne Nat C D := hoff _ (.head _) D (.tail _ (.head _))
    have kO4 : OwnOff rest [T0, D, C] := fun p hp b hb => by
      simp only [List.mem_cons, List.not_mem_nil, or_false] at hb
      rcases hb with rfl | rfl | rfl
      · exact hoff p (.tail _ hp) _ (.head _)
      · exact hoff p (.tail _ hp) _ (.tail _ (.head _))
      · exact hrC p hp
    have kMk := kdMark
    have kMk2 := kstMark
    clear F5 N5
    (try k_unfold)
    (try dsimp only)
    (with_reducible change wpAny _ _ _ _ _ _)
    (try k_fold)
    walk1
    refine join_if (T0 := T0) (low := cellAt ns 0 0) F6 ?_ ?_
    · skip
      k_steps
      all_goals ((rename News _ _ _ _ => nE); (try simp only [List.push_toArray] at nE))
      · exact ⟨rfl, _, _, _, _, _, _, rfl, by k_asm, nE, held_add hDc hDt htl hfl hnr⟩
      · exact ⟨rfl, _, _, _, _, _, _, rfl, by k_asm, nE, held_same hDt htl hfl hnr⟩
    clear hnr hfl htl hcv2 htv2 hbl hcv htv kO4 hCT hCD hP hDc hDt hrC hoff F6 N6
    intro h7 tk7 tvs tn ts NW F7 N7 hH
    obtain ⟨hDt, htl, hfl, hnr⟩ := hH
    have htv := hDt.length
    rw [List.length_map] at htv
    (try k_unfold)
    (try dsimp only)
    (with_reducible change wpAny _ _ _ _ _ _)
    (try k_fold)
    repeat (first | ((fail_if_success (with_reducible show wpAny _ _ (exec (Stmt.Assign _ (PySem.Expr.ListComp _ _ _ _) _) _) _ _ _)); (first | (k_unfold; (try dsimp only)) | walk1 | (dsimp only; walk1))))
    (rename Fr _ _ _ _ => F8c)
    generalize hcnt : (cellAt ns 1 0).fmod ((tvs.length : Int) + 1) = cnt at F8c
    have hc0 : 0 ≤ cnt := by rw [← hcnt]; exact (cnt_bounds _ _).1
    have hc1 : cnt ≤ (ts.length : Int) := by have := (cnt_bounds (cellAt ns 1 0) tvs.length).2; rw [hcnt] at this; omega
    k_dflt (refine LCg.Assign_ListComp_U (F₀ := by k_asm) (by rfl) (by with_unfolding_all rfl) (by rfl) (by decide) (by rfl) (by decide) (by rfl) (by rfl) (by rfl) ?_)
    walk1
    k_dflt (refine LCg.CompSrc.ledger (by rfl) (by k_asm) (by k_asm) (.head _) (by rw [List.size_toArray, PySem.sizeLine_eq]; omega) ?_)
    intro g9
    refine kc_rest hDt (fun _ h => .tail _ h) (flat_each hfl) ?_ ?_
    · skip
      intro a vs n I oI C9 oC D9 m₂ ys h9 tk9 add E' hmem hvl hC hx F9 N9 off ne
      have hmem4 : (a, W.listOf (List.toArray vs) n) ∈ (I, oI) :: (C9, oC) :: (D9, LCg.lst ys) :: (add ++ (T0, W.listOf (List.toArray tvs) tn) :: NW) := .tail _ (.tail _ (.tail _ (List.mem_append.mpr (.inr hmem))))
      k_with "call type:list" => (k_dflt (refine' list_copyK ?yF ?yN ?yl ?_ ?yz; (case yF => k_asm); (case yN => k_asm); (case yl => exact ⟨_, (N9 _ hmem4).1, rfl, n, rfl⟩); (case yz => (rw [PySem.sizeLine_eq, List.size_toArray]; omega))); intro D' c' h' F' N' l1; (try k_lt l1))
      k_steps
      (rename News _ _ _ _ => nE)
      (rename _ ∧ _ => hlt)
      refine LCg.CompEnd.intro (by assumption) nE (_ :: (add ++ (T0, W.listOf (List.toArray tvs) tn) :: NW)) ka1 (ka2 hlt off) ?_ ?_
      · exact Or.inr ⟨_, .tail _ (List.mem_append.mpr (.inr (.head _))), rfl, _, rfl⟩
      · exact ⟨_, _, rfl, rfl, fun p hp => lt_ne hlt.2.2.2 p hp⟩
    intro ys add hoff9 hDk
    unfold LCg.FinA
    intro Kp h8 tk8 F8 N8 o8
    have hT2 : (T0, W.listOf (List.toArray tvs) tn) ∈ (Kp, LCg.lst ys) :: (add ++ (T0, W.listOf (List.toArray tvs) tn) :: NW) := .tail _ (List.mem_append.mpr (.inr (.head _)))
    have hK2 : (Kp, W.listOf (List.toArray ys) ys.length) ∈ (Kp, LCg.lst ys) :: (add ++ (T0, W.listOf (List.toArray tvs) tn) :: NW) := .head _
    have hDt2 : DatAll ((Kp, LCg.lst ys) :: (add ++ (T0, W.listOf (List.toArray tvs) tn) :: NW)) tvs (List.map encT ts) := hDt.mono fun _ h => .tail _ (List.mem_append.mpr (.inr (.tail _ h)))
    have hDk2 : DatAll ((Kp, LCg.lst ys) :: (add ++ (T0, W.listOf (List.toArray tvs) tn) :: NW)) ys (List.map encT ts) := hDk.mono fun _ h => (List.mem_append.mp h).elim (fun h => .tail _ (List.mem_append.mpr (.inr (.tail _ h)))) fun h => .tail _ (List.mem_append.mpr (.inl h))
    generalize (Kp, LCg.lst ys) :: (add ++ (T0, W.listOf (List.toArray tvs) tn) :: NW) = NW2 at N8 hT2 hK2 hDt2 hDk2
    have hyl := hDk2.length
    rw [List.length_map] at hyl
    clear o8 hDk hoff9 hDt
    (try k_sweep)
    (try k_unfold)
    (try dsimp only)
    (with_reducible change wpAny _ _ _ _ _ _)
    (try k_fold)
    -- want = []
    repeat (first | ((fail_if_success (with_reducible show wpAny _ _ (pyIter (Value.ref _)) _ _ _)); (first | walk1 | (dsimp only; walk1))))
    rename_i Wt hA lW hB FB NB hC tkC t1 u1 v1 hrg F9 N9 hkeep
    clear FB NB hkeep
    have lW' := allLt_of lW
    have hct : cnt.toNat ≤ ts.length := by omega
    refine iter_r (σ := (List Value × Nat) × List (Int × Int)) 4 (fun c => [(Wt, W.listOf c.1.1.toArray c.1.2)]) NW2 (fun _ => []) (fun tl c => DatAll tl c.1.1 (List.map encP c.2)) [Str.ofString "last", Str.ofString "j", Str.ofString "d"] (fun i c => c.2 = wantL (cellAt ns 0 0) (ts.take cnt.toNat).flatten i) (Wt :: List.map Prod.fst NW2) (([], 0), []) (by rfl) hrg (by decide) (by rfl) F9 N9 (fun _ h => h) (fun _ => rfl) DatAll.nil (by kst_all) rfl ?_ ?_
    · skip
      intro i t9 c tl u h tkq own hi hsep hR hP F10 N10
      obtain ⟨⟨wvs, wn⟩, wl⟩ := c
      dsimp only at hR hP N10 F10
      dsimp only [kstB] at F10
      simp only [List.cons_append, List.nil_append] at N10
      have hwv := hR.length
      rw [List.length_map] at hwv
      have hwl := wantL_len (cellAt ns 0 0) (ts.take cnt.toNat).flatten i
      rw [← hP] at hwl
      clear F9 N9
      (try k_fold)
      repeat (first | ((fail_if_success (with_reducible show wpAny _ _ (pyIter (Value.ref _)) _ _ _)); (first | (k_unfold; (try dsimp only)) | walk1 | (dsimp only; walk1))))
      rename_i X hX1 FX NX lX' hX2 FY NY hX3 tkX t2 u2 v2 hrg2 F11 N11 hkeep2
      clear FX NX FY NY hkeep2
      obtain ⟨oX, eX, hDX⟩ : ∃ o : Obj, o = { cls := Value.type "tuple", data := Data.seq #[Value.str (Str.ofString "del") tkq, Value.int (cellAt ns 0 0 + (i : Int)) (tkq + 1), Value.int 0 (tkq + 1 + 1)] } ∧ DatIn ((X, o) :: NW2) (Value.ref X) (encD (false, cellAt ns 0 0 + (i : Int), 0)) := ⟨_, rfl, .tuple (.head _) (.cons (.str _ _) (.cons (.int _ _) (.cons (.int _ _) .nil)))⟩
      rw [← eX] at N11
      refine iter_r (σ := Value × Deed) cnt.toNat (fun _ => []) ((X, oX) :: (Wt, W.listOf wvs.toArray wn) :: (NW2 ++ (tl ++ own))) (fun c => [(Str.ofString "last", c.1)]) (fun _ c => DatIn ((X, oX) :: NW2) c.1 (encD c.2)) [Str.ofString "d"] (fun j c => c.2 = ((ts.take cnt.toNat).take j).flatten.foldl (upd (cellAt ns 0 0 + (i : Int))) (false, cellAt ns 0 0 + (i : Int), 0)) (X :: Wt :: List.map Prod.fst (NW2 ++ (tl ++ own))) (Value.ref X, (false, cellAt ns 0 0 + (i : Int), 0)) (by rfl) hrg2 (small_one (by omega) (by omega) (by omega) (by omega)) (by rw [rangeSize_nat]; omega) F11 N11 (fun _ h => h) (fun _ => rfl) hDX (by kst_all) rfl ?_ ?_
      · skip
        intro j t10 c2 tl2 u2 h2 tk2 own2 hj hsep2 hR2 hP2 F12 N12
        obtain ⟨lv, ld⟩ := c2
        dsimp only at hR2 hP2 N12 F12
        dsimp only [kstB] at F12
        simp only [List.cons_append, List.nil_append] at N12
        have hjt : j < (ts.take cnt.toNat).length := by rw [List.length_take]; omega
        have hjs : j < ts.length := by omega
        obtain ⟨v', hv', hDj⟩ := hDk2.get (k := j) (by rw [List.length_map]; exact hjs)
        rw [List.getElem_map] at hDj
        have hstep := last_step (k := cellAt ns 0 0 + (i : Int)) hjt
        rw [← hP2, List.getElem_take] at hstep
        generalize ts[j] = tj at hDj hstep
        obtain ⟨b9, vs9, n9, rfl, hb9, hDb9⟩ := datT hDj
        have hm9 : (Kp, W.listOf (List.toArray ys) ys.length) ∈ (X, oX) :: (Wt, W.listOf wvs.toArray wn) :: (NW2 ++ (tl ++ own) ++ (tl2 ++ own2)) := .tail _ (.tail _ (List.mem_append.mpr (.inl (List.mem_append.mpr (.inl hK2)))))
        k_with "subscriptTail" => (k_dflt (refine' item_led ?yN ?ym ?yi ?yf ?_ ?ys; (case yN => k_asm); (case ym => exact hm9); (case yi => exact hv'); (case yf => omega); (case ys => with_unfolding_all rfl)))
        clear F11 N11
        (try k_fold)
        repeat (first | ((fail_if_success (with_reducible show wpAny _ _ (pyIter (Value.ref _)) _ _ _)); (first | (k_unfold; (try dsimp only)) | walk1 | (dsimp only; walk1))))
        refine iter_l (σ := Value × Deed) (vs := vs9) (nn := n9) (fun _ => []) ((X, oX) :: (Wt, W.listOf wvs.toArray wn) :: (NW2 ++ (tl ++ own) ++ (tl2 ++ own2))) (fun c => [(Str.ofString "last", c.1)]) (fun _ c => DatIn ((X, oX) :: NW2) c.1 (encD c.2)) [] (fun e c => c.2 = (tj.take e).foldl (upd (cellAt ns 0 0 + (i : Int))) ld) (X :: Wt :: List.map Prod.fst (NW2 ++ (tl ++ own) ++ (tl2 ++ own2))) (lv, ld) (by rfl) (.tail _ (.tail _ (List.mem_append.mpr (.inl (List.mem_append.mpr (.inl hb9)))))) (by k_asm) (by k_asm) (fun _ h => h) (fun _ => rfl) hR2 (by kst_all) rfl ?_ ?_
        · skip
          intro e v3 c3 tl3 u3 h3 tk3 own3 hv3 hsep3 hR3 hP3 F13 N13
          obtain ⟨lv3, ld3⟩ := c3
          dsimp only at hR3 hP3 N13 F13
          dsimp only [kstB] at F13
          simp only [List.cons_append, List.nil_append] at N13
          have he : e < tj.length := by
            have h1 := (List.getElem?_eq_some_iff.mp hv3).1
            have h2 := hDb9.length
            rw [List.length_map] at h2
            omega
          obtain ⟨v4, hv4, hDe⟩ := hDb9.get (k := e) (by rw [List.length_map]; exact he)
          have ev2 : v4 = v3 := by rw [hv3] at hv4; exact (Option.some.inj hv4).symm
          subst ev2
          rw [List.getElem_map] at hDe
          have hstep3 : (tj.take (e + 1)).foldl (upd (cellAt ns 0 0 + (i : Int))) ld = upd (cellAt ns 0 0 + (i : Int)) ld3 tj[e] := by
            rw [List.take_add_one, List.getElem?_eq_getElem he, List.foldl_append, ← hP3]; rfl
          generalize tj[e] = dd at hDe hstep3
          obtain ⟨bb, kk, vv⟩ := dd
          obtain ⟨a10, s0, s1, s2, nn, rfl, hm2⟩ := datD hDe
          dsimp only at hm2
          have hm2' : (a10, _) ∈ NW2 := hm2
          (try k_fold)
          k_steps
          all_goals (rename News _ _ _ _ => nE)
          · exact iter_end (Value.ref a10, (bb, kk, vv)) [] hsep3 (by k_asm) nE wa1 wa2 rfl (fun _ h => nomatch h) (fun _ h => nomatch h) (by kst_all) (by kst_same) (hDe.mono fun _ h => .tail _ h) (by rw [hstep3]; simp [upd, *])
          · exact iter_end (lv3, ld3) [] hsep3 (by k_asm) nE wa1 wa2 rfl (fun _ h => nomatch h) (fun _ h => nomatch h) (by kst_all) (by kst_same) hR3 (by rw [hstep3]; simp [upd, *])
        · skip
          intro c3 tl3 u3 h3 tk3 hoff3 hR3 hP3 F13 N13
          obtain ⟨lv3, ld3⟩ := c3
          dsimp only at hR3 hP3 N13 F13
          dsimp only [kstB] at F13
          simp only [List.cons_append, List.nil_append] at N13
          (try k_fold)
          k_steps
          exact iter_end (lv3, ld3) [] hsep2 (by k_asm) (by k_asm) wa3 wa4 rfl (fun _ h => nomatch h) (fun _ h => nomatch h) (by kst_all) (by kst_same) hR3 (by rw [hstep, hP3, List.take_of_length_le (by rw [hDb9.length, List.length_map]; exact Nat.le_refl _)])
      · skip
        intro c2 tl2 u2 h2 tk2 hoff2 hR2 hP2 F12 N12
        obtain ⟨lv, ld⟩ := c2
        dsimp only at hR2 hP2 N12 F12
        dsimp only [kstB] at F12
        simp only [List.cons_append, List.nil_append] at N12
        rw [take_same] at hP2
        obtain ⟨bb, kk, vv⟩ := ld
        have hws := want_step (low := cellAt ns 0 0) (ds := (ts.take cnt.toNat).flatten) (i := i) hP2
        obtain ⟨a10, s0, s1, s2, nn, rfl, hm2⟩ := datD hR2
        dsimp only at hm2
        have hOW := wb3 lW' hsep hoff2
        have hWX : @Ne Nat X Wt := Nat.ne_of_gt lX'.1
        k_with "call builtin:list.append" => (k_dflt (refine' app_want ?zF ?zN ?z1 ?z2 ?z4 ?z5 ?_; (case zF => k_asm); (case zN => k_asm); (case z1 => k_ne); (case z2 => exact hWX); (case z4 => exact hOW); (case z5 => omega)); intro h' F' N'; (try k_sweep))
        have hm4 : (a10, _) ∈ (X, oX) :: (Wt, W.listOf wvs.toArray wn) :: (NW2 ++ (tl ++ own) ++ tl2) := (List.mem_cons.mp hm2).elim (fun h => h ▸ .head _) fun h => .tail _ (.tail _ (List.mem_append.mpr (.inl (List.mem_append.mpr (.inl h)))))
        clear hm2
        cases bb
        all_goals (simp only [Bool.false_eq_true, if_false, if_true] at hm4 hws; (try k_fold); k_steps)
        all_goals ((rename News _ _ _ _ => nE); (try simp only [List.push_toArray] at nE))
        · exact iter_end ((wvs, wn), wl) [] hsep (by k_asm) nE wa5 wa6 rfl (fun _ h => nomatch h) (fun _ h => nomatch h) (by kst_all) (by kst_same) hR (by rw [hws, ← hP, List.append_nil])
        · exact iter_end ((_, wn + 1), wl ++ [(cellAt ns 0 0 + (i : Int), vv)]) [_] hsep (by k_asm) nE wa7 wa8 rfl (wb1 (by assumption)) (wb2 (by assumption)) (by kst_all) (by kst_same) (want_put hR) (by rw [hws, ← hP])
    · skip
      intro c tl u h tk hoff hR hP F10 N10
      obtain ⟨⟨wvs, wn⟩, wl⟩ := c
      dsimp only at hR hP N10 F10
      dsimp only [kstB] at F10
      simp only [List.cons_append, List.nil_append] at N10
      rw [← want_four _ _ (take_near hnr _)] at hP
      subst hP
      clear F9 N9
      (try k_fold)
      repeat (first | ((fail_if_success (with_reducible show wpAny _ _ (call (Value.ref _) _) _ _ _)); (first | (k_unfold; (try dsimp only)) | walk1 | (dsimp only; walk1))))
      k_dflt (refine' after_use hDt2 ?yl ?ysub ?yc ?yul ?yfl ?yk1 ?yk2 ?yk3 ?yk4 ?yk5 ?yk6 ?yd ?yu ?_)
      case yk1 => k_asm
      case yk2 => k_asm
      case yk3 => k_asm
      case yk4 => k_asm
      case yk5 => k_asm
      case yk6 => first | exact rfl | assumption
      case yl => exact .tail _ (List.mem_append.mpr (.inl hT2))
      case ysub => exact fun _ h => .tail _ (List.mem_append.mpr (.inl h))
      case yc => exact hc0
      case yul => omega
      case yfl => omega
      case yd => ktr_room
      case yu => ktr_units
      intro r9 tl9 h9 tk9 F9' N9' off9 hD9
      obtain ⟨g, gvs, gn, rfl, hg, hDg⟩ := datL hD9
      have hIn9 : ∀ p ∈ tl9, p ∈ (Wt, W.listOf (List.toArray wvs) wn) :: (NW2 ++ tl) ++ tl9 := fun _ h => List.mem_append.mpr (.inr h)
      have hW9 : (Wt, W.listOf (List.toArray wvs) wn) ∈ (Wt, W.listOf (List.toArray wvs) wn) :: (NW2 ++ tl) ++ tl9 := List.mem_append.mpr (.inl (.head _))
      have htl9 : ∀ p ∈ tl, p ∈ (Wt, W.listOf (List.toArray wvs) wn) :: (NW2 ++ tl) ++ tl9 := fun _ h => List.mem_append.mpr (.inl (.tail _ (List.mem_append.mpr (.inr h))))
      have hNW9 : ∀ p ∈ NW2, p ∈ (Wt, W.listOf (List.toArray wvs) wn) :: (NW2 ++ tl) ++ tl9 := fun _ h => List.mem_append.mpr (.inl (.tail _ (List.mem_append.mpr (.inl h))))
      k_with "compareOp NotEq ref ref" => (k_dflt (first | (refine' ne_same ?xN (hIn9 _ hg) hDg hIn9 hW9 hR htl9 (okP _) ?xu ?_; (case xN => k_asm); (case xu => ke_room)) | (refine' ne_same ?xN (hNW9 _ hT2) hDt2 hNW9 (hNW9 _ hK2) hDk2 hNW9 (okT _) ?xu ?_; (case xN => k_asm); (case xu => ke_room))))
      clear F10 N10
      (try dsimp only)
      (try k_fold)
      k_steps
