/-
  THE EVALUATOR's SOUNDNESS, 12: every operation, one after another.
-/
import Derived.Test.YtecogacajmimhaaGreatDoorB2
namespace Go.Abs

/-- What an operation does, whatever its kind. -/
def OpRel (P : Program) (X : Nat → Option Value) (E : Emb) (h : Hp) (w : World) (v : Value) (h' : Hp) (s : Sem Next) : Prop :=
  (∃ E' w' v' r, Evo E h w E' h' w' ∧ HRel P X E' h' w' ∧ VR X E' v v' ∧ s.run P w = .ok r w' ∧ (r = .value v' ∨ (r = .skip ∧ v' = undef))) ∨
  (∃ f args, s.run P w = .ok (.enter f args) w ∧ ∀ (c : Frame) (cs : List Frame), ∃ E' w' v', Evo E h w E' h' w' ∧ HRel P X E' h' w' ∧ VR X E' v v' ∧ Steps P (lone (Frame.enter P f args .normal) (c :: cs) w) (lone (c.finish v') cs w')) ∨
  (∃ l f tm a b, s.run P w = .ok (.round l f tm a b) w ∧ ∀ (c : Frame) (cs : List Frame), ∃ E' w' v', Evo E h w E' h' w' ∧ HRel P X E' h' w' ∧ VR X E' v v' ∧ Steps P (lone (Frame.round l f tm a b .normal) (c :: cs) w) (lone (c.finish v') cs w'))

def EffGood (P : Program) (X : Nat → Option Value) (o : Op) (f : Env → Hp → Option (Value × Hp)) : Prop :=
  ∀ (E : Emb) (h : Hp) (w : World) (ρ ρr : Operand → Value), ER X E ρ ρr → (∀ x ∈ o.operands.toList, okOp x = true) → HRel P X E h w → ∀ v h', f ρ h = some (v, h') →
    ∀ (q : Oper), q.op = o → OpRel P X E h w v h' (execOp ρr q)

def ClsOk (P : Program) (X : Nat → Option Value) (cf cr : Caller) (o : Op) : Cls → Prop
  | .pure f => PureOk P X o f
  | .read f => ReadOk P X o f
  | .alloc f => AllocOk P X o f
  | .eff f => EffGood P X o (f P cf cr)
  | .slc f g => PureOk P X o f ∧ EffGood P X o (g P cf cr)
  | .bad => True

section
variable {P : Program} {X : Nat → Option Value} {cf cr : Caller}

theorem EffOk.good {o : Op} {f : Env → Hp → Option (Value × Hp)} (h : EffOk P X o f) : EffGood P X o f :=
  fun E hp w ρ ρr h1 h2 h3 v h' h4 q hq => .inl (h E hp w ρ ρr h1 h2 h3 v h' h4 q hq)

theorem call_good (hcl : CloneOk P) (hcf : CGood P X cf) (hcr : RGood P X cr) (c : Call) (f : Operand) (hc : c.callee = .value f) :
    EffGood P X (.call c) (fun ρ h => evCall P cf cr h (ρ f) (c.args.toList.map ρ)) := by
  intro E h w ρ ρr hρ hok hr v h' hv q hq
  obtain ⟨dst, o, type, pos, after, guard⟩ := q
  cases hq
  have hl := hρ.list (l := c.args.toList) (fun x hx => hok x (by simp [Op.operands, Call.operands, hc]; exact .inr (Array.mem_toList_iff.1 hx)))
  have hf := hρ f (hok f (by simp [Op.operands, Call.operands, hc]))
  have hx : execOp ρr { dst, op := .call c, type, pos, after, guard } = (do let d ← Deferred.ofValue (ρr f) ⟨c.args.toList.map ρr⟩; invoke d.target d.args) := by
    have : c.args.map ρr = ⟨c.args.toList.map ρr⟩ := by apply Array.ext'; simp
    simp only [execOp, resolve, hc, this]
  rw [hx]
  rcases evCall_rel hcl hcf hcr hr hf hl hv with ⟨E', w', v', h1, h2, h3, h4⟩ | h1 | h1
  · exact .inl ⟨E', w', v', _, h1, h2, h3, h4, .inl rfl⟩
  · exact .inr (.inl h1)
  · exact .inr (.inr h1)

theorem cls_ok (hX : ∀ k r, X k = some r → scalar r = true) (hcl : CloneOk P) (hcf : CGood P X cf) (hcr : RGood P X cr) (o : Op) : ClsOk P X cf cr o (cls o) := by
  cases o <;> simp only [cls] <;> try exact trivial
  case move x => exact ok_move x
  case assign x => exact ok_assign x
  case pick c a b => exact ok_pick c a b
  case build t ps => exact ok_build hX t ps
  case nilCheck x => exact ok_nil x
  case binOp op t x y yt => exact ok_bin op t x y yt
  case unOp op t x => exact ok_un op t x
  case convert s d x => exact ok_conv s d x
  case makeInterface t x => exact ok_mkI t x
  case makeFunc fn a b => exact ok_mkF fn a b
  case slice t x lo hi mx =>
    cases mx with
    | none => exact ⟨ok_slice t x lo hi none, (ok_void t x lo hi cf cr).good⟩
    | some m => exact ok_slice t x lo hi (some m)
  case fieldAddr t x f => exact ok_fieldAddr t x f
  case field t x f => exact ok_field t x f
  case indexAddr t x i => exact ok_indexAddr t x i
  case index t x i => exact ok_index t x i
  case typeAssert x t a ok => cases ok; exact ok_assert x t a; exact trivial
  case extract x i => exact ok_extract x i
  case load t x => exact ok_load t x
  case lookup t x k ok => exact ok_lookup t x k ok
  case entry x => exact ok_entry x
  case alloc t => exact ok_alloc hX t
  case box t x => exact ok_box hX t x
  case buildSlice t n ps => exact ok_buildSlice hX t n ps
  case makeMap t r => cases r; exact ok_map t; exact trivial
  case makeSlice t l c => exact ok_makeSlice hX t l c
  case store t x v => exact (ok_store hX t x v).good
  case mapUpdate t m k v => exact (ok_mapUpdate t m k v).good
  case range t x => exact (ok_range t x).good
  case next x s => cases s; exact (ok_next x).good; exact trivial
  case call c =>
    obtain ⟨callee, args, ts⟩ := c
    cases callee with
    | value f => exact call_good hcl hcf hcr _ f rfl
    | invoke r m => exact trivial
    | builtin b =>
      cases b <;> simp only [clsC, clsB] <;> try exact trivial
      case max => exact ok_mm true _ rfl
      case min => exact ok_mm false _ rfl
      case len => exact ok_len _ rfl
      case append => exact (ok_append hX _ rfl).good
      case copy => exact (ok_copy hX _ rfl).good

theorem opRel_of_cls {o : Op} {k : Cls} (hk : ClsOk P X cf cr o k) {E : Emb} {h h' : Hp} {w : World} {tm : Tr Value} {ρr : Operand → Value} (hρ : ER X E (tmOf tm) ρr)
    (hok : ∀ x ∈ o.operands.toList, okOp x = true) (hr : HRel P X E h w) {v : Value} (hv : evCls P cf cr tm h k = some (v, h')) (q : Oper) (hq : q.op = o) :
    OpRel P X E h w v h' (execOp ρr q) := by
  cases k with
  | pure f =>
    obtain ⟨u, hu, he⟩ := Option.bind_eq_some_iff.1 hv
    cases he
    obtain ⟨v', h1, h2⟩ := hk E (tmOf tm) ρr hρ hok v hu q hq w
    exact .inl ⟨E, w, v', _, .refl .., hr, h1, h2, .inl rfl⟩
  | read f =>
    obtain ⟨u, hu, he⟩ := Option.bind_eq_some_iff.1 hv
    cases he
    obtain ⟨v', h1, h2⟩ := hk E h w (tmOf tm) ρr hρ hok hr v hu q hq
    exact .inl ⟨E, w, v', _, .refl .., hr, h1, h2, .inl rfl⟩
  | alloc f =>
    obtain ⟨⟨u, b⟩, hu, he⟩ := Option.bind_eq_some_iff.1 hv
    cases he
    obtain ⟨v', obj, h1, h2, h3⟩ := hk E w (tmOf tm) ρr h.nx hρ hok (hr.fresh _ (Nat.le_refl _)).1 _ _ hu q hq
    obtain ⟨h4, h5⟩ := hr.more h3
    exact .inl ⟨_, _, v', _, h5, h4, h2, h1, .inl rfl⟩
  | eff f => exact hk E h w (tmOf tm) ρr hρ hok hr v h' hv q hq
  | slc f g =>
    have hv : (match f P (tmOf tm) with | some v => some (v, h) | none => g P cf cr (tmOf tm) h) = some (v, h') := hv
    split at hv
    · rename_i u hu
      cases hv
      obtain ⟨v', h1, h2⟩ := hk.1 E (tmOf tm) ρr hρ hok v hu q hq w
      exact .inl ⟨E, w, v', _, .refl .., hr, h1, h2, .inl rfl⟩
    · exact hk.2 E h w (tmOf tm) ρr hρ hok hr v h' hv q hq
  | bad => cases hv

theorem cls_defer {o : Op} (h : cls o ≠ .bad) : ∀ c, o ≠ .defer c := by
  rintro c rfl
  exact h rfl

/-- One operation of a region, as steps. -/
theorem op_steps {E : Emb} {h h' : Hp} {w : World} {v : Value} {fn : FuncId} {tmps : Array Value} {ops : Array Oper} {i : Nat} {rest : List Nat} {k : List Item} {ds : List Deferred} {rd : Option Nat} {cs : List Frame} {q : Oper}
    (hq : ops[i]? = some q) (hw : Region.wanted q (yielded ops tmps) = true) (hd : ∀ c, q.op ≠ .defer c)
    (ho : OpRel P X E h w v h' (execOp (mkF fn tmps (.inRegion ops (i :: rest) :: k) ds rd).eval q)) :
    ∃ E' w' v', Evo E h w E' h' w' ∧ HRel P X E' h' w' ∧ VR X E' v v' ∧
      Steps P (lone (mkF fn tmps (.inRegion ops (i :: rest) :: k) ds rd) cs w) (lone (mkF fn (putT tmps q.dst v') (.inRegion ops rest :: k) ds rd) cs w') := by
  have hf : ∀ v', (mkF fn tmps (.inRegion ops (i :: rest) :: k) ds rd).finish v' = mkF fn (putT tmps q.dst v') (.inRegion ops rest :: k) ds rd := fun v' => by
    rw [mkF_finish, hq]; rfl
  rcases ho with ⟨E', w', v', r, h1, h2, h3, h4, h5⟩ | ⟨f, args, h1, h2⟩ | ⟨l, f, tm, a, b, h1, h2⟩
  · exact ⟨E', w', v', h1, h2, h3, .one (op_value hq hw hd h4 h5)⟩
  · obtain ⟨E', w', v', h3, h4, h5, h6⟩ := h2 (mkF fn tmps (.inRegion ops (i :: rest) :: k) ds rd) cs
    rw [hf] at h6
    exact ⟨E', w', v', h3, h4, h5, .head (op_enter hq hw hd h1) h6⟩
  · obtain ⟨E', w', v', h3, h4, h5, h6⟩ := h2 (mkF fn tmps (.inRegion ops (i :: rest) :: k) ds rd) cs
    rw [hf] at h6
    exact ⟨E', w', v', h3, h4, h5, .head (op_round hq hw hd h1) h6⟩

/-! ### Places -/
theorem TR.er {E : Emb} {tm : Tr Value} {fr : Frame} (h : TR X E tm fr.tmps) : ER X E (tmOf tm) fr.eval := by
  intro x hx
  cases x with
  | tmp t => exact h t
  | const v => exact VR.refl_okC hx
  | global g => exact .glob g
  | func f => exact .func .nil .nil

theorem putT_size (tmps : Array Value) (d : Option Tmp) (v : Value) : (putT tmps d v).size = tmps.size := by
  cases d <;> simp [putT]

theorem putT_get {tmps : Array Value} {d : Tmp} (hd : d < tmps.size) (v : Value) (t : Tmp) : (putT tmps (some d) v).getD t undef = if t = d then v else tmps.getD t undef := by
  simp only [putT, Array.getD_eq_getD_getElem?, Array.getElem?_setIfInBounds]
  by_cases h : t = d
  · subst h; simp [hd]
  · rw [if_neg (Ne.symm h), if_neg h]

theorem TR.put {E : Emb} {tm tm' : Tr Value} {tmps : Array Value} (h : TR X E tm tmps) {d : Option Tmp} {v v' : Value} (hv : VR X E v v') (hp : putTm tmps.size tm d v = some tm') : TR X E tm' (putT tmps d v') := by
  cases d with
  | none => cases hp; exact h
  | some d =>
    simp only [putTm] at hp
    cases hlt : Nat.blt d tmps.size with
    | false => rw [hlt] at hp; cases hp
    | true =>
      rw [hlt, cond_true] at hp
      cases hp
      intro t
      rw [putT_get (by simpa [Nat.blt_eq] using hlt)]
      by_cases e : t = d
      · subst e
        rw [if_pos rfl]
        simp only [tmOf, Tr.get_put_same]
        exact hv
      · rw [if_neg e]
        have := h t
        simp only [tmOf, Tr.get_put_ne _ _ e] at this ⊢
        exact this

theorem wants_real {E : Emb} {ops : Array Oper} {tm : Tr Value} {tmps : Array Value} {q : Oper} {b : Bool}
    (ht : ∀ j want t, q.guard = some (j, want) → dstOf ops.toList j = some t → VR X E (tmOf tm (.tmp t)) (tmps.getD t undef)) (h : wants ops.toList tm q.guard = some b) :
    Region.wanted q (yielded ops tmps) = b := by
  unfold wants at h
  unfold Region.wanted
  split at h
  · rename_i hg
    rw [hg]
    cases h; rfl
  · rename_i j want hg
    rw [hg]
    obtain ⟨t, ht1, h⟩ := Option.bind_eq_some_iff.1 h
    have hv := ht j want t hg ht1
    have e1 : (ops[j]?).bind (·.dst) = some t := by
      have : dstOf ops.toList j = (nth ops.toList j).bind (·.dst) := rfl
      rw [this, nth_eq] at ht1
      simpa using ht1
    simp only [yielded, e1, Option.bind_some]
    split at h
    · rename_i c hc
      simp only [tmOf, hc] at hv
      have hv := hv.bool_inv
      cases h
      have e2 : tmps[t]? = some (.bool c) := by
        rw [Array.getD_eq_getD_getElem?] at hv
        cases e3 : tmps[t]? with
        | none => rw [e3] at hv; cases hv
        | some u => rw [e3] at hv; exact congrArg some hv
      rw [e2]
      cases c <;> cases want <;> rfl
    · rename_i a hc
      simp only [tmOf, hc] at hv
      cases h
      have e2 : ∀ c, tmps[t]? ≠ some (.bool c) := fun c e3 => by
        rw [Array.getD_eq_getD_getElem?, e3] at hv
        cases hv
      cases e3 : tmps[t]? with
      | none => rfl
      | some u =>
        cases u <;> first | rfl | (rename_i c; exact absurd e3 (e2 c))
    · cases h

/-! ### A region in its order -/
theorem evOps_steps (hk : ∀ o, ClsOk P X cf cr o (cls o)) {fn : FuncId} {ops : Array Oper} {k : List Item} {ds : List Deferred} {rd : Option Nat} {cs : List Frame} {nt : Nat} (hok : ∀ o ∈ ops.toList, opOk o = true) :
    ∀ (os : List Oper) (i : Nat) (E : Emb) (h : Hp) (w : World) (tm tm' : Tr Value) (tmps : Array Value) (h' : Hp), (∀ j o, os[j]? = some o → ops[i + j]? = some o) → tmps.size = nt → TR X E tm tmps → HRel P X E h w →
      evOps P cf cr nt ops.toList os tm h = some (tm', h') →
      ∃ E' w' tmps', Evo E h w E' h' w' ∧ HRel P X E' h' w' ∧ TR X E' tm' tmps' ∧ tmps'.size = nt ∧
        Steps P (lone (mkF fn tmps (.inRegion ops (List.range' i os.length) :: k) ds rd) cs w) (lone (mkF fn tmps' (.inRegion ops [] :: k) ds rd) cs w') := by
  intro os
  induction os with
  | nil =>
    intro i E h w tm tm' tmps h' _ hs ht hr hv
    cases hv
    exact ⟨E, w, tmps, .refl .., hr, ht, hs, .refl ..⟩
  | cons o os ih =>
    intro i E h w tm tm' tmps h' hi hs ht hr hv
    have hv : ((wants ops.toList tm o.guard).bind fun b => bif b then
        (evCls P cf cr tm h (cls o.op)).bind fun r => (putTm nt tm o.dst r.1).bind fun tm' => evOps P cf cr nt ops.toList os tm' r.2
      else (putTm nt tm o.dst (.tuple #[])).bind fun tm' => evOps P cf cr nt ops.toList os tm' h) = some (tm', h') := hv
    obtain ⟨b, hb, hv⟩ := Option.bind_eq_some_iff.1 hv
    have hq : ops[i]? = some o := by simpa using hi 0 o rfl
    have hrest : ∀ j o', os[j]? = some o' → ops[i + 1 + j]? = some o' := fun j o' hj => by
      have := hi (j + 1) o' (by simpa using hj)
      rwa [show i + (j + 1) = i + 1 + j by omega] at this
    have hwr := wants_real (q := o) (fun j want t _ _ => ht t) hb
    have hrange : List.range' i (o :: os).length = i :: List.range' (i + 1) os.length := by
      rw [List.length_cons, List.range'_succ]
    rw [hrange]
    cases b with
    | true =>
      rw [cond_true] at hv
      obtain ⟨⟨v, h1⟩, he, hv⟩ := Option.bind_eq_some_iff.1 hv
      obtain ⟨tm1, hp, hv⟩ := Option.bind_eq_some_iff.1 hv
      have hmem : o ∈ ops.toList := by
        obtain ⟨hlt, he⟩ := Array.getElem?_eq_some_iff.1 hq
        rw [← he]; exact Array.getElem_mem_toList hlt
      have ho := hok o hmem
      have hops : ∀ x ∈ o.op.operands.toList, okOp x = true := fun x hx => List.all_eq_true.1 ho x hx
      have hne : cls o.op ≠ .bad := fun e => by rw [e] at he; cases he
      have hrel := opRel_of_cls (hk o.op) (TR.er (fr := mkF fn tmps (.inRegion ops (i :: List.range' (i + 1) os.length) :: k) ds rd) ht) hops hr he o rfl
      obtain ⟨E1, w1, v1, a1, a2, a3, a4⟩ := op_steps (cs := cs) hq hwr (cls_defer hne) hrel
      obtain ⟨E2, w2, tmps2, b1, b2, b3, b4, b5⟩ := ih (i + 1) E1 h1 w1 tm1 tm' (putT tmps o.dst v1) h' hrest (by rw [putT_size]; exact hs) ((ht.mono a1.ext).put a3 (by rw [hs]; exact hp)) a2 hv
      exact ⟨E2, w2, tmps2, a1.trans b1, b2, b3, b4, a4.trans b5⟩
    | false =>
      rw [cond_false] at hv
      obtain ⟨tm1, hp, hv⟩ := Option.bind_eq_some_iff.1 hv
      have a4 := op_skip (P := P) (fn := fn) (tmps := tmps) (rest := List.range' (i + 1) os.length) (k := k) (ds := ds) (rd := rd) (cs := cs) (w := w) hq hwr
      obtain ⟨E2, w2, tmps2, b1, b2, b3, b4, b5⟩ := ih (i + 1) E h w tm1 tm' (putT tmps o.dst undef) h' hrest (by rw [putT_size]; exact hs) (ht.put .undef_ (by rw [hs]; exact hp)) hr hv
      exact ⟨E2, w2, tmps2, b1, b2, b3, b4, .head a4 b5⟩
end
end Go.Abs
