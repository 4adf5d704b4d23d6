/-
  A CALL THAT IS KNOWN ALREADY: from its own part of memory to any memory that has this part.
-/
import Derived.Test.YtecogacajmimhaaGreatDoorB9
namespace Go.Abs

/-! ### The same -/
def eqO : Option Nat → Option Nat → Bool
  | none, none => true
  | some a, some b => Nat.beq a b
  | _, _ => false
def eqA (a b : Addr) : Bool := Nat.beq a.block b.block && Nat.beq a.off b.off && eqO a.spot b.spot
def eqS : Value → Value → Bool
  | .pointer (some a), .pointer (some b) => eqA a b
  | .slice (some a) n c, .slice (some b) n' c' => eqA a b && Nat.beq n n' && Nat.beq c c'
  | .float k n, .float k' n' => (match k, k' with | .f32, .f32 => Nat.beq n n' | .f64, .f64 => Nat.beq n n' | _, _ => false)
  | .complex .f64 m n, .complex .f64 m' n' => Nat.beq m m' && Nat.beq n n'
  | .string s, .string s' => s.data.isEmpty && s'.data.isEmpty
  | .func (.yield a) x y, .func (.yield b) x' y' => Nat.beq a b && x.isEmpty && x'.isEmpty && y.isEmpty && y'.isEmpty
  | a, b => sameS a b
def eqSL : List Value → List Value → Bool
  | [], [] => true
  | x :: xs, y :: ys => eqS x y && eqSL xs ys
  | _, _ => false
def eqV : Value → Value → Bool
  | .agg a, .agg b => eqSL a.toList b.toList
  | .tuple a, .tuple b => eqSL a.toList b.toList
  | .func (.func f) a b, .func (.func f') a' b' => Nat.beq f f' && eqSL a.toList a'.toList && eqSL b.toList b'.toList
  | .iface t v, .iface t' v' => Nat.beq t t' && eqS v v'
  | a, b => eqS a b
def eqL : List Value → List Value → Bool
  | [], [] => true
  | x :: xs, y :: ys => eqV x y && eqL xs ys
  | _, _ => false

theorem eqO_eq {a b : Option Nat} (h : eqO a b = true) : a = b := by
  cases a <;> cases b <;> simp only [eqO] at h
  · rfl
  · cases h
  · cases h
  · exact congrArg some (Nat.eq_of_beq_eq_true h)
theorem eqA_eq {a b : Addr} (h : eqA a b = true) : a = b := by
  obtain ⟨x, y, z⟩ := a
  obtain ⟨x', y', z'⟩ := b
  simp only [eqA, Bool.and_eq_true, Nat.beq_eq] at h
  obtain ⟨⟨rfl, rfl⟩, h⟩ := h
  rw [eqO_eq h]
theorem eqS_eq {a b : Value} (h : eqS a b = true) : a = b := by
  unfold eqS at h
  split at h
  · rw [eqA_eq h]
  · simp only [Bool.and_eq_true, Nat.beq_eq] at h
    rw [eqA_eq h.1.1, h.1.2, h.2]
  · split at h
    · rw [Nat.eq_of_beq_eq_true h]
    · rw [Nat.eq_of_beq_eq_true h]
    · cases h
  · simp only [Bool.and_eq_true, Nat.beq_eq] at h
    rw [h.1, h.2]
  · rename_i s s'
    simp only [Bool.and_eq_true, Array.isEmpty_iff] at h
    obtain ⟨d⟩ := s
    obtain ⟨d'⟩ := s'
    obtain ⟨rfl, rfl⟩ := h
    rfl
  · simp only [Bool.and_eq_true, Nat.beq_eq, Array.isEmpty_iff] at h
    obtain ⟨⟨⟨⟨rfl, rfl⟩, rfl⟩, rfl⟩, rfl⟩ := h
    rfl
  · exact sameS_eq h
theorem eqSL_eq : ∀ {a b : List Value}, eqSL a b = true → a = b
  | [], [], _ => rfl
  | _ :: _, _ :: _, h => by
    simp only [eqSL, Bool.and_eq_true] at h
    rw [eqS_eq h.1, eqSL_eq h.2]
  | [], _ :: _, h => by cases h
  | _ :: _, [], h => by cases h
theorem eqV_eq {a b : Value} (h : eqV a b = true) : a = b := by
  unfold eqV at h
  split at h
  · exact congrArg _ (Array.ext' (eqSL_eq h))
  · exact congrArg _ (Array.ext' (eqSL_eq h))
  · simp only [Bool.and_eq_true, Nat.beq_eq] at h
    rw [h.1.1, Array.ext' (eqSL_eq h.1.2), Array.ext' (eqSL_eq h.2)]
  · simp only [Bool.and_eq_true, Nat.beq_eq] at h
    rw [h.1, eqS_eq h.2]
  · exact eqS_eq h
theorem eqL_eq : ∀ {a b : List Value}, eqL a b = true → a = b
  | [], [], _ => rfl
  | _ :: _, _ :: _, h => by
    simp only [eqL, Bool.and_eq_true] at h
    rw [eqV_eq h.1, eqL_eq h.2]
  | [], _ :: _, h => by cases h
  | _ :: _, [], h => by cases h

/-! ### A block of which another tells no more -/
def eqOV : Option Value → Option Value → Bool
  | none, none => true
  | some a, some b => eqV a b
  | _, _ => false
noncomputable def eqTr (t : Tr Value) : Tr Value → Bool :=
  Tr.rec (motive := fun _ => Tr Value → Bool) (fun t' => match t' with | .nil => true | .node _ _ _ => false)
    (fun _ v _ il ir t' => match t' with | .nil => false | .node l' v' r' => eqOV v v' && il l' && ir r') t

theorem eqOV_eq {a b : Option Value} (h : eqOV a b = true) : a = b := by
  cases a <;> cases b <;> simp only [eqOV] at h
  · rfl
  · cases h
  · cases h
  · exact congrArg some (eqV_eq h)
theorem eqTr_eq : ∀ {t t' : Tr Value}, eqTr t t' = true → t = t'
  | .nil, .nil, _ => rfl
  | .nil, .node _ _ _, h => by cases h
  | .node _ _ _, .nil, h => by cases h
  | .node l v r, .node l' v' r', h => by
    have h : (eqOV v v' && eqTr l l' && eqTr r r') = true := h
    simp only [Bool.and_eq_true] at h
    rw [eqOV_eq h.1.1, eqTr_eq h.1.2, eqTr_eq h.2]

def eqEs : List (Value × Value × Nat) → List (Value × Value × Nat) → Bool
  | [], [] => true
  | (k, v, n) :: xs, (k', v', n') :: ys => eqV k k' && eqV v v' && Nat.beq n n' && eqEs xs ys
  | _, _ => false
def eqNL : List Nat → List Nat → Bool
  | [], [] => true
  | x :: xs, y :: ys => Nat.beq x y && eqNL xs ys
  | _, _ => false

theorem eqEs_eq : ∀ {a b : List (Value × Value × Nat)}, eqEs a b = true → a = b
  | [], [], _ => rfl
  | (k, v, n) :: _, (k', v', n') :: _, h => by
    simp only [eqEs, Bool.and_eq_true, Nat.beq_eq] at h
    rw [eqV_eq h.1.1.1, eqV_eq h.1.1.2, h.1.2, eqEs_eq h.2]
  | [], _ :: _, h => by cases h
  | _ :: _, [], h => by cases h
theorem eqNL_eq : ∀ {a b : List Nat}, eqNL a b = true → a = b
  | [], [], _ => rfl
  | _ :: _, _ :: _, h => by
    simp only [eqNL, Bool.and_eq_true, Nat.beq_eq] at h
    rw [h.1, eqNL_eq h.2]
  | [], _ :: _, h => by cases h
  | _ :: _, [], h => by cases h

/-- The second tells no more than the first. -/
noncomputable def subB : Blk → Blk → Bool
  | .cells e n pat over o, .cells e' n' pat' over' o' => Nat.beq e e' && Nat.beq n n' && (match o, o' with | true, true => true | false, false => true | _, _ => false) && eqL pat pat' && eqTr over over'
  | .map es c, .map es' c' => eqEs es es' && Nat.beq c c'
  | .iter m s l c, .iter m' s' l' c' => Nat.beq m m' && Nat.beq s s' && eqNL l l' && Nat.beq c c'
  | .defd true, .defd true => true
  | .defd false, .defd false => true
  | _, _ => false

section
variable {P : Program} {X : Nat → Option Value}

theorem BRel.sub {E : Emb} {w : World} {ad : Ad} {x y : Blk} (h : subB x y = true) (hx : BRel P X E w ad x) : BRel P X E w ad y := by
  unfold subB at h
  split at h
  · rename_i e n pat over o e' n' pat' over' o'
    simp only [Bool.and_eq_true, Nat.beq_eq] at h
    obtain ⟨⟨⟨⟨rfl, rfl⟩, ho⟩, hp⟩, hs⟩ := h
    have hp := eqL_eq hp
    have hs := eqTr_eq hs
    subst hp hs
    have ho : o = o' := by cases o <;> cases o' <;> first | rfl | (cases ho)
    subst ho
    exact hx
  · simp only [Bool.and_eq_true, Nat.beq_eq] at h
    rw [eqEs_eq h.1, h.2] at hx
    exact hx
  · simp only [Bool.and_eq_true, Nat.beq_eq] at h
    rw [h.1.1.1, h.1.1.2, eqNL_eq h.1.2, h.2] at hx
    exact hx
  · exact hx
  · exact hx
  · cases h

/-- A memory that tells no more. -/
theorem HRel.sub {E : Emb} {h h' : Hp} {w : World} (hr : HRel P X E h w) (hs : ∀ b y, h'.getB b = some y → ∃ x, h.getB b = some x ∧ (x = y ∨ subB x y = true)) (hn : h'.nx = h.nx) : HRel P X E h' w :=
  ⟨fun b y hb => by
    obtain ⟨x, h1, h2⟩ := hs b y hb
    obtain ⟨ad, h3, h4⟩ := hr.blk b x h1
    rcases h2 with rfl | h2
    · exact ⟨ad, h3, h4⟩
    · exact ⟨ad, h3, h4.sub h2⟩, fun b b' y y' a a' hb hb' => by
    obtain ⟨x, h1, _⟩ := hs b y hb
    obtain ⟨x', h1', _⟩ := hs b' y' hb'
    exact hr.inj b b' x x' a a' h1 h1', fun b hb => ⟨(hr.fresh b (by omega)).1, by
      cases hg : h'.getB b with
      | none => rfl
      | some y =>
        obtain ⟨x, h1, _⟩ := hs b y hg
        rw [(hr.fresh b (by omega)).2] at h1; cases h1⟩, hr.bound⟩
theorem Evo.sub {E E' : Emb} {h h' h'' : Hp} {w w' : World} (ev : Evo E h w E' h' w') (hs : ∀ b y, h''.getB b = some y → ∃ x, h'.getB b = some x) (hn : h''.nx = h'.nx) : Evo E h w E' h'' w' :=
  ⟨ev.ext, fun b ad h1 h2 => by rw [hn]; exact ev.new b ad h1 h2, by rw [hn]; exact ev.nx, ev.size, ev.frame, fun i hi => by
    obtain ⟨b, y, ad, h1, h2, h3⟩ := hi
    obtain ⟨x, h4⟩ := hs b y h1
    exact ev.image i ⟨b, x, ad, h4, h2, h3⟩, ev.os, ev.output, ev.froz⟩
end

/-! ### The known calls -/
structure Ent where
  f : Nat
  args : List Value
  nx : Nat
  pre : List (Nat × Blk)
  res : Value
  nx' : Nat
  post : List (Nat × Blk)

noncomputable def putAll : List (Nat × Blk) → Tr Blk → Tr Blk
  | [], t => t
  | (i, b) :: ps, t => putAll ps (t.put i b)
def hasId (i : Nat) : List (Nat × Blk) → Bool
  | [] => false
  | (j, _) :: ps => Nat.beq i j || hasId i ps
noncomputable def Ent.small (e : Ent) : Hp := .mk e.nx (putAll e.pre .nil)
noncomputable def tells (t : Tr Blk) : List (Nat × Blk) → Bool
  | [] => true
  | (i, b) :: ps => (match t.get i with | some x => subB x b | none => false) && tells t ps
/-- Does an answer tell what the entry says? -/
noncomputable def Ent.check (e : Ent) (r : Option (Value × Hp)) : Bool :=
  match r with
  | some (v, .mk nx t) => eqV v e.res && Nat.beq nx e.nx' && tells t e.post && e.pre.all fun p => hasId p.1 e.post
  | none => false
noncomputable def Ent.fits (e : Ent) (f : Nat) (args : List Value) (h : Hp) : Bool :=
  match h with
  | .mk nx t => Nat.beq f e.f && Nat.beq nx e.nx && eqL args e.args && tells t e.pre
noncomputable def Ent.go (e : Ent) (h : Hp) : Value × Hp :=
  match h with
  | .mk _ t => (e.res, .mk e.nx' (putAll e.post t))
noncomputable def memo : List Ent → Caller → Caller
  | [], cf => cf
  | e :: es, cf => fun f args h => bif Nat.beq f e.f && e.fits f args h then some (e.go h) else memo es cf f args h

section
variable {P : Program} {X : Nat → Option Value}

def Known (P : Program) (X : Nat → Option Value) (e : Ent) : Prop := ∃ cf, CGood P X cf ∧ e.check (cf e.f e.args e.small) = true

theorem putAll_get : ∀ (ps : List (Nat × Blk)) (i : Nat), (∃ b, (i, b) ∈ ps ∧ ∀ t, (putAll ps t).get i = some b) ∨ ((∀ b, (i, b) ∉ ps) ∧ ∀ t, (putAll ps t).get i = t.get i)
  | [], i => .inr ⟨(fun b h => by cases h), fun _ => rfl⟩
  | (j, b) :: ps, i => by
    rcases putAll_get ps i with ⟨c, h1, h2⟩ | ⟨h1, h2⟩
    · exact .inl ⟨c, List.mem_cons_of_mem _ h1, fun t => h2 (t.put j b)⟩
    · have h3 : ∀ t, (putAll ((j, b) :: ps) t).get i = if i = j then some b else t.get i := fun t => by
        rw [← Tr.get_put]; exact h2 (t.put j b)
      by_cases e : i = j
      · subst e
        exact .inl ⟨b, List.mem_cons_self, fun t => by rw [h3, if_pos rfl]⟩
      · refine .inr ⟨fun c hc => ?_, fun t => by rw [h3, if_neg e]⟩
        rcases List.mem_cons.1 hc with hc | hc
        · cases hc; exact e rfl
        · exact h1 c hc

theorem tells_at {t : Tr Blk} : ∀ {ps : List (Nat × Blk)}, tells t ps = true → ∀ i b, (i, b) ∈ ps → ∃ x, t.get i = some x ∧ subB x b = true
  | [], _, i, b, h => by cases h
  | (j, c) :: ps, h, i, b, hm => by
    simp only [tells, Bool.and_eq_true] at h
    rcases List.mem_cons.1 hm with hm | hm
    · cases hm
      have h1 := h.1
      split at h1
      · rename_i x hx; exact ⟨x, hx, h1⟩
      · cases h1
    · exact tells_at h.2 i b hm

theorem hasId_mem {i : Nat} : ∀ {ps : List (Nat × Blk)}, hasId i ps = true → ∃ b, (i, b) ∈ ps
  | [], h => by cases h
  | (j, c) :: ps, h => by
    simp only [hasId, Bool.or_eq_true, Nat.beq_eq] at h
    rcases h with rfl | h
    · exact ⟨c, List.mem_cons_self⟩
    · obtain ⟨b, hb⟩ := hasId_mem h
      exact ⟨b, List.mem_cons_of_mem _ hb⟩

theorem known_good {e : Ent} (hk : Known P X e) {E : Emb} {h : Hp} {w : World} {f : Nat} {args argsr : List Value} (ha : VRL X E args argsr) (hr : HRel P X E h w) (hf : e.fits f args h = true) :
    (callFunc f ⟨argsr⟩).run P w = .ok (.enter f ⟨argsr⟩) w ∧
    ∀ (c : Frame) (cs : List Frame), ∃ E' w' v', Evo E h w E' (e.go h).2 w' ∧ HRel P X E' (e.go h).2 w' ∧ VR X E' (e.go h).1 v' ∧ Steps P (lone (Frame.enter P f ⟨argsr⟩ .normal) (c :: cs) w) (lone (c.finish v') cs w') := by
  obtain ⟨cf, hcf, hc⟩ := hk
  obtain ⟨nx, t⟩ := h
  simp only [Ent.fits, Bool.and_eq_true, Nat.beq_eq] at hf
  obtain ⟨⟨⟨rfl, rfl⟩, hargs⟩, hpre⟩ := hf
  have hargs := eqL_eq hargs
  subst hargs
  cases hres : cf e.f e.args e.small with
  | none => rw [hres] at hc; cases hc
  | some r =>
    obtain ⟨v, nx1, t1⟩ := r
    rw [hres] at hc
    simp only [Ent.check, Bool.and_eq_true, Nat.beq_eq] at hc
    obtain ⟨⟨⟨hv, rfl⟩, hpost⟩, hids⟩ := hc
    have hv := eqV_eq hv
    subst hv
    -- the memory as the entry has it
    let cur : Hp := .mk e.nx (putAll e.pre t)
    have hcur : ∀ b y, cur.getB b = some y → ∃ x, (Hp.mk e.nx t).getB b = some x ∧ (x = y ∨ subB x y = true) := fun b y hb => by
      have hb : (putAll e.pre t).get b = some y := hb
      rcases putAll_get e.pre b with ⟨d, h1, h2⟩ | ⟨h1, h2⟩
      · rw [h2] at hb
        cases hb
        obtain ⟨x, h3, h4⟩ := tells_at hpre b y h1
        exact ⟨x, h3, .inr h4⟩
      · rw [h2] at hb
        exact ⟨y, hb, .inl rfl⟩
    have hrc : HRel P X E cur w := hr.sub hcur rfl
    have evc : Evo E (.mk e.nx t) w E cur w := (Evo.refl E (.mk e.nx t) w).sub (fun b y hb => let ⟨x, h1, _⟩ := hcur b y hb; ⟨x, h1⟩) rfl
    have hsub : ∀ b x, e.small.getB b = some x → cur.getB b = some x := fun b x hb => by
      have hb : (putAll e.pre .nil).get b = some x := hb
      show (putAll e.pre t).get b = some x
      rcases putAll_get e.pre b with ⟨d, h1, h2⟩ | ⟨h1, h2⟩
      · rw [h2] at hb ⊢; exact hb
      · rw [h2] at hb; cases hb
    have hsm : HRel P X E e.small w := hrc.less hsub rfl
    obtain ⟨g1, g2⟩ := hcf E e.small w e.f e.args argsr e.res (.mk e.nx' t1) ha hsm hres
    refine ⟨g1, fun c cs => ?_⟩
    obtain ⟨E', w', v', k1, k2, k3, k4⟩ := g2 c cs
    -- what the entry tells of the memory after
    let out : Hp := .mk e.nx' (putAll e.post .nil)
    have hout : ∀ b y, out.getB b = some y → ∃ x, (Hp.mk e.nx' t1).getB b = some x ∧ (x = y ∨ subB x y = true) := fun b y hb => by
      have hb : (putAll e.post .nil).get b = some y := hb
      rcases putAll_get e.post b with ⟨d, h1, h2⟩ | ⟨h1, h2⟩
      · rw [h2] at hb
        cases hb
        obtain ⟨x, h3, h4⟩ := tells_at hpost b y h1
        exact ⟨x, h3, .inr h4⟩
      · rw [h2] at hb; cases hb
    have ko : HRel P X E' out w' := k2.sub hout rfl
    have eo : Evo E e.small w E' out w' := k1.sub (fun b y hb => let ⟨x, h1, _⟩ := hout b y hb; ⟨x, h1⟩) rfl
    have hparts : ∀ b x, (e.go (.mk e.nx t)).2.getB b = some x → (cur.getB b = some x ∧ e.small.getB b = none) ∨ out.getB b = some x := fun b x hb => by
      have hb : (putAll e.post t).get b = some x := hb
      rcases putAll_get e.post b with ⟨d, h1, h2⟩ | ⟨h1, h2⟩
      · refine .inr ?_
        show (putAll e.post .nil).get b = some x
        rw [h2] at hb ⊢; exact hb
      · rcases putAll_get e.pre b with ⟨d, h3, _⟩ | ⟨_, h4⟩
        · have h5 : hasId b e.post = true := by
            rw [List.all_eq_true] at hids
            exact hids (b, d) h3
          obtain ⟨d', h6⟩ := hasId_mem h5
          exact absurd h6 (h1 d')
        · refine .inl ⟨?_, h4 .nil⟩
          show (putAll e.pre t).get b = some x
          rw [h4]; rw [h2] at hb; exact hb
    exact ⟨E', w', v', (evc.keep hrc hsub rfl eo rfl hparts), hrc.keep hsub rfl eo ko rfl hparts, k3, k4⟩

theorem memo_good {cf : Caller} (hcf : CGood P X cf) : ∀ (es : List Ent), (∀ e ∈ es, Known P X e) → CGood P X (memo es cf)
  | [], _ => hcf
  | e :: es, hk => by
    intro E h w f args argsr v h' ha hr hv
    have hv : (bif Nat.beq f e.f && e.fits f args h then some (e.go h) else memo es cf f args h) = some (v, h') := hv
    cases hb : (Nat.beq f e.f && e.fits f args h) with
    | true =>
      rw [hb, cond_true] at hv
      simp only [Bool.and_eq_true] at hb
      have := known_good (hk e List.mem_cons_self) ha hr hb.2
      have he := Option.some.inj hv
      rw [he] at this
      exact this
    | false =>
      rw [hb, cond_false] at hv
      exact memo_good hcf es (fun e' h => hk e' (List.mem_cons_of_mem _ h)) E h w f args argsr v h' ha hr hv
end
end Go.Abs
