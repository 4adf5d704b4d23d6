/-
  THE EVALUATOR's SOUNDNESS, 16: a region in whatever order it draws, as steps.
-/
import Derived.Test.YtecogacajmimhaaGreatDoorB6
namespace Go.Abs

section
variable {P : Program} {X : Nat → Option Value} {cf cr : Caller} {nt base : Nat} {s : Nat → Rg} {v : Nat → Value}
variable {E0 E E' : Emb} {h0 : Hp} {w0 w w' : World} {S : Nat → Prop} {tmps : Array Value}

theorem Now.step (hk : ∀ o, ClsOk P X cf cr o (cls o)) {ops : Array Oper} (hok : ∀ o ∈ ops.toList, opOk o = true) (tr : Trk P cf cr nt base ops.toList s v) (hb : h0.nx = base)
    (n : Now P X nt base ops.toList s v E0 h0 w0 S E w tmps) {i : Nat} {o : Oper} (ho : ops.toList[i]? = some o) (hS : ¬ S i) (ha : ∀ j, Anc ops.toList i j → S j)
    {fn : FuncId} {rest : List Nat} {k : List Item} {ds : List Deferred} {rd : Option Nat} {cs : List Frame} :
    ∃ E' w' tmps', Now P X nt base ops.toList s v E0 h0 w0 (fun j => S j ∨ j = i) E' w' tmps' ∧
      Steps P (lone (mkF fn tmps (.inRegion ops (i :: rest) :: k) ds rd) cs w) (lone (mkF fn tmps' (.inRegion ops rest :: k) ds rd) cs w') := by
  have hq : ops[i]? = some o := by simpa using ho
  have hi : i < ops.toList.length := (List.getElem?_eq_some_iff.1 ho).1
  have hmem : o ∈ ops.toList := List.mem_of_getElem? ho
  have hops : ∀ x ∈ o.op.operands.toList, okOp x = true := fun x hx => List.all_eq_true.1 (hok o hmem) x hx
  -- the values that stand there
  let U : Nat → Value := fun t => (n.tmp t).choose
  have hU : ∀ t, CurVal ops.toList (s 0).tm v S t (U t) ∧ VR X E (U t) (tmps.getD t undef) := fun t => (n.tmp t).choose_spec
  let ρ : Env := fun x => match x with
    | .tmp t => U t
    | .const c => c
    | .global g => .pointer (some ⟨g, 0, some 1⟩)
    | .func f => .func (.func f) #[] #[]
  have hρ : ER X E ρ (mkF fn tmps (.inRegion ops (i :: rest) :: k) ds rd).eval := by
    intro x hx
    cases x with
    | tmp t => exact (hU t).2
    | const c => exact VR.refl_okC hx
    | global g => exact .glob g
    | func f => exact .func .nil .nil
  have hsame : ∀ x ∈ o.op.operands.toList, tmOf (s i).tm x = ρ x := fun x hx => by
    cases x with
    | tmp t => exact (n.agree tr ho hS ha (List.mem_append_left _ (List.mem_filterMap.2 ⟨.tmp t, hx, rfl⟩)) _ (hU t).1).symm
    | const c => rfl
    | global g => rfl
    | func f => rfl
  have hcls := cls_same o.op hsame
  have hwr : ∀ b, wants ops.toList (s i).tm o.guard = some b → Region.wanted o (yielded ops tmps) = b := fun b hw =>
    wants_real (E := E) (X := X) (fun j want t hg ht => by
      have hn : t ∈ namesOf ops.toList o := List.mem_append_right _ (by rw [hg]; simp only []; rw [ht]; simp)
      rw [← n.agree tr ho hS ha hn _ (hU t).1]
      exact (hU t).2) hw
  have hko := hk o.op
  obtain ⟨hput, hst⟩ := tr.step i o ho
  have hplain : ∀ {r : Next} {v' : Value} {w1 : World}, Region.wanted o (yielded ops tmps) = true → (∀ c, o.op ≠ .defer c) → (execOp (mkF fn tmps (.inRegion ops (i :: rest) :: k) ds rd).eval o).run P w = .ok (.value v') w1 →
      Steps P (lone (mkF fn tmps (.inRegion ops (i :: rest) :: k) ds rd) cs w) (lone (mkF fn (putT tmps o.dst v') (.inRegion ops rest :: k) ds rd) cs w1) := fun {r v' w1} h1 h2 h3 =>
    .one (op_value hq h1 h2 h3 (.inl rfl))
  generalize hz : s (i + 1) = z at hst
  generalize hu : v i = u at hst
  cases hst with
  | skip hw =>
    have nx := n.next (E' := E) (w' := w) tr ho hS ha (fun _ _ h => h) (v' := undef) (by rw [hu]; exact .undef_) (fun a h1 h2 _ => n.res a h1 h2) (n.mem.quiet (fun b => noAl_w ho hw) (noEf_w ho hw))
    exact ⟨E, w, _, nx, .one (op_skip hq (hwr _ hw))⟩
  | @pure tm v1 f hw hc hv =>
    have hd : ∀ c, o.op ≠ .defer c := cls_defer (by rcases hc with hc | ⟨g, hc⟩ <;> rw [hc] <;> exact fun h => by cases h)
    have hP : PureOk P X o.op f := by
      rcases hc with hc | ⟨g, hc⟩
      · rw [hc] at hko; exact hko
      · rw [hc] at hko; exact hko.1
    have hf : f P ρ = some u := by
      rw [← hv]
      rcases hc with hc | ⟨g, hc⟩ <;> rw [hc] at hcls <;> exact (hcls P).symm
    obtain ⟨v', h1, h2⟩ := hP E ρ _ hρ hops u hf o rfl w
    have nx := n.next (E' := E) (w' := w) tr ho hS ha (fun _ _ h => h) (v' := v') (by rw [hu]; exact h1) (fun a h1 h2 _ => n.res a h1 h2) (n.mem.quiet (fun b => noAl_c ho (pure_c hc).2) (noEf_c ho (pure_c hc).1))
    exact ⟨E, w, _, nx, hplain (r := .value v') (hwr _ hw) hd h2⟩
  | @read tm v1 f hw hc hv he =>
    have hd : ∀ c, o.op ≠ .defer c := cls_defer (by rw [hc]; exact fun h => by cases h)
    rw [hc] at hko hcls
    have hm := n.mem
    obtain ⟨p, cur, a1, a2, hcur, a4, a5, a6, a7⟩ := n.mem
    have hread := tr.read ho hw hc a1 (fun e h1 h2 h3 => by
      cases hbit : hasBit (befAt (befL ops.toList []) e) i with
      | false => rfl
      | true => exact absurd (n.closed e i ((a2 e h1).2 h3) (bef_anc hbit)) hS) (fun e h1 h2 h3 => by
      cases hbit : hasBit (befAt (befL ops.toList []) i) e with
      | false => rfl
      | true => have := (a2 e h1).1 (ha e (bef_anc hbit)); omega)
    rw [hcls, hu] at hread
    have hless : HRel P X E (s p).hp w := a6.less (fun b x hbx => by
      by_cases hq : ∃ a b', Pnd P base ops.toList s S p a b' ∧ b = base + a
      · obtain ⟨a, b', g1, rfl⟩ := hq
        rw [a4 a b' g1.1 g1.2.2] at hbx; cases hbx
      · rw [hcur.2.2 b fun a b' g1 g2 => hq ⟨a, b', g1, g2⟩]
        exact hbx) hcur.1.symm
    obtain ⟨v', h1, h2⟩ := hko E (s p).hp w ρ _ hρ hops hless u hread o rfl
    have nx := n.next (E' := E) (w' := w) tr ho hS ha (fun _ _ h => h) (v' := v') (by rw [hu]; exact h1) (fun a h1 h2 _ => n.res a h1 h2) (hm.quiet (fun b => noAl_c ho (read_c hc).2) (noEf_c ho (read_c hc).1))
    exact ⟨E, w, _, nx, hplain (r := .value v') (hwr _ hw) hd h2⟩
  | @alloc tm v1 b f hw hc hv =>
    have hd : ∀ c, o.op ≠ .defer c := cls_defer (by rw [hc]; exact fun h => by cases h)
    have hal : Al P base ops.toList s i b := ⟨o, f, _, ho, hw, hc, hv⟩
    rw [hc] at hko hcls
    have hE := n.res i hi hS
    rw [hcls] at hv
    obtain ⟨v', obj, h1, h2, h3⟩ := hko E w ρ _ (base + i) hρ hops hE _ _ hv o rfl
    have hm := n.mem.alloc hb n.closed hal hS hE h3
    have nx := n.next (E' := E.upd (base + i) ⟨w.heap.size, 0, 0⟩) (w' := World.laid w obj) tr ho hS ha (Emb.upd_ext hE) (v' := v') (by rw [hu]; exact h2) (fun a g1 g2 g3 => by
      rw [Emb.upd_ne _ _ (by omega)]; exact n.res a g1 g2) hm
    exact ⟨_, _, _, nx, hplain (r := .value v') (hwr _ hw) hd h1⟩
  | @eff tm v1 h f hw hc hch hv hr =>
    have hd : ∀ c, o.op ≠ .defer c := cls_defer (by rw [hc]; exact fun h => by cases h)
    have hef : Ef ops.toList s i := Ef.of ho hw hc
    rw [hc] at hko hcls
    obtain ⟨hsm, hnext⟩ := n.mem.eff tr n.closed n.res hef hS ha
    rw [hcls] at hv
    have hrel := hko E _ w ρ _ hρ hops hsm u h hv o rfl
    obtain ⟨E1, w1, v1, b1, b2, b3, b4⟩ := op_steps (cs := cs) hq (hwr _ hw) hd hrel
    have hh : (s (i + 1)).hp = h := by rw [hz]
    rw [hh] at hnext
    obtain ⟨g1, g2⟩ := hnext E1 w1 b1 b2
    have nx := n.next (E' := E1) (w' := w1) tr ho hS ha b1.ext (v' := v1) (by rw [hu]; exact b3) g2 g1
    exact ⟨E1, w1, _, nx, b4⟩

theorem binds_any (e : Edge) : Region.binds .any e = bindsAny e := by
  unfold Region.binds bindsAny
  cases e.ground <;> rfl

def left (n : Nat) (listed : Array Bool) : Nat := (List.range n).countP fun i => !listed.getD i true

theorem countP_lt {α : Type} {p q : α → Bool} : ∀ {l : List α}, (∀ x ∈ l, q x = true → p x = true) → (∃ x ∈ l, p x = true ∧ q x = false) → l.countP q < l.countP p
  | [], _, ⟨x, h, _⟩ => by cases h
  | y :: l, hs, ⟨x, hx, h1, h2⟩ => by
    have hle : l.countP q ≤ l.countP p := List.countP_mono_left fun x hx => hs x (List.mem_cons_of_mem _ hx)
    rw [List.countP_cons, List.countP_cons]
    rcases List.mem_cons.1 hx with rfl | hx
    · rw [h1, h2]; simp only [if_true, Bool.false_eq_true, if_false]; omega
    · have := countP_lt (fun x hx => hs x (List.mem_cons_of_mem _ hx)) ⟨x, hx, h1, h2⟩
      have hy := hs y List.mem_cons_self
      cases hqy : q y with
      | false => simp only [Bool.false_eq_true, if_false]; omega
      | true => rw [hy hqy]; simp only [if_true]; omega

theorem left_set {n : Nat} {listed : Array Bool} {i : Nat} (hs : listed.size = n) (hi : i < n) (h : listed.getD i true = false) : left n (listed.setIfInBounds i true) < left n listed := by
  refine countP_lt (fun x hx hq => ?_) ⟨i, List.mem_range.2 hi, by rw [h]; rfl, ?_⟩
  · by_cases e : i = x
    · subst e; rw [h]; rfl
    · rw [getD_set_ne true e] at hq; exact hq
  · have : (listed.setIfInBounds i true).getD i true = true := by
      simp [show i < listed.size by omega]
    rw [this]; rfl

theorem all_done {ops : Array Oper} (hk : edgesOk ops.toList 0 = true) {listed : Array Bool} (hs : listed.size = ops.size) (hr : Region.ready .any ops listed = []) : ∀ m i, i < m → i < ops.size → listed.getD i false = true := by
  intro m
  induction m with
  | zero => intro i h; omega
  | succ m ih =>
    intro i him hi
    by_cases hlt : i < m
    · exact ih i hlt hi
    · cases hg : listed.getD i false with
      | true => rfl
      | false =>
        have hin : i ∈ Region.ready .any ops listed := by
          rw [mem_ready]
          refine ⟨?_, ops[i], Array.getElem?_eq_getElem hi, fun e he hbd => ?_⟩
          · have hlt' : i < listed.size := by omega
            simp [Array.getD, hlt'] at hg ⊢
            exact hg
          · rw [binds_any] at hbd
            have := edgesOk_at hk i ops[i] (by simp [hi]) e (by simpa using he) hbd
            exact ih e.on (by omega) (by omega)
        rw [hr] at hin; cases hin

theorem go_steps (hk : ∀ o, ClsOk P X cf cr o (cls o)) {ops : Array Oper} (hok : ∀ o ∈ ops.toList, opOk o = true) (tr : Trk P cf cr nt base ops.toList s v) (hb : h0.nx = base)
    {fn : FuncId} {k : List Item} {ds : List Deferred} {rd : Option Nat} {cs : List Frame} :
    ∀ (fuel t : Nat) (listed : Array Bool) (E : Emb) (w : World) (tmps : Array Value), listed.size = ops.size → left ops.size listed ≤ fuel → Now P X nt base ops.toList s v E0 h0 w0 (fun i => listed.getD i false = true) E w tmps →
    ∃ E' w' tmps' S', (∀ i, i < ops.size → S' i) ∧ Now P X nt base ops.toList s v E0 h0 w0 S' E' w' tmps' ∧
      Steps P (lone (mkF fn tmps (.inRegion ops (Region.linearise.go .any ops fuel t listed []) :: k) ds rd) cs w) (lone (mkF fn tmps' (.inRegion ops [] :: k) ds rd) cs w') := by
  intro fuel
  induction fuel with
  | zero =>
    intro t listed E w tmps hs hl n
    refine ⟨E, w, tmps, _, fun i hi => ?_, n, .refl ..⟩
    cases hg : listed.getD i false with
    | true => rfl
    | false =>
      have hlt' : i < listed.size := by omega
      have hg : listed[i] = false := by simpa [Array.getD, hlt'] using hg
      have h0 : left ops.size listed = 0 := by omega
      have := List.countP_eq_zero.1 h0 i (List.mem_range.2 hi)
      simp [Array.getD, hlt', hg] at this
  | succ fuel ih =>
    intro t listed E w tmps hs hl n
    simp only [Region.linearise.go]
    change ∃ E' w' tmps' S', (∀ i, i < ops.size → S' i) ∧ Now P X nt base ops.toList s v E0 h0 w0 S' E' w' tmps' ∧ Steps P (lone (mkF fn tmps (.inRegion ops (match (Region.ready .any ops listed)[t % (Region.ready .any ops listed).length]? with
      | some i => Region.linearise.go .any ops fuel (t / (Region.ready .any ops listed).length) (listed.setIfInBounds i true) [i]
      | none => [].reverse) :: k) ds rd) cs w) (lone (mkF fn tmps' (.inRegion ops [] :: k) ds rd) cs w')
    cases hi : (Region.ready .any ops listed)[t % (Region.ready .any ops listed).length]? with
    | none =>
      have hnil : Region.ready .any ops listed = [] := by
        cases hr : Region.ready .any ops listed with
        | nil => rfl
        | cons x xs =>
          rw [hr] at hi
          have hlt : t % (x :: xs).length < (x :: xs).length := Nat.mod_lt _ (by simp)
          simp at hi
          simp at hlt
          omega
      exact ⟨E, w, tmps, _, fun i hi => all_done tr.edges hs hnil (i + 1) i (Nat.lt_succ_self i) hi, n, .refl ..⟩
    | some i =>
      have hmem := List.mem_of_getElem? hi
      obtain ⟨r1, o, r2, r3⟩ := mem_ready.1 hmem
      have hilt : i < ops.size := (Array.getElem?_eq_some_iff.1 r2).1
      have hS : ¬ (listed.getD i false = true) := fun h => by
        have hlt' : i < listed.size := by omega
        simp [Array.getD, hlt'] at h r1
        rw [h] at r1; cases r1
      have ha : ∀ j, Anc ops.toList i j → listed.getD j false = true := fun j h => by
        have ho' : ops.toList[i]? = some o := by simpa using r2
        cases h with
        | edge ho he hbd =>
          rw [ho'] at ho; cases ho
          exact r3 _ (by simpa using he) (by rw [binds_any]; exact hbd)
        | step ho he hbd h =>
          rw [ho'] at ho; cases ho
          exact n.closed _ _ (r3 _ (by simpa using he) (by rw [binds_any]; exact hbd)) h
      simp only []
      rw [linearise_go_acc, List.reverse_singleton, List.singleton_append]
      obtain ⟨E1, w1, tmps1, n1, st1⟩ := n.step hk hok tr hb (i := i) (o := o) (by simpa using r2) hS ha (fn := fn) (rest := Region.linearise.go .any ops fuel (t / (Region.ready .any ops listed).length) (listed.setIfInBounds i true) []) (k := k) (ds := ds) (rd := rd) (cs := cs)
      have hset : (fun j => listed.getD j false = true ∨ j = i) = fun j => (listed.setIfInBounds i true).getD j false = true := by
        funext j
        apply propext
        by_cases e : i = j
        · subst e
          simp [show i < listed.size by omega]
        · rw [getD_set_ne false e]
          exact ⟨fun h => h.elim id (fun h => absurd h.symm e), .inl⟩
      rw [hset] at n1
      obtain ⟨E2, w2, tmps2, S2, g1, g2, g3⟩ := ih (t / (Region.ready .any ops listed).length) (listed.setIfInBounds i true) E1 w1 tmps1 (by simpa using hs) (by have := left_set hs hilt r1; omega) n1
      exact ⟨E2, w2, tmps2, S2, g1, g2, st1.trans g3⟩

theorem evDraw_steps (hk : ∀ o, ClsOk P X cf cr o (cls o)) {ops : Array Oper} (hok : ∀ o ∈ ops.toList, opOk o = true) {fn : FuncId} {k : List Item} {ds : List Deferred} {rd : Option Nat} {cs : List Frame}
    {E : Emb} {h h' : Hp} {w : World} {tm tm' : Tr Value} {tmps : Array Value} (hs : tmps.size = nt) (ht : TR X E tm tmps) (hr : HRel P X E h w) (hv : evDraw P cf cr nt ops.toList tm h = some (tm', h')) (t : Nat) :
    ∃ E' w' tmps', Evo E h w E' h' w' ∧ HRel P X E' h' w' ∧ TR X E' tm' tmps' ∧ tmps'.size = nt ∧
      Steps P (lone (mkF fn tmps (.inRegion ops (Region.linearise .any ops t) :: k) ds rd) cs w) (lone (mkF fn tmps' (.inRegion ops [] :: k) ds rd) cs w') := by
  unfold evDraw at hv
  obtain ⟨bef, hd, hv⟩ := Option.bind_eq_some_iff.1 hv
  obtain ⟨z, hz, hv⟩ := Option.bind_eq_some_iff.1 hv
  cases hv
  unfold drawOk at hd
  obtain ⟨hd1, hd2⟩ := bif_none hd
  cases hd2
  simp only [Bool.and_eq_true] at hd1
  obtain ⟨s, e0, e1, e2⟩ := rgOps_trace ops.toList 0 _ _ hz
  rw [Nat.zero_add] at e1
  have hstep : ∀ i o, ops.toList[i]? = some o → ∃ v, putTm nt (s i).tm o.dst v = some (s (i + 1)).tm ∧ RgStep P cf cr h.nx (befAt (befL ops.toList []) i) i ops.toList o (s i) (s (i + 1)) v := fun i o ho => by
    have := e2 i o ho
    rw [Nat.zero_add] at this
    exact rgOne_inv this
  have hval : ∃ v : Nat → Value, ∀ i o, ops.toList[i]? = some o → putTm nt (s i).tm o.dst (v i) = some (s (i + 1)).tm ∧ RgStep P cf cr h.nx (befAt (befL ops.toList []) i) i ops.toList o (s i) (s (i + 1)) (v i) := by
    have hex : ∀ i, ∃ v, ∀ o, ops.toList[i]? = some o → putTm nt (s i).tm o.dst v = some (s (i + 1)).tm ∧ RgStep P cf cr h.nx (befAt (befL ops.toList []) i) i ops.toList o (s i) (s (i + 1)) v := fun i => by
      cases ho : ops.toList[i]? with
      | none => exact ⟨undef, fun o h => by cases h⟩
      | some o =>
        obtain ⟨v, hv⟩ := hstep i o ho
        exact ⟨v, fun o' h => by cases h; exact hv⟩
    exact ⟨fun i => (hex i).choose, fun i => (hex i).choose_spec⟩
  obtain ⟨v, hval⟩ := hval
  have tr : Trk P cf cr nt h.nx ops.toList s v := ⟨hd1.1, hd1.2, by rw [e0], by rw [e0], by rw [e0], hval⟩
  have hs0 : (s 0).hp = .mk (h.nx + ops.toList.length) h.tr := by rw [e0]; rfl
  have hget0 : ∀ b, (s 0).hp.getB b = h.getB b := fun b => by rw [hs0, Hp.getB_mk, Hp.getB_tr]
  have hnx0 : (s 0).hp.nx = h.nx + ops.toList.length := by rw [hs0]; rfl
  have hr0 : HRel P X E (s 0).hp w := ⟨fun b x hb => hr.blk b x (by rw [← hget0]; exact hb), fun b b' x x' a a' hb hb' => hr.inj b b' x x' a a' (by rw [← hget0]; exact hb) (by rw [← hget0]; exact hb'),
    fun b hb => by rw [hget0]; exact hr.fresh b (by omega), hr.bound⟩
  have he0 : Evo E h w E (s 0).hp w := ⟨fun _ _ h => h, fun _ _ h h' => (by rw [h] at h'; cases h'), by omega, Nat.le_refl _, fun _ _ _ => rfl, fun i hi => by
    obtain ⟨b, x, ad, h1, h2, h3⟩ := hi
    exact .inl ⟨b, x, ad, by rw [← hget0]; exact h1, h2, h3⟩, rfl, rfl, fun _ => rfl⟩
  have hrep : ∀ i, (Array.replicate ops.size false).getD i false = true → False := fun i h => by
    by_cases hlt : i < ops.size
    · simp [Array.getD, hlt] at h
    · simp [Array.getD, hlt] at h
  have n0 : Now P X nt h.nx ops.toList s v E h w (fun i => (Array.replicate ops.size false).getD i false = true) E w tmps := by
    refine ⟨hs, fun i j h => (hrep i h).elim, fun t => ⟨_, .inr ⟨fun j o h => (hrep j h).elim, rfl⟩, ?_⟩, fun a h1 h2 => (hr.fresh _ (by omega)).1, ?_⟩
    · rw [e0]; exact ht t
    · refine ⟨0, (s 0).hp, by omega, fun e _ => ⟨fun h => (hrep e h).elim, fun h => by omega⟩, ⟨rfl, fun a b h => (hrep a h.2.1).elim, fun _ _ => rfl⟩, fun a b h1 h2 => ?_, by omega, hr0, he0⟩
      rw [hget0]; exact (hr.fresh _ (by omega)).2
  obtain ⟨E', w', tmps', S', g1, g2, g3⟩ := go_steps hk hok tr rfl (fn := fn) (k := k) (ds := ds) (rd := rd) (cs := cs) ops.size t (Array.replicate ops.size false) E w tmps (by simp) (by
    have : left ops.size (Array.replicate ops.size false) ≤ (List.range ops.size).length := List.countP_le_length
    simpa using this) n0
  have hlen : ops.toList.length = ops.size := by simp
  obtain ⟨p, cur, a1, a2, hcur, a4, a5, a6, a7⟩ := g2.mem
  have hall : ∀ e, Ef ops.toList s e → e < p := fun e he => (a2 e he).1 (g1 e (by have := he.lt; omega))
  have hsame : (s ops.toList.length).hp = (s p).hp := tr.same _ a1 (Nat.le_refl _) fun e h1 h2 he => by have := hall e he; omega
  have hlay := lay_cur tr (Nat.le_refl ops.toList.length) (fun _ => true)
  have hfil : ((s ops.toList.length).pend.filter fun _ => true) = z.pend := by rw [e1]; exact List.filter_eq_self.2 fun _ _ => rfl
  rw [hfil, e1] at hlay
  rw [e1] at hsame
  have hpt : ∀ b, (layAll z.pend z.hp).getB b = cur.getB b := fun b => by
    have hl : ∀ a, Laid ops.toList s ops.toList.length a ↔ Laid ops.toList s p a := fun a =>
      ⟨fun ⟨e, k1, k2, k3⟩ => ⟨e, k1, hall e k1, k3⟩, fun ⟨e, k1, k2, k3⟩ => ⟨e, k1, by omega, k3⟩⟩
    by_cases hq : ∃ a x, Pnd P h.nx ops.toList s S' p a x ∧ b = h.nx + a
    · obtain ⟨a, x, k1, rfl⟩ := hq
      rw [hcur.2.1 a x k1, hlay.2.1 a x ⟨k1.1, k1.1.lt, rfl, fun h => k1.2.2 ((hl a).1 h)⟩]
    · rw [hcur.2.2 b fun a x k1 k2 => hq ⟨a, x, k1, k2⟩, hlay.2.2 b fun a x k1 k2 => hq ⟨a, x, ⟨k1.1, g1 a (by omega), fun h => k1.2.2.2 ((hl a).2 h)⟩, k2⟩, hsame]
  have hnx : (layAll z.pend z.hp).nx = cur.nx := by rw [layAll_nx, hcur.1, hsame]
  refine ⟨E', w', tmps', a7.congr hpt hnx, a6.congr hpt hnx, fun t => ?_, g2.size, g3⟩
  obtain ⟨u, k1, k2⟩ := g2.tmp t
  have k3 := tr.tm t ops.toList.length (Nat.le_refl _)
  rw [e1] at k3
  have : u = tmOf z.tm (.tmp t) := k1.uniq (k3.congr fun j o ho _ => by
    have := (List.getElem?_eq_some_iff.1 ho).1
    exact ⟨fun _ => g1 j (by omega), fun _ => this⟩)
  rw [← this]; exact k2

/-- A region, from its code to what comes after it. -/
theorem region_steps (hk : ∀ o, ClsOk P X cf cr o (cls o)) (hmix : P.follows .mixedOrders = true) {ops : Array Oper} (hok : ∀ o ∈ ops.toList, opOk o = true) {fn : FuncId} {k : List Item} {ds : List Deferred} {rd : Option Nat} {cs : List Frame} {id : Nat} {draw : Bool}
    {E : Emb} {h h' : Hp} {w : World} {tm tm' : Tr Value} {tmps : Array Value} (hs : tmps.size = nt) (ht : TR X E tm tmps) (hr : HRel P X E h w)
    (hv : (bif draw then evDraw P cf cr nt ops.toList tm h else evOps P cf cr nt ops.toList ops.toList tm h) = some (tm', h')) :
    ∃ E' w' tmps', Evo E h w E' h' w' ∧ HRel P X E' h' w' ∧ TR X E' tm' tmps' ∧ tmps'.size = nt ∧
      Steps P (lone (mkF fn tmps (.code (.region id ops draw) :: k) ds rd) cs w) (lone (mkF fn tmps' k ds rd) cs w') := by
  have hend : ∀ tmps' w', step P (lone (mkF fn tmps' (.inRegion ops [] :: k) ds rd) cs w') = .next (lone (mkF fn tmps' k ds rd) cs w') := fun tmps' w' =>
    step_lone_go (by simp [stepG, stepG.exec, mkF])
  cases draw with
  | false =>
    rw [cond_false] at hv
    have hstart : step P (lone (mkF fn tmps (.code (.region id ops false) :: k) ds rd) cs w) = .next (lone (mkF fn tmps (.inRegion ops (List.range ops.size) :: k) ds rd) cs w) :=
      step_lone_go (by simp [stepG, stepG.exec, mkF])
    obtain ⟨E', w', tmps', h1, h2, h3, h4, h5⟩ := evOps_steps hk (cs := cs) (k := k) (ds := ds) (rd := rd) (fn := fn) hok ops.toList 0 E h w tm tm' tmps h' (fun j o hj => by simpa using hj) hs ht hr hv
    have hrange : List.range' 0 ops.toList.length = List.range ops.size := by rw [List.range_eq_range']; simp
    rw [hrange] at h5
    exact ⟨E', w', tmps', h1, h2, h3, h4, (Steps.head hstart h5).trans (.one (hend _ _))⟩
  | true =>
    rw [cond_true] at hv
    have hstart : step P (lone (mkF fn tmps (.code (.region id ops true) :: k) ds rd) cs w) = .next (lone (mkF fn tmps (.inRegion ops (Region.linearise .any ops (w.tape w.drawn (.order fn id))) :: k) ds rd) cs { w with drawn := w.drawn + 1 }) :=
      step_lone_go (by simp [stepG, stepG.exec, mkF, choose, Sem.run, Question.forced, Question.cut, Region.schedule, hmix])
    obtain ⟨E', w', tmps', h1, h2, h3, h4, h5⟩ := evDraw_steps hk hok hs ht (hr.draw (w.drawn + 1)) hv (w.tape w.drawn (.order fn id)) (fn := fn) (k := k) (ds := ds) (rd := rd) (cs := cs)
    exact ⟨E', w', tmps', (Evo.draw w (w.drawn + 1)).trans h1, h2, h3, h4, (Steps.head hstart h5).trans (.one (hend _ _))⟩
end
end Go.Abs
