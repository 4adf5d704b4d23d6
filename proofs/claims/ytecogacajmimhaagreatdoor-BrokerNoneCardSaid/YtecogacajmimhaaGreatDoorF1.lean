/-
  grapevinelaw16.BrokerNone: its call, on any tape, in any memory, at any input.
-/
import Derived.Test.YtecogacajmimhaaGreatDoorC1
import Derived.Test.YtecogacajmimhaaGreatDoorC2
import Derived.Test.YtecogacajmimhaaGreatDoorC3
import Derived.Test.YtecogacajmimhaaGreatDoorC4
import Derived.Test.YtecogacajmimhaaGreatDoorC5
import Derived.RowKit3
namespace Go.Abs
open Go.Proofs Go.RowKit

theorem mixed : Tryz.prog.follows .mixedOrders = true := by kernel_rfl

theorem clone_next : (Extern.findNext Tryz.f167).isNone = true := by kernel_rfl
theorem clone_name : Tryz.f167.name = "maps.clone" := rfl
theorem clone_row : Extern.find Tryz.f167 = some Extern.MapsClone.clone := by kernel_rfl

theorem clone_ok : CloneOk Tryz.prog := by
  intro args w
  have hf : Tryz.prog.funcs[CLONE]? = some Tryz.f167 := Tryz.func167
  have hn : Extern.findNext Tryz.f167 = none := Option.isNone_iff_eq_none.1 clone_next
  have hb : Tryz.f167.body = none := rfl
  simp [callFunc, hf, hn, hb, clone_row, clone_name]

section
variable {X : Nat → Option Value}
theorem known_all (hX : ∀ k r, X k = some r → scalar r = true) : ∀ e ∈ [ef62_8, ef8_1804], Known Tryz.prog X e := by
  have K : ∀ {es : List Ent} {e : Ent}, (∀ e ∈ es, Known Tryz.prog X e) → e.ok es = true → Known Tryz.prog X e := fun hes h => known_of hX clone_ok mixed hes h
  have nil : ∀ e ∈ ([] : List Ent), Known Tryz.prog X e := fun _ h => by cases h
  have one : ∀ {a : Ent}, Known Tryz.prog X a → ∀ e ∈ [a], Known Tryz.prog X e := fun ha e he => by
    rcases List.mem_cons.1 he with rfl | he
    · exact ha
    · cases he
  have more : ∀ {a : Ent} {es : List Ent}, Known Tryz.prog X a → (∀ e ∈ es, Known Tryz.prog X e) → ∀ e ∈ a :: es, Known Tryz.prog X e := fun ha hes e he => by
    rcases List.mem_cons.1 he with rfl | he
    · exact ha
    · exact hes e he
  have h6 := K (more (K nil kf32_146) (more (K nil kf32_210) (more (K nil kf32_360) (more (K nil kf32_440) (one (K nil kf32_504)))))) kf6_11
  have h16 := K (one (K nil kf100_778)) kf16_705
  have h21 := K (more (K nil kf100_1050) (more (K nil kf100_1154) (more (K nil kf100_1366) (one (K nil kf100_1470))))) kf21_881
  have h62 := K (more h6 (more h16 (one h21))) kf62_8
  have h145 := K (more (K nil kf220_1918) (more (K nil kf220_1933) (more (K nil kf220_1948) (more (K nil kf220_1963) (more (K nil kf220_1978) (more (K nil kf220_1993) (more (K nil kf220_2008) (more (K nil kf220_2023)
    (more (K nil kf220_2038) (more (K nil kf220_2053) (more (K nil kf220_2068) (more (K nil kf220_2083) (more (K nil kf220_2098) (more (K nil kf220_2113) (more (K nil kf220_2128) (one (K nil kf220_2143))))))))))))))))) kf145_1903
  have h40 := K (one h145) kf40_1880
  have h35 := K (one (K nil kf84_2332)) kf35_2283
  have h54 := K (one (K nil kf84_3889)) kf54_3889
  have h42 := K (more h35 (one h54)) kf42_2283
  have h8 := K (more h40 (one h42)) kf8_1804
  exact more h62 (one h8)
end

/-- THE CALL: true, and nothing that was there is turned. -/
theorem law_calls (a b c : Value) (ha : scalar a = true) (hb : scalar b = true) (hc : scalar c = true) (W : World) :
    Calls Tryz.prog 4 #[a, b, c] W fun e W' => e = .returned (.bool true) ∧ Grown W W' ∧ ∀ i, i < W.heap.size → W'.heap[i]? = W.heap[i]? := by
  let X : Nat → Option Value := fun k => match k with
    | 0 => some a
    | 1 => some b
    | 2 => some c
    | _ => none
  have hX : ∀ k r, X k = some r → scalar r = true := fun k r h => by
    match k, h with
    | 0, h => cases h; exact ha
    | 1, h => cases h; exact hb
    | 2, h => cases h; exact hc
  have hr : HRel Tryz.prog X (fun _ => none) (.mk 0 .nil) W := ⟨(fun b x h => by cases h), (fun b b' x x' ad ad' h => by cases h), (fun b _ => ⟨rfl, rfl⟩), fun b ad h => by cases h⟩
  have hargs : VRL X (fun _ => none) [opq 0, opq 1, opq 2] [a, b, c] := .cons (.opq rfl) (.cons (.opq rfl) (.cons (.opq rfl) .nil))
  have hlaw := law_true
  cases hres : kc [ef62_8, ef8_1804] 4 [opq 0, opq 1, opq 2] (.mk 0 .nil) with
  | none => rw [hres] at hlaw; cases hlaw
  | some r =>
    obtain ⟨v, h'⟩ := r
    rw [hres] at hlaw
    have hv : v = .bool true := by
      unfold isTrue at hlaw
      split at hlaw
      · rename_i h; cases h; rfl
      · cases hlaw
    subst hv
    refine (calls_of hX clone_ok mixed (fun _ h => memo_good h _ (known_all hX)) hargs hr hres).mono fun e W' ⟨E', v', he, hv', ev, _⟩ => ?_
    have hv' := hv'.bool_inv
    subst hv' he
    have hheap : ∀ i, i < W.heap.size → W'.heap[i]? = W.heap[i]? := fun i hi => ev.frame i hi fun ⟨b, x, ad, _, h, _⟩ => by cases h
    refine ⟨rfl, ⟨⟨ev.os, ev.output, fun i hi => ?_⟩, ev.froz, ev.size⟩, hheap⟩
    rw [hheap i hi]
    cases W.heap[i]? with
    | none => rfl
    | some o => cases o <;> first | exact ⟨rfl, rfl, rfl, fun _ _ => rfl⟩ | exact .inr ⟨rfl, rfl⟩ | rfl
end Go.Abs
