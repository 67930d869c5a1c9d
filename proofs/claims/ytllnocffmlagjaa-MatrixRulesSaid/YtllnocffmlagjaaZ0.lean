/- From a row's inputs to the walks' words, and from a walk's end to the row's. Conditions: each theorem names its own. -/
import Derived.Test.YtllnocffmlagjaaRows
import Derived.ProofKit
import Derived.OpenShut
import Derived.Deep.Slices
import Derived.Carry
import Derived.Test.YtllnocffmlagjaaC0
set_option linter.unusedVariables false
namespace Go.Proofs.Ytllnocffmlagjaa
open Go.ChangeShapes Go.WideShapes Go.ChangeAt Go.RowKit Go.Deep

theorem Try.own : ownKnob Try.prog.godebug = none := by kernel_rfl
theorem Try.laidOut : laidOutB Try.prog = true := by kernel_rfl
theorem cells5 : Try.prog.cellsOf 5 = 1 := by kernel_rfl
theorem cells22 : Try.prog.cellsOf 22 = 1 := by kernel_rfl

section
variable {H : Type} {enc : TypeId × Value → H} {W W' : World}
/-- The bytes of a list of numbers. -/
def bytesOf (zs : List Int) : List UInt8 := zs.map fun z => UInt8.ofNat z.toNat
theorem bytesOf_at (zs : List Int) (i : Nat) (hi : i < zs.length) (hw : (Lit.int .u8 (zs.getD i 0)).wf = true) : V8 ((bytesOf zs).getD i 0) = zs.getD i 0 := by
  have hb := bounds_u8 hw
  simp only [bytesOf, List.getD_eq_getElem?_getD, List.getElem?_map, List.getElem?_eq_getElem hi, Option.map_some, Option.getD_some] at hb ⊢
  unfold V8
  rw [UInt8.toNat_ofNat']
  omega

/-- A byte slice that comes in, its cell. -/
theorem sl_of_trod {base : Nat} {spare : Nat → Bool} {held : Bool} {fuel : Nat} {cs : List Value} {x : DataW H × List MemPlace} (h : DataW.trod enc Try.prog W base spare held fuel 22 cs = some x) :
    ∃ u bs, cs = [u] ∧ Sl W u (bv bs) := by
  rcases open_ints Try.underlying22 Try.underlying5 cells5 h with ⟨rfl, _⟩ | ⟨a, len, cap, zs, rfl, _, hl, hm, hz, _, hcell, hwz⟩
  · exact ⟨_, [], rfl, ⟨none, 0, rfl, Nat.le_refl _, by simp [maxLen], fun _ => rfl, Rd.nil⟩⟩
  · have hlz : len ≤ zs.length := by rw [hz]; split <;> omega
    refine ⟨_, bytesOf (zs.take len), rfl, ⟨some a, cap, by simp [bv_length, bytesOf, Nat.min_eq_left hlz], by simp [bv_length, bytesOf]; omega, hm, nofun, fun i hi => ?_⟩⟩
    have hi' : i < len := by simp [bv_length, bytesOf] at hi; omega
    have h0 := hcell 0 (by omega)
    obtain ⟨b, o, sp⟩ := a
    have hs : sp = none := by simpa [Addr.add] using World.cell?_spot h0
    subst hs
    refine ⟨b, o, rfl, ?_⟩
    have hc := hcell i (by omega)
    rw [add_plain] at hc
    rw [hc, bv_getD _ _ (by simp [bytesOf]; omega), bytesOf_at _ _ (by simp; omega)]
    · simp [List.getD_eq_getElem?_getD, hi']
    · refine hwz _ ?_
      simp only [List.getD_eq_getElem?_getD, List.getElem?_take, if_pos hi', List.getElem?_eq_getElem (show i < zs.length by omega), Option.getD_some]
      exact List.getElem_mem _
set_option maxRecDepth 100000 in
theorem open_bytes {v : Value} {d : DataW H} {ps : List MemPlace} (h : DataW.Trod enc Try.prog W 0 (fun _ => true) true 22 v d ps) {b0 : Nat} (hk : Value.okWide Try.prog W .any b0 22 v) : ∃ bs, Sl W v (bv bs) := by
  obtain ⟨a, len, cap, rfl⟩ := okWide_slice Try.underlying22 hk
  obtain ⟨fuel, hf⟩ := h
  obtain ⟨u, bs, hu, hs⟩ := sl_of_trod hf
  simp [Value.cells] at hu
  subst hu
  exact ⟨bs, hs⟩
set_option maxRecDepth 100000 in
theorem open_parts {v : Value} {d : DataW H} {ps : List MemPlace} (h : DataW.Trod enc Try.prog W 0 (fun _ => true) true 27 v d ps) {b0 : Nat} (hk : Value.okWide Try.prog W .any b0 27 v) : ∃ pss, Parts W v pss := by
  obtain ⟨a0, len0, cap0, rfl⟩ := okWide_slice Try.underlying27 hk
  obtain ⟨fuel, hf⟩ := h
  rcases open_slice Try.underlying27 hf with ⟨hcs, _⟩ | ⟨a, len, cap, m, n, D, Pl, hcs, _, hl, hm, hmm, _, hel⟩
  · simp [Value.cells] at hcs
    obtain ⟨rfl, rfl, rfl⟩ := hcs
    exact ⟨[], [], ⟨none, 0, rfl, Nat.le_refl _, by simp [maxLen], fun _ => rfl, Rd.nil⟩, rfl, fun i hi => by simp at hi⟩
  · simp [Value.cells] at hcs
    obtain ⟨rfl, rfl, rfl⟩ := hcs
    have hlm : len0 ≤ m := by rw [hmm]; split <;> omega
    have hone : ∀ i, i < len0 → ∃ u bs, W.cell? (a.add i) = some u ∧ Sl W u (bv bs) := by
      intro i hi
      obtain ⟨cs', hc, ht⟩ := hel i (by omega)
      obtain ⟨u, bs, rfl, hs⟩ := sl_of_trod ht
      refine ⟨u, bs, ?_, hs⟩
      rw [cells22, Nat.mul_one] at hc
      have e0 : (a.add i).add 0 = a.add i := by simp [Addr.add]
      simp [World.cells?, List.range_succ, e0] at hc
      cases hq : W.cell? (a.add i) with
      | none => simp [hq] at hc
      | some c => simp [hq] at hc; rw [hc]
    let us : List Value := (List.range len0).map fun i => if h : i < len0 then (hone i h).choose else undef
    let bss : List (List UInt8) := (List.range len0).map fun i => if h : i < len0 then (hone i h).choose_spec.choose else []
    have hu : ∀ i, i < len0 → W.cell? (a.add i) = some (us.getD i undef) ∧ Sl W (us.getD i undef) (bv (bss.getD i [])) := by
      intro i hi
      have h1 : us.getD i undef = (hone i hi).choose := by simp [us, List.getD_eq_getElem?_getD, hi]
      have h2 : bss.getD i [] = (hone i hi).choose_spec.choose := by simp [bss, List.getD_eq_getElem?_getD, hi]
      rw [h1, h2]
      exact (hone i hi).choose_spec.choose_spec
    have hlu : us.length = len0 := by simp [us]
    have hlb : bss.length = len0 := by simp [bss]
    refine ⟨bss, us, ⟨some a, cap0, by rw [hlu], by rw [hlu]; exact hl, hm, nofun, fun i hi => ?_⟩, by rw [hlu, hlb], fun i hi => (hu i (by omega)).2⟩
    have hi' : i < len0 := by omega
    have h0 := (hu 0 (by omega)).1
    obtain ⟨b, o, sp⟩ := a
    have hs : sp = none := by simpa [Addr.add] using World.cell?_spot h0
    subst hs
    refine ⟨b, o, rfl, ?_⟩
    have hc := (hu i hi').1
    rw [add_plain] at hc
    exact hc

theorem trodAll_below : ∀ (ts : List TypeId) (vs : List Value) (ds : List (DataW H)) (ps : List MemPlace), (∀ t ∈ ts, Try.prog.readableRec t = true ∧ t < Try.prog.types.size) →
    DataW.TrodAll enc Try.prog W 0 (fun _ => true) true ts vs ds ps → Below W.heap.size W W' → (∀ x ∈ ps, x.block < W.heap.size) →
    DataW.TrodAll enc Try.prog W' 0 (fun b => decide (b < W.heap.size)) true ts vs ds ps := by
  intro ts
  induction ts with
  | nil =>
    intro vs ds ps _ h _ _
    obtain ⟨rfl, rfl, rfl⟩ := trodAll_nil h
    exact trodAll_mk0
  | cons t ts ih =>
    intro vs ds ps ht h hb hlt
    obtain ⟨v, vs', d, ds', p, q, rfl, rfl, rfl, h1, h2⟩ := trodAll_cons h
    exact trodAll_cons_mk (Below.trod Try.laidOut (ht t (by simp)).1 (ht t (by simp)).2 h1 hb fun x hx => hlt x (by simp [hx]))
      (ih _ _ _ (fun t' h' => ht t' (by simp [h'])) h2 hb fun x hx => hlt x (by simp [hx]))

/-- What a law leaves: true, and whatever lay lies as it lay. -/
theorem law_post {f : Func} {s : ChangeSpec} {args : Array Value} {ds gs : List (DataW H)} {before : List MemPlace} (hW : DataW.Whole enc Try.prog f.params.toList s.vars false W args.toList ds gs before)
    (hv : s.vars = []) (ht : ∀ t ∈ f.params.toList, Try.prog.readableRec t = true ∧ t < Try.prog.types.size) (hr : f.resultTypes = #[4])
    (hres : (s.fn H (ds ++ gs)).results = [.lit (.bool true)]) (harg : (s.fn H (ds ++ gs)).args = ds) (hvars : (s.fn H (ds ++ gs)).vars = []) (hb : Below W.heap.size W W') :
    s.post enc Try.prog f false true false false W args (.bool true) W' := by
  have hW' := hW
  obtain ⟨p, q, hA, hV, rfl, _, _⟩ := hW
  rw [hv] at hV
  obtain ⟨rfl, rfl⟩ := trodVars_none hV
  refine ⟨ds, [], p ++ [], [], p, [], hW', ?_, ?_, ?_, hb.frame _, fun h => by cases h⟩
  · rw [hres, hr]
    exact trodAll_mk1 (shut_bool Try.underlying4 _)
  · rw [harg]
    exact trodAll_below _ _ _ _ ht hA hb fun x hx => hW'.lt x (by simpa using hx)
  · rw [hvars, hv]; rfl
end
end Go.Proofs.Ytllnocffmlagjaa
