/- From a row's reading of an argument to a slice of bytes; and the row's last step for a law that returns true and leaves what was below. -/
import Derived.Test.YtnademkndfecoaaDoorMem
import Derived.Test.YtnademkndfecoaaDoorChecked
import Derived.ProofKit
import Derived.HandedShaped
namespace Go.Proofs.YtnademkndfecoaaDoor
open Go.ChangeShapes Go.WideShapes Go.ChangeAt Go.RowKit

theorem Tryd.own : ownKnob Tryd.prog.godebug = none := by kernel_rfl
theorem Tryd.laidOut : laidOutB Tryd.prog = true := by kernel_rfl

section
variable {H : Type} {enc : TypeId × Value → H} {P : Program}

theorem byte_ints (zs : List Int) (h : ∀ z ∈ zs, (Lit.int .u8 z).wf = true) : ∃ xs : List UInt8, zs = xs.map fun x => (x.toNat : Int) := by
  induction zs with
  | nil => exact ⟨[], rfl⟩
  | cons z zs ih =>
    obtain ⟨xs, rfl⟩ := ih fun y hy => h y (List.mem_cons_of_mem _ hy)
    have hz := h z (by simp)
    have h1 : IntKind.u8.min = 0 := rfl
    have h2 : IntKind.u8.max = 255 := rfl
    simp only [Lit.wf, Bool.and_eq_true, decide_eq_true_eq] at hz
    refine ⟨UInt8.ofNat z.toNat :: xs, ?_⟩
    simp only [List.map_cons, List.cons.injEq, and_true]
    rw [UInt8.toNat_ofNat']
    omega

/-- An argument of type []byte, opened. -/
theorem opened_bsl {t e : TypeId} (ht : P.underlying t = some (.slice e)) (he : P.underlying e = some (.int .u8)) (hc : P.cellsOf e = 1) (hz : P.bytesOf e = 1) {W : World} {a0 : Option Addr} {len cap : Nat} {d0 : DataW H} {p : List MemPlace}
    (h0 : DataW.Trod enc P W 0 (fun _ => true) true t (.slice a0 len cap) d0 p) (hsz : (d0.weights P t).all (· ≤ reachBytes) = true) :
    ∃ xs : List UInt8, Bsl W W.heap.size a0 len cap xs ∧ cap ≤ reachBytes := by
  obtain ⟨fuel, hf⟩ := h0
  rcases open_ints ht he hc hf with ⟨hcs, hx⟩ | ⟨a, len', cap', zs, hcs, _, hl, hm, hlen, hx, hcell, hwz⟩
  · simp [Value.cells] at hcs
    obtain ⟨rfl, rfl, rfl⟩ := hcs
    exact ⟨[], Bsl.empty _ _ _ _ (Nat.zero_le _), Nat.zero_le _⟩
  · simp [Value.cells] at hcs
    obtain ⟨rfl, rfl, rfl⟩ := hcs
    simp only [Prod.mk.injEq] at hx
    obtain ⟨rfl, rfl⟩ := hx
    simp only [if_true] at hlen
    have hcap : cap ≤ reachBytes := by
      simp only [DataW.weights, ht, List.all_cons, Bool.and_eq_true, decide_eq_true_eq] at hsz
      have := hsz.1
      simp only [lits, List.length_map, List.length_take, List.length_drop, hz] at this
      omega
    obtain ⟨xs, hxs⟩ := byte_ints zs hwz
    subst hxs
    simp only [List.length_map] at hlen hcell
    have hr : reachBytes ≤ maxB := by decide +kernel
    refine ⟨xs.take len, ⟨by simp; omega, hl, hm, by omega, ?_⟩, hcap⟩
    rcases Nat.eq_zero_or_pos len with rfl | hpos
    · exact .inl (by simp)
    · have h0 := hcell 0 (by omega)
      obtain ⟨b, off, s⟩ := a
      have hs : s = none := World.cell?_spot h0
      subst hs
      have hb := World.block_lt_of_cell? _ _ h0
      refine .inr ⟨b, off, rfl, hb, fun j u hu => ?_⟩
      simp only [List.getElem?_map, List.getElem?_take] at hu
      split at hu
      · rename_i hj
        cases hxj : xs[j]? with
        | none => rw [hxj] at hu; cases hu
        | some x =>
          rw [hxj] at hu
          simp only [Option.map_some, Option.some.injEq] at hu
          subst hu
          have hc := hcell j (by omega)
          simp only [List.getD_eq_getElem?_getD, List.getElem?_map, hxj, Option.map_some, Option.getD_some] at hc
          simp only [Addr.add] at hc
          by_cases hj0 : j = 0
          · subst hj0
            exact hc
          · rw [if_neg hj0] at hc
            exact hc
      · cases hu

/-- All the arguments read behind the call as they read ahead of it. -/
theorem Below.trodAll (hl : laidOutB P = true) {W W' : World} (hb : Below W.heap.size W W') :
    ∀ (ts : List TypeId) (_ : ∀ t ∈ ts, P.readableRec t = true ∧ t < P.types.size) (vs : List Value) (ds : List (DataW H)) (ps : List MemPlace), (∀ x ∈ ps, x.block < W.heap.size) →
      DataW.TrodAll enc P W 0 (fun _ => true) true ts vs ds ps → DataW.TrodAll enc P W' 0 (fun b => decide (b < W.heap.size)) true ts vs ds ps := by
  intro ts
  induction ts with
  | nil => intro _ vs ds ps _ h; cases vs <;> cases ds <;> exact h
  | cons t ts ih =>
    intro hr vs ds ps hlt h
    obtain ⟨v, vs', d, ds', p, q, rfl, rfl, rfl, h1, h2⟩ := trodAll_cons h
    have ht := hr t (by simp)
    exact ⟨p, q, Below.trod hl ht.1 ht.2 h1 hb (fun x hx => hlt x (List.mem_append.2 (.inl hx))), ih (fun t ht => hr t (List.mem_cons_of_mem _ ht)) vs' ds' q (fun x hx => hlt x (List.mem_append.2 (.inr hx))) h2, rfl⟩

/-- THE ROW'S LAST STEP: true; the arguments as they read; the blocks below as they were. -/
theorem post_true {f : Func} {s : ChangeSpec} {tb : TypeId} (hl : laidOutB P = true) (hv : s.vars = []) (hr : f.resultTypes = #[tb]) (ht : P.underlying tb = some .bool)
    (hp : ∀ t ∈ f.params.toList, P.readableRec t = true ∧ t < P.types.size) {W W' : World} {args : Array Value} {ds gs : List (DataW H)} {before : List MemPlace}
    (hW : DataW.Whole enc P f.params.toList s.vars false W args.toList ds gs before) (hb : Below W.heap.size W W')
    (hfn : s.fn H ds = { results := [.lit (.bool true)], args := ds }) :
    s.post enc P f false true false false W args (.bool true) W' := by
  have hW' := hW
  obtain ⟨p, q, hA, hV, rfl, _, _⟩ := hW
  have hlt : ∀ x ∈ p ++ q, x.block < W.heap.size := fun x hx => hW'.lt x hx
  rw [hv] at hV
  have hV2 : gs = [] ∧ q = [] := by cases gs <;> simp_all [DataW.TrodVars]
  obtain ⟨rfl, rfl⟩ := hV2
  refine ⟨ds, [], p ++ [], [], p, [], hW', ?_, ?_, ?_, hb.frame _, fun h => by cases h⟩
  · rw [List.append_nil, hfn, hr]
    exact trodAll_mk1 (shut_bool ht true)
  · rw [List.append_nil, hfn]
    exact Below.trodAll hl hb _ hp _ _ _ (fun x hx => hlt x (by simpa using hx)) hA
  · rw [List.append_nil, hfn, hv]
    rfl
end
end Go.Proofs.YtnademkndfecoaaDoor
