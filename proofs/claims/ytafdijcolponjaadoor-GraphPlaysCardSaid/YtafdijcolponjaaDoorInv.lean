/- A region that draws its order, walked by an invariant: one obligation for each operation, none for each order. No program is walked here; no condition but those in each statement. -/
import Derived.Test.YtafdijcolponjaaDoorOwn
import Derived.Orders
namespace Go.Proofs.YtafdijcolponjaaDoor
open Go.RowKit
variable {P : Program} {ops : Array Oper} {Q : Exit → Act → World → Prop}

/-- The post of one operation: K behind it, Q at a panic. -/
def Behind (K : Act → World → Prop) (Q : Exit → Act → World → Prop) : Exit → Act → World → Prop
  | .normal, a, w => K a w
  | e, a, w => Q e a w

theorem wp_behind {o : Oper} {a : Act} {w : World} {K K' : Act → World → Prop} (hK : ∀ a w, K' a w → K a w) (h : o.wp P a w K' (Behind K Q)) : o.wp P a w K Q := by
  unfold Oper.wp at *
  generalize (execOp a.eval o).run P w = r at *
  cases r with
  | ok n w' =>
    cases n <;> simp only [Oper.upon] at h ⊢ <;>
      first
        | exact hK _ _ h
        | exact Calls.mono h (fun e w'' he => by cases e <;> first | exact hK _ _ he | exact he)
        | exact Rows.mono h (fun _ _ he => hK _ _ he)
  | halt x w' => cases x <;> simp only [Oper.upon] at h ⊢ <;> exact h

theorem wpOp_of_list {i : Nat} {o : Oper} {a : Act} {w : World} {K : Act → World → Prop} (hi : ops[i]? = some o) (h : wpList P ops (Behind K Q) [o] a w) : wpOp P ops Q i K a w := by
  unfold wpOp
  simp only [hi]
  unfold wpList at h
  split
  · rename_i hw
    simp only [hw, if_true] at h
    exact h.imp (wp_behind fun _ _ h => h) id
  · rename_i hw
    simp only [hw, Bool.false_eq_true, if_false] at h
    exact h

def left (listed : Array Bool) : Nat := listed.toList.count false

theorem left_set {listed : Array Bool} {i : Nat} (h : listed.getD i true = false) : left (listed.setIfInBounds i true) + 1 = left listed := by
  have hlt : i < listed.size := by
    rcases Nat.lt_or_ge i listed.size with g | g
    · exact g
    · simp [Array.getElem?_eq_none g] at h
  have hv : listed.toList[i]'(by simpa using hlt) = false := by simpa [hlt] using h
  unfold left
  rw [Array.toList_setIfInBounds, List.count_set (by simpa using hlt), hv]
  have : 0 < listed.toList.count false := List.count_pos_iff.2 (hv ▸ List.getElem_mem _)
  simp only [beq_self_eq_true, if_true, show (true == false) = false from rfl, Bool.false_eq_true, if_false]
  omega

/-- What has come up came up behind all that it waits for. -/
def Closed (ops : Array Oper) (listed : Array Bool) : Prop :=
  ∀ (j : Nat) (o : Oper), ops[j]? = some o → listed.getD j false = true → ∀ e ∈ o.after, Region.binds .any e = true → listed.getD e.on false = true

theorem closed_set {listed : Array Bool} {i : Nat} {o : Oper} (hc : Closed ops listed) (ho : ops[i]? = some o) (hd : ∀ e ∈ o.after, Region.binds .any e = true → listed.getD e.on false = true) : Closed ops (listed.setIfInBounds i true) := by
  intro j p hp hj e he hb
  by_cases hij : i = j
  · subst hij
    obtain rfl := Option.some.inj (ho.symm.trans hp)
    exact getD_set_true (hd e he hb)
  · rw [getD_set_ne false hij] at hj
    exact getD_set_true (hc j p hp hj e he hb)

/-- Where each operation waits for elder ones alone, none is left when none may come up. -/
theorem all_listed (hdep : ∀ (i : Nat) (o : Oper), ops[i]? = some o → ∀ e ∈ o.after, Region.binds .any e = true → e.on < i) {listed : Array Bool} (hr : Region.ready .any ops listed = []) :
    ∀ i, i < ops.size → listed.size = ops.size → listed.getD i false = true := by
  intro i
  induction i using Nat.strongRecOn with
  | ind i ih =>
    intro hi hs
    cases h : listed.getD i false with
    | true => rfl
    | false =>
      refine absurd (List.eq_nil_iff_forall_not_mem.1 hr i) (not_not_intro (mem_ready.2 ⟨?_, ops[i], Array.getElem?_eq_getElem hi, fun e he hb => ?_⟩))
      · have hl : i < listed.size := by omega
        simpa [hl] using h
      · have := hdep i _ (Array.getElem?_eq_getElem hi) e he hb
        exact ih e.on this (by omega) hs

/-- Each operation waits for elder ones alone. -/
def elder (ops : Array Oper) : Bool := (List.range ops.size).all fun i => match ops[i]? with | some o => o.after.all (fun e => !Region.binds .any e || decide (e.on < i)) | none => true
theorem elder_spec (h : elder ops = true) : ∀ (i : Nat) (o : Oper), ops[i]? = some o → ∀ e ∈ o.after, Region.binds .any e = true → e.on < i := by
  intro i o ho e he hb
  have hlt : i < ops.size := (Array.getElem?_eq_some_iff.1 ho).1
  have := List.all_eq_true.1 h i (List.mem_range.2 hlt)
  simp only [ho] at this
  have := Array.all_eq_true_iff_forall_mem.1 this e he
  rw [hb] at this
  exact of_decide_eq_true (by simpa using this)

theorem wpAny_inv {I : Array Bool → Act → World → Prop}
    (hstep : ∀ listed a w i o, I listed a w → Closed ops listed → ops[i]? = some o → listed.getD i true = false → (∀ e ∈ o.after, Region.binds .any e = true → listed.getD e.on false = true) → wpOp P ops Q i (I (listed.setIfInBounds i true)) a w)
    (hel : elder ops = true) (hend : ∀ listed a w, I listed a w → (∀ i, i < ops.size → listed.getD i false = true) → Q .normal a w) :
    ∀ (fuel : Nat) (listed : Array Bool) (a : Act) (w : World), listed.size = ops.size → left listed ≤ fuel → Closed ops listed → I listed a w → wpAny P .any ops Q fuel listed a w
  | 0, listed, a, w, hs, hl, _, h => by
    have hr : Region.ready .any ops listed = [] := by
      refine List.eq_nil_iff_forall_not_mem.2 fun j hj => ?_
      have := left_set (mem_ready.1 hj).1
      omega
    exact ⟨hr, hend _ _ _ h fun i hi => all_listed (elder_spec hel) hr i hi hs⟩
  | fuel + 1, listed, a, w, hs, hl, hc, h => by
    refine ⟨fun hr => hend _ _ _ h fun i hi => all_listed (elder_spec hel) hr i hi hs, fun i hi => ?_⟩
    obtain ⟨h0, o, ho, hd⟩ := mem_ready.1 hi
    refine wpOp_mono (fun a' w' h' => wpAny_inv hstep hel hend fuel _ a' w' (by simpa using hs) ?_ (closed_set hc ho hd) h') (hstep listed a w i o h hc ho h0 hd)
    have := left_set h0
    omega

theorem wp_region_inv {id : Nat} {a : Act} {w : World} (I : Array Bool → Act → World → Prop) (hm : P.follows .mixedOrders = true)
    (h0 : I (Array.replicate ops.size false) a w.drew)
    (hstep : ∀ listed a w i o, I listed a w → Closed ops listed → ops[i]? = some o → listed.getD i true = false → (∀ e ∈ o.after, Region.binds .any e = true → listed.getD e.on false = true) → wpList P ops (Behind (I (listed.setIfInBounds i true)) Q) [o] a w)
    (hel : elder ops = true) (hend : ∀ listed a w, I listed a w → (∀ i, i < ops.size → listed.getD i false = true) → Q .normal a w) : (Code.region id ops true).wp P Q a w :=
  wp_region_any hm (wpAny_inv (fun listed a w i o h hc ho hl hd => wpOp_of_list ho (hstep listed a w i o h hc ho hl hd)) hel hend ops.size _ a _ (by simp) (by simp [left]) (fun j o ho hj => by
    have hlt : j < ops.size := (Array.getElem?_eq_some_iff.1 ho).1
    simp [hlt] at hj) h0)

theorem wp_region_inv_from {id : Nat} {a : Act} {w : World} (I : Act → Array Bool → Act → World → Prop) (hm : P.follows .mixedOrders = true)
    (h0 : I a (Array.replicate ops.size false) a w.drew)
    (hstep : ∀ listed a' w' i o, I a listed a' w' → Closed ops listed → ops[i]? = some o → listed.getD i true = false → (∀ e ∈ o.after, Region.binds .any e = true → listed.getD e.on false = true) → wpList P ops (Behind (I a (listed.setIfInBounds i true)) Q) [o] a' w')
    (hel : elder ops = true) (hend : ∀ listed a' w', I a listed a' w' → (∀ i, i < ops.size → listed.getD i false = true) → Q .normal a' w') : (Code.region id ops true).wp P Q a w :=
  wp_region_inv (I a) hm h0 hstep hel hend

/-- The slots from n on, k of them, hold x. -/
def fill (t : Array Value) (n : Nat) (x : Nat → Value) : Nat → Array Value
  | 0 => t
  | k + 1 => (fill t n x k).setIfInBounds (n + k) (x k)

theorem fill_size (t : Array Value) (n : Nat) (x : Nat → Value) : ∀ k, (fill t n x k).size = t.size
  | 0 => rfl
  | k + 1 => by simp [fill, fill_size t n x k]

theorem fill_at (t : Array Value) (n : Nat) (x : Nat → Value) : ∀ (k j : Nat), n + k ≤ t.size → (fill t n x k)[j]? = if n ≤ j ∧ j < n + k then some (x (j - n)) else t[j]?
  | 0, j, _ => by
    rw [if_neg (by omega)]; rfl
  | k + 1, j, h => by
    have hs := fill_size t n x k
    simp only [fill]
    rw [Array.getElem?_setIfInBounds, fill_at t n x k j (by omega)]
    by_cases hj : n + k = j
    · subst hj
      rw [if_pos rfl, if_pos (by omega), if_pos (by omega)]
      congr 2; omega
    · rw [if_neg hj]
      by_cases hc : n ≤ j ∧ j < n + k
      · rw [if_pos hc, if_pos (by omega)]
      · rw [if_neg hc, if_neg (by omega)]

theorem fill_set (t : Array Value) (n : Nat) (x : Nat → Value) (k i : Nat) (v : Value) (hi : i < k) (h : n + k ≤ t.size) :
    (fill t n x k).setIfInBounds (n + i) v = fill t n (fun j => if j = i then v else x j) k := by
  refine Array.ext_getElem? fun j => ?_
  rw [Array.getElem?_setIfInBounds, fill_at t n x k j h, fill_at t n _ k j h, fill_size]
  by_cases hj : n + i = j
  · subst hj
    rw [if_pos rfl, if_pos (by omega), if_pos (by omega), if_pos (by omega)]
  · rw [if_neg hj]
    by_cases hc : n ≤ j ∧ j < n + k
    · rw [if_pos hc, if_pos hc, if_neg (by omega)]
    · rw [if_neg hc, if_neg hc]

theorem fill_self (t : Array Value) (n k : Nat) (h : n + k ≤ t.size) : fill t n (fun j => t.getD (n + j) undef) k = t := by
  refine Array.ext_getElem? fun j => ?_
  rw [fill_at t n _ k j h]
  by_cases hc : n ≤ j ∧ j < n + k
  · rw [if_pos hc]
    have : n + (j - n) = j := by omega
    rw [this]
    simp [show j < t.size by omega]
  · rw [if_neg hc]

/-- What the slots hold of the operations that have come up. -/
def Told (listed : Array Bool) (x V : Nat → Value) : Prop := ∀ i, listed.getD i false = true → x i = V i
theorem Told.set {listed : Array Bool} {x V : Nat → Value} (h : Told listed x V) (i : Nat) : Told (listed.setIfInBounds i true) (fun j => if j = i then V i else x j) V := by
  intro j hj
  show (if j = i then V i else x j) = V j
  by_cases e : j = i
  · subst e; rw [if_pos rfl]
  · rw [if_neg e]
    rw [getD_set_ne false (Ne.symm e)] at hj
    exact h j hj
theorem Told.fix {listed : Array Bool} {x V : Nat → Value} (h : Told listed x V) (i : Nat) : Told listed (fun j => if j = i then V i else x j) V := by
  intro j hj
  show (if j = i then V i else x j) = V j
  by_cases e : j = i
  · subst e; rw [if_pos rfl]
  · rw [if_neg e]; exact h j hj
theorem fresh_no {listed : Array Bool} {i : Nat} (h : listed.getD i true = false) : ¬ listed.getD i false = true := by
  rcases Nat.lt_or_ge i listed.size with g | g
  · simp [g] at h ⊢; exact h
  · simp [Array.getElem?_eq_none g] at h
theorem fresh_set {listed : Array Bool} {i : Nat} (h : listed.getD i true = false) : (listed.setIfInBounds i true).getD i false = true := by
  rcases Nat.lt_or_ge i listed.size with g | g
  · simp [g]
  · simp [Array.getElem?_eq_none g] at h
theorem Told.none {n : Nat} {x V : Nat → Value} : Told (Array.replicate n false) x V := by
  intro i hi
  by_cases h : i < n
  · simp [h] at hi
  · simp [h] at hi
end Go.Proofs.YtafdijcolponjaaDoor
