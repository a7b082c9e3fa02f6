/-
  Contracts of functions of Go's library on told strings: the first byte c in a string, how often it stands there, strings joined.
-/
import Derived.Test.YtcebboibpbbgdaaGreatDoorEngG14
import Derived.Lib.Bytealg
import Derived.Lib.Join
import Derived.Test.YtcebboibpbbgdaaGreatDoorEngG8
import Derived.RecoverIn
import Derived.Test.YtcebboibpbbgdaaGreatDoorEngG11
import Derived.Lib.Replace
namespace Go.Eng
open Go.RowKit

/-- internal/stringslite.IndexByte. -/
def idxC : CallD := fun _ xs h n => match xs with
  | [.str (.ls s), .int .u8 (.li c)] => some ⟨.int .i64 (.li (Lib.indexByte s.data.toList c.toNat.toUInt8)), h, n⟩
  | _ => none

/-- strings.Count of one byte. -/
def cntC : CallD := fun _ xs h n => match xs with
  | [.str (.ls s), .str (.ls p)] => match p.data.toList with
    | [c] => some ⟨.int .i64 (.li (Lib.countByte s.data.toList c)), h, n⟩
    | _ => none
  | _ => none

def strOf : DV → Option ByteArray
  | .str (.ls x) => some x
  | _ => none

/-- strings.Join of two or more. -/
def joinC : CallD := fun _ xs h n => match xs with
  | [.slc id o (.li a) _, .str (.ls sep)] => match o.terms, h.get id with
    | [], some (.cells l _ _) => match ((l.drop o.base).take a.toNat).mapM strOf with
      | some ss => if 2 ≤ ss.length ∧ (ss.length : Int) = a ∧ ss.length ≤ 1000 ∧ (Lib.join (ss.map (·.data.toList)) sep.data.toList).length ≤ 1000000 then
          some ⟨.str (.ls ⟨(Lib.join (ss.map (·.data.toList)) sep.data.toList).toArray⟩), h, n⟩ else none
      | none => none
    | _, _ => none
  | _ => none

section
variable {P : Program}

def CallCOk (P : Program) (F : Facts) (f : FuncId) (c : CallD) : Prop := ∀ args h n r, c f args h n = some r → ∀ ρ, F.ok ρ → ∀ m w (vs : Array Value), DV.RL m ρ args vs.toList → HeapR m ρ h w → (∀ id, n ≤ id → m.ι id = none) →
    Calls P f vs w fun e w' => ∃ v m', e = .returned v ∧ r.d.R m' ρ v ∧ HeapR m' ρ r.h w' ∧ Trans m h w m' r.h w' ∧ (∀ id, r.n ≤ id → m'.ι id = none)

theorem RL2 {m : Emb} {ρ : Env} {a b : DV} {vs : Array Value} (h : DV.RL m ρ [a, b] vs.toList) : ∃ x y, vs = #[x, y] ∧ a.R m ρ x ∧ b.R m ρ y := by
  simp only [DV.RL] at h
  obtain ⟨x, vr, h1, hx, y, vr', h2, hy, rfl⟩ := h
  subst h2
  exact ⟨x, y, Array.toList_inj.1 (by simpa using h1), hx, hy⟩

theorem idxC_ok {F : Facts} {f : FuncId} (hf : ∀ (s : ByteArray) (c : Int) (w : World), Calls P f #[.string s, .int .u8 c] w fun e w' => e = .returned (.int .i64 (Lib.indexByte s.data.toList c.toNat.toUInt8)) ∧ w' = w) : CallCOk P F f idxC := by
  intro args h n r hr ρ hF m w vs hvs hH hn
  unfold idxC at hr
  split at hr
  · rename_i s c
    cases hr
    obtain ⟨x, y, rfl, hx, hy⟩ := RL2 hvs
    simp only [DV.R, E.ev, Sc.str_S, Sc.int_I] at hx hy
    subst hx; subst hy
    refine (hf s c w).mono fun e w' ⟨he, hw⟩ => ?_
    subst hw
    exact ⟨_, m, he, by simp only [DV.R, E.ev, Sc.int_I], hH, Trans.refl _ _ _, hn⟩
  · cases hr

theorem cntC_ok {F : Facts} {f : FuncId} (hf : ∀ (s : ByteArray) (c : UInt8) (w : World), Calls P f #[.string s, .string ⟨#[c]⟩] w fun e w' => e = .returned (.int .i64 (Lib.countByte s.data.toList c)) ∧ w' = w) : CallCOk P F f cntC := by
  intro args h n r hr ρ hF m w vs hvs hH hn
  unfold cntC at hr
  split at hr
  · rename_i s p
    split at hr
    · rename_i c hp
      cases hr
      obtain ⟨x, y, rfl, hx, hy⟩ := RL2 hvs
      simp only [DV.R, E.ev, Sc.str_S] at hx hy
      subst hx; subst hy
      have e : p = ⟨#[c]⟩ := by
        obtain ⟨d⟩ := p
        simp only at hp
        congr 1
        exact Array.toList_inj.1 (by simpa using hp)
      subst e
      refine (hf s c w).mono fun e w' ⟨he, hw⟩ => ?_
      subst hw
      exact ⟨_, m, he, by simp only [DV.R, E.ev, Sc.int_I], hH, Trans.refl _ _ _, hn⟩
    · cases hr
  · cases hr

theorem strOf_R {m : Emb} {ρ : Env} : ∀ {l : List DV} {ss : List ByteArray}, l.mapM strOf = some ss → ∀ (j : Nat) (x : ByteArray), ss[j]? = some x → l[j]? = some (.str (.ls x))
  | [], ss, h, j, x, hx => by simp at h; subst h; simp at hx
  | d :: l, ss, h, j, x, hx => by
    simp only [List.mapM_cons, Option.bind_eq_bind, Option.pure_def, Option.bind_eq_some_iff, Option.some.injEq] at h
    obtain ⟨y, hy, r, hr, rfl⟩ := h
    cases j with
    | zero =>
      simp at hx; subst hx
      unfold strOf at hy
      split at hy
      · cases hy; rfl
      · cases hy
    | succ j => simpa using strOf_R (m := m) (ρ := ρ) hr j x (by simpa using hx)

theorem joinC_ok {F : Facts} {f : FuncId} (hf : ∀ (bk o c : Nat) (xs : List ByteArray) (sep : ByteArray) (w : World), (∀ (j : Nat) x, xs[j]? = some x → w.cell? ⟨bk, o + j, none⟩ = some (.string x)) → bk < w.heap.size → 2 ≤ xs.length → xs.length ≤ 140737488355328 → xs.length ≤ c →
      (Lib.join (xs.map (·.data.toList)) sep.data.toList).length ≤ 140737488355328 →
      Calls P f #[.slice (some ⟨bk, o, none⟩) xs.length c, .string sep] w fun e w' => e = .returned (.string ⟨(Lib.join (xs.map (·.data.toList)) sep.data.toList).toArray⟩) ∧ Below w.heap.size w w') : CallCOk P F f joinC := by
  intro args h n r hr ρ hF m w vs hvs hH hn
  unfold joinC at hr
  split at hr
  · rename_i id o a cap sep
    split at hr
    · rename_i l t md hterms hg
      split at hr
      · rename_i ss hss
        split at hr
        · rename_i hc
          cases hr
          obtain ⟨h2, ha, hlen, hjl⟩ := hc
          obtain ⟨x, y, rfl, hx, hy⟩ := RL2 hvs
          simp only [DV.R, E.ev, Sc.str_S, Sc.int_I] at hx hy
          obtain ⟨b, hb, rfl, _, hcap⟩ := hx
          subst hy
          obtain ⟨b', ob, hb', ho, c, fr, ⟨t', rfl⟩, hle, hcells, _⟩ := hH.blk id _ hg rfl
          rw [hb] at hb'; cases hb'
          have hden : o.den ρ = o.base := by simp [Off.den, hterms, sumT]
          have hal : a.toNat = ss.length := by omega
          rw [hal] at hcap
          rw [hden, hal]
          rw [hal] at hss
          have hcell : ∀ (j : Nat) x, ss[j]? = some x → w.cell? ⟨b, o.base + j, none⟩ = some (.string x) := by
            intro j x hj
            have h1 := strOf_R (m := m) (ρ := ρ) hss j x hj
            rw [List.getElem?_take] at h1
            split at h1
            · rw [List.getElem?_drop] at h1
              obtain ⟨v, hv, hvr⟩ := hcells _ _ h1
              simp only [DV.R, E.ev, Sc.str_S] at hvr
              subst hvr
              rw [cell_at ho]; exact hv
            · cases h1
          refine (hf b o.base _ ss sep w hcell (Array.getElem?_eq_some_iff.1 ho).1 h2 (by omega) hcap (by omega)).mono fun e w' ⟨he, hb'⟩ => ?_
          exact ⟨_, m, he, by simp only [DV.R, E.ev, Sc.str_S], heap_below hH hb', trans_below hb', hn⟩
        · cases hr
      · cases hr
    · cases hr
  · cases hr

/-- Contracts by their functions' numbers. -/
def ΓN (l : List (FuncId × CallD)) (Γ : Facts → FuncId → Option CallD) (F : Facts) (g : FuncId) : Option CallD := match l.find? (fun p => p.1 == g) with
  | some p => some p.2
  | none => Γ F g
theorem ΓN_ok {l : List (FuncId × CallD)} (hl : ∀ F : Facts, ∀ p ∈ l, CallCOk P F p.1 p.2) {Γ : Facts → FuncId → Option CallD} (hΓ : ∀ F : Facts, ΓOk P F (Γ F)) : ∀ F : Facts, ΓOk P F (ΓN l Γ F) := fun F g d hd => by
  unfold ΓN at hd
  split at hd
  · rename_i p hp
    cases hd
    have h1 := List.find?_some hp
    have h2 := List.mem_of_find?_eq_some hp
    have e : p.1 = g := by simpa using h1
    subst e
    exact hl F p h2
  · exact hΓ F g d hd
end
end Go.Eng

/-
  A region that draws its order, in which a call panics: in whatever order its operations are done, it comes to that panic.
-/
namespace Go.Eng

/-- A call that panics: the value, the memory. -/
abbrev PanD := FuncId → List DV → T Blk → Nat → Option Out

/-- What a call that panics says of the machine's. -/
def PanOk (P : Program) (F : Facts) (pan : PanD) : Prop :=
  ∀ f args h n r, pan f args h n = some r → ∀ ρ, F.ok ρ → ∀ m w (vs : Array Value), DV.RL m ρ args vs.toList → HeapR m ρ h w → (∀ id, n ≤ id → m.ι id = none) →
    Calls P f vs w fun e w' => ∃ v m', e = .panicked [{ v, recovered := false }] ∧ r.d.R m' ρ v ∧ HeapR m' ρ r.h w' ∧ Trans m h w m' r.h w' ∧ (∀ id, r.n ≤ id → m'.ι id = none)

/-- A panic: its value, and the state there. -/
structure PR where
  d : DV
  st : St

section
variable (P : Program) (F : Facts)

/-- An operation that is a call that panics. -/
def panCall (call : CallD) (pan : PanD) (ops : Array Oper) (o : Oper) (st : St) : Option Out :=
  match wantD F ops st o with
  | some true => match valD P F st.heap st.tmps o.op with
    | some _ => none
    | none => match memD P F st.heap st.next st.tmps o.op with
      | some _ => none
      | none => match calleeD P st.tmps o.op with
        | some (g, args) => match call g args st.heap st.next with
          | some _ => none
          | none => pan g args st.heap st.next
        | none => none
  | _ => none

/-- Calls, those that panic among them: as if they came back with nothing. -/
def callP (call : CallD) (pan : PanD) : CallD := fun g args h n => match call g args h n with
  | some r => some r
  | none => (pan g args h n).map fun r => ⟨.tup [], r.h, r.n⟩

theorem panCall_step {call : CallD} {pan : PanD} {ops : Array Oper} {o : Oper} {st : St} {r : Out} (h : panCall P F call pan ops o st = some r) : stepX P F (callP call pan) ops o st = putT { st with heap := r.h, next := r.n } o.dst (.tup []) := by
  unfold panCall at h
  unfold stepX
  cases hw : wantD F ops st o with
  | none => simp only [hw, reduceCtorEq] at h
  | some b =>
    rw [hw] at h
    cases b with
    | false => simp only [reduceCtorEq] at h
    | true =>
      simp only at h ⊢
      cases hv : valD P F st.heap st.tmps o.op with
      | some d => simp only [hv, reduceCtorEq] at h
      | none =>
        rw [hv] at h
        simp only at h ⊢
        cases hm : memD P F st.heap st.next st.tmps o.op with
        | some r => simp only [hm, reduceCtorEq] at h
        | none =>
          rw [hm] at h
          simp only at h ⊢
          cases hg : calleeD P st.tmps o.op with
          | none => simp only [hg, reduceCtorEq] at h
          | some g =>
            obtain ⟨g, args⟩ := g
            rw [hg] at h
            simp only at h ⊢
            cases hc : call g args st.heap st.next with
            | some r => simp only [hc, reduceCtorEq] at h
            | none =>
              rw [hc] at h
              simp only at h
              simp only [callP, hc, h, Option.map_some]

theorem callP_step {call : CallD} {pan : PanD} {ops : Array Oper} {o : Oper} {st st' : St} (h : stepX P F call ops o st = some st') : stepX P F (callP call pan) ops o st = some st' := by
  unfold stepX at h ⊢
  cases hw : wantD F ops st o with
  | none => simp only [hw, reduceCtorEq] at h
  | some b =>
    rw [hw] at h
    cases b with
    | false => exact h
    | true =>
      simp only at h ⊢
      cases hv : valD P F st.heap st.tmps o.op with
      | some d => rw [hv] at h; exact h
      | none =>
        rw [hv] at h
        simp only at h ⊢
        cases hm : memD P F st.heap st.next st.tmps o.op with
        | some r => rw [hm] at h; exact h
        | none =>
          rw [hm] at h
          simp only at h ⊢
          cases hg : calleeD P st.tmps o.op with
          | none => simp only [hg, reduceCtorEq] at h
          | some g =>
            obtain ⟨g, args⟩ := g
            rw [hg] at h
            simp only at h ⊢
            cases hc : call g args st.heap st.next with
            | none => simp only [hc, reduceCtorEq] at h
            | some r =>
              rw [hc] at h
              simp only [callP, hc]
              exact h

variable {P} {F}
/-- What such an operation does, by the machine. -/
theorem panCall_run {call : CallD} {pan : PanD} (hpan : PanOk P F pan) {ρ : Env} (hF : F.ok ρ) {ops : Array Oper} {o : Oper} {st : St} {r : Out} (h : panCall P F call pan ops o st = some r) {m : Emb} {a : Act} {w : World} (hR : Rep m ρ st a w) :
    Region.wanted o (yielded ops a.tmps) = true ∧ ∃ g vs, (execOp a.eval o).run P w = .ok (.enter g vs) w ∧ (∀ c, o.op ≠ .defer c) ∧
      Calls P g vs w fun e w' => ∃ v m', e = .panicked [{ v, recovered := false }] ∧ r.d.R m' ρ v ∧ HeapR m' ρ r.h w' ∧ Trans m st.heap w m' r.h w' ∧ (∀ id, r.n ≤ id → m'.ι id = none) := by
  unfold panCall at h
  split at h
  · rename_i hw
    split at h
    · cases h
    · split at h
      · cases h
      · split at h
        · rename_i g args hg
          split at h
          · cases h
          · obtain ⟨vs, hrun, hvs⟩ := calleeD_run hR.tmps hg w
            exact ⟨wantD_spec hF hR hw, g, vs, hrun, fun c hc => (by rw [hc, calleeD_defer] at hg; cases hg), hpan g args st.heap st.next r h ρ hF m w vs hvs hR.heap hR.fresh⟩
        · cases h
  · cases h
end

/-- By a panic alone. -/
def panQ (K : Value → Act → World → Prop) : Exit → Act → World → Prop := fun e a w => ∃ v, e = .panic [{ v, recovered := false }] ∧ K v a w

/-- An operation that hangs on one that panics: it is never done. -/
def noop (o : Oper) : Oper := { o with op := .move (.const (.bool true)), guard := none }

def thinL (p : Nat) : List Oper → List Nat → List Oper
  | o :: r, b :: bs => (if b.testBit p then noop o else o) :: thinL p r bs
  | r, _ => r

theorem thinL_get {p : Nat} : ∀ {l : List Oper} {bs : List Nat} (j : Nat), l.length = bs.length → (thinL p l bs)[j]? = (l[j]?).map fun o => if (bs.getD j 0).testBit p then noop o else o
  | [], bs, j, h => by simp [thinL]
  | o :: r, [], j, h => by simp at h
  | o :: r, b :: bs, j, h => by
    cases j with
    | zero => simp [thinL]
    | succ j => simpa [thinL] using thinL_get (l := r) (bs := bs) j (by simpa using h)

theorem thinL_len {p : Nat} : ∀ {l : List Oper} {bs : List Nat}, (thinL p l bs).length = l.length
  | [], bs => by simp [thinL]
  | o :: r, [] => by simp [thinL]
  | o :: r, b :: bs => by simp [thinL, thinL_len (l := r)]

def thin (p : Nat) (ops : Array Oper) (bs : List Nat) : Array Oper := (thinL p ops.toList bs).toArray

theorem bits_noop (acc : List Nat) (o : Oper) : bits acc (noop o) = bits acc o := rfl
theorem befFrom_len : ∀ (l : List Oper) (acc : List Nat), (befFrom acc l).length = acc.length + l.length
  | [], acc => by simp [befFrom]
  | o :: r, acc => by simp only [befFrom]; rw [befFrom_len r]; simp; omega

section
variable {P : Program} {F : Facts} {call : CallD} {pan : PanD} {ops ops' : Array Oper} {D : DR}

/-- What such a region is told by. -/
structure PanReg (P : Program) (F : Facts) (call : CallD) (pan : PanD) (ops ops' : Array Oper) (D : DR) (p : Nat) (op : Oper) (r : Out) : Prop where
  ok : D.Ok P F (callP call pan) ops'
  hp : ops[p]? = some op
  size : ops'.size = ops.size
  same : ∀ (j : Nat) (o : Oper), ops[j]? = some o → ahead (befFrom [] ops.toList) p j = false → ops'[j]? = some o
  edges : ∀ (j : Nat) (o : Oper), ops[j]? = some o → ∃ o' : Oper, ops'[j]? = some o' ∧ o'.after = o.after ∧ o'.dst = o.dst
  step : ∀ (j : Nat) (o : Oper), j ≠ p → ops[j]? = some o → ahead (befFrom [] ops.toList) p j = false → stepX P F call ops' o (D.R j) = some (D.P j)
  vl : ∀ (j : Nat) (o : Oper), ops'[j]? = some o → D.val j = true → stepX P F (callP call pan) ops' o (D.R j) = some (D.P j) ∧ (wantD F ops' (D.R j) o = some false ∨ (wantD F ops' (D.R j) o = some true ∧ ∃ d, valD P F (D.R j).heap (D.R j).tmps o.op = some d))
  pval : D.val p = false
  pan : panCall P F call pan ops' op (D.R p) = some r
  loose : ∀ j, j < ops.size → j ≠ p → D.val j = true ∨ ahead (befFrom [] ops.toList) j p = true

theorem yielded_same (h : ∀ (j : Nat) (o : Oper), ops[j]? = some o → ∃ o' : Oper, ops'[j]? = some o' ∧ o'.after = o.after ∧ o'.dst = o.dst) (hs : ops'.size = ops.size) (t : Array Value) : yielded ops' t = yielded ops t := by
  funext j
  unfold yielded
  cases ho : ops[j]? with
  | none =>
    have : ops'[j]? = none := by
      rw [Array.getElem?_eq_none_iff] at ho ⊢; omega
    rw [this]
  | some o =>
    obtain ⟨o', h1, _, h3⟩ := h j o ho
    simp [h1, h3]

theorem count_set {n : Nat} {listed : Array Bool} {j : Nat} (hjs : j < listed.size) (hjn : ¬ doneL listed j) (hjo : j < n) :
    (List.range n).countP (fun i => (listed.setIfInBounds j true).getD i false) = (List.range n).countP (fun i => listed.getD i false) + 1 := by
  have hset := doneL_set (listed := listed) hjs
  have gen : ∀ k, k ≤ n → (List.range k).countP (fun i => (listed.setIfInBounds j true).getD i false) = (List.range k).countP (fun i => listed.getD i false) + (if j < k then 1 else 0) := by
    intro k
    induction k with
    | zero => intro _; simp
    | succ k ihn =>
      intro hn
      rw [List.range_succ, List.countP_append, List.countP_append, ihn (by omega)]
      by_cases hjn' : k = j
      · subst hjn'
        have e1 : (listed.setIfInBounds k true).getD k false = true := (hset k).2 (.inr rfl)
        have e2 : listed.getD k false = false := by
          cases hh : listed.getD k false with
          | false => rfl
          | true => exact absurd hh hjn
        have c1 : [k].countP (fun i => (listed.setIfInBounds k true).getD i false) = 1 := by rw [List.countP_cons, List.countP_nil]; simp only [e1, if_true]
        have c2 : [k].countP (fun i => listed.getD i false) = 0 := by rw [List.countP_cons, List.countP_nil]; simp only [e2, Bool.false_eq_true, if_false]
        rw [c1, c2, if_neg (Nat.lt_irrefl k), if_pos (Nat.lt_succ_self k)]
      · have e1 : (listed.setIfInBounds j true).getD k false = listed.getD k false := getD_set_ne (d := false) (fun e => hjn' e.symm)
        have c1 : [k].countP (fun i => (listed.setIfInBounds j true).getD i false) = [k].countP (fun i => listed.getD i false) := by
          rw [List.countP_cons, List.countP_cons, List.countP_nil, List.countP_nil]; simp only [e1]
        rw [c1]
        generalize [k].countP (fun i => listed.getD i false) = c
        by_cases hlt : j < k
        · rw [if_pos hlt, if_pos (by omega)]; omega
        · rw [if_neg hlt, if_neg (by omega)]; omega
  rw [gen n (Nat.le_refl _), if_pos hjo]

/-- In whatever order: the panic. -/
theorem anyPan (hcall : CallOk P F call) (hpan : PanOk P F pan) {ρ : Env} (hF : F.ok ρ) {p : Nat} {op : Oper} {r : Out} (hP : PanReg P F call pan ops ops' D p op r) (hids : r.d.ids = []) {md : Region.Mode} {l : List Nat} (he : orderOk md ops l = true)
    {m0 : Emb} {w0 : World} {K : Value → Act → World → Prop}
    (hK : ∀ m v a w, HeapR m ρ (D.S ops.size).heap w → Trans m0 (D.S 0).heap w0 m (D.S ops.size).heap w → (∀ id, (D.S ops.size).next ≤ id → m.ι id = none) → a.tmps.size = (D.S 0).sz → a.defers = [] → r.d.R m ρ v → K v a w) :
    ∀ (fuel : Nat) (listed : Array Bool) (m : Emb) (a : Act) (w : World), listed.size = ops.size → ops.size ≤ fuel + (List.range ops.size).countP (fun i => listed.getD i false) → ¬ doneL listed p → DInv D ops' ρ m0 w0 (doneL listed) m a w → wpAny P md ops (panQ K) fuel listed a w := by
  have hps : p < ops.size := (Array.getElem?_eq_some_iff.1 hP.hp).1
  have hclosed : ∀ {listed : Array Bool} {m : Emb} {a : Act} {w : World}, DInv D ops' ρ m0 w0 (doneL listed) m a w → Closed ops (doneL listed) := fun I j o hj ho e hem hb => by
    obtain ⟨o', h1, h2, _⟩ := hP.edges j o ho
    exact I.closed j o' hj h1 e (by rw [h2]; exact hem) hb
  have hpa : ∀ {listed : Array Bool}, Closed ops (doneL listed) → ¬ doneL listed p → ∀ {j : Nat} {o : Oper}, ops[j]? = some o → (∀ e ∈ o.after, Region.binds .any e = true → doneL listed e.on) → ahead (befFrom [] ops.toList) p j = false := by
    intro listed hcl hnp j o ho hall
    cases hh : ahead (befFrom [] ops.toList) p j with
    | false => rfl
    | true => exact absurd (ahead_spec hcl ho hh hall) hnp
  intro fuel
  induction fuel with
  | zero =>
    intro listed m a w hs hc hnp I
    have hle := List.countP_le_length (p := fun i => listed.getD i false) (l := List.range ops.size)
    simp only [List.length_range] at hle
    have hcnt : (List.range ops.size).countP (fun i => listed.getD i false) = (List.range ops.size).length := by rw [List.length_range]; omega
    exact absurd (List.countP_eq_length.1 hcnt p (by simp [hps])) hnp
  | succ fuel ih =>
    intro listed m a w hs hc hnp I
    refine ⟨fun hr => absurd (all_done he hs hr p hps) hnp, fun j hj => ?_⟩
    obtain ⟨h1, o, ho, hall⟩ := mem_ready.1 hj
    obtain ⟨hjs, hjn⟩ := getD_true.1 h1
    have hjo : j < ops.size := by omega
    have hall' : ∀ e ∈ o.after, Region.binds .any e = true → doneL listed e.on := fun e hem hb => hall e hem (binds_any hb)
    have hcl := hclosed I
    have hna := hpa hcl hnp ho hall'
    have ho' := hP.same j o ho hna
    unfold wpOp
    simp only [ho]
    by_cases e : j = p
    · subst e
      rw [hP.hp] at ho; cases ho
      have hR := rep_at hP.ok I ho' hjn hall'
      obtain ⟨hw, g, vs, hrun, _, hcalls⟩ := panCall_run hpan hF hP.pan hR
      rw [yielded_same hP.edges hP.size] at hw
      rw [if_pos hw]
      left
      unfold Oper.wp
      rw [hrun]
      simp only [Oper.upon]
      refine hcalls.mono fun e w' ⟨v, m1, he', hd, hH, hT, hf⟩ => ?_
      subst he'
      refine ⟨v, rfl, ?_⟩
      have hstep := hP.ok.step j op ho' hP.pval
      rw [panCall_step P F hP.pan] at hstep
      obtain ⟨hR', hph, _⟩ := rep_put (rep_mem hR hH hT.ext hf) (d := .tup []) (v := undef) (by simp [DV.R, DV.RL, undef]) hstep
      have hT' : Trans (m.below (D.S j).next) (D.R j).heap w m1 (D.P j).heap w' := by rw [hph]; exact hT
      obtain ⟨m2, I'⟩ := dmem hP.ok I ho' hjn hall' hP.pval hR' hT'
      have hsz := hP.size
      have cons : ∀ id, D.Cons ops'.size (fun i => doneL listed i ∨ i = j) ops'.size id := fun id i hi ht => by
        refine ⟨fun _ => ?_, fun _ => hi⟩
        by_cases ei : i = j
        · exact .inr ei
        · rcases hP.loose i (by omega) ei with hv | ha
          · have := ht.1; rw [hv] at this; cases this
          · exact .inl (ahead_spec hcl hP.hp ha hall')
      rw [← hsz] at hK
      refine hK m2 v a w' ⟨fun x B hB hl => I'.bl ops'.size (Nat.le_refl _) x B hB hl (cons x), fun x x' B B' b hB hB' hrw hl hi hi' => I'.inj ops'.size ops'.size (Nat.le_refl _) (Nat.le_refl _) x x' B B' b hB hB' (cons x) (cons x') hrw hl hi hi'⟩ ?_ (fun x hx => I'.un' x hx) I.size I.defers (DV.R_congr (fun id hid => by rw [hids] at hid; cases hid) hd)
      exact ⟨I'.ext, I'.grow, I'.frame, fun b ⟨x, B, hB, hrw, hx⟩ => I'.fp ops'.size (Nat.le_refl _) x B b hB hrw (cons x) hx, I'.tape, I'.os, I'.output⟩
    · have hset := doneL_set (listed := listed) hjs
      have := dstepC hcall hF hP.ok I ho' (fun hv => .inl (hP.vl j o ho' hv)) (fun _ => hP.step j o e ho hna) hjn hall' (Q := panQ K) (K := wpAny P md ops (panQ K) fuel (listed.setIfInBounds j true)) (fun m' a' w' I' => by
        refine ih _ m' a' w' (by simpa using hs) ?_ (fun hd => ?_) (dinv_congr (fun i => (hset i).symm) I')
        · have := count_set hjs hjn hjo
          omega
        · rcases (hset p).1 hd with h | h
          · exact hnp h
          · exact e h.symm)
      rw [yielded_same hP.edges hP.size] at this
      exact this
end

section
variable (P : Program) (F : Facts)

/-- The first operation, in the order of the text, that is not done. -/
def firstBad (call : CallD) (ops : Array Oper) : List Nat → St → Option Nat
  | [], _ => none
  | i :: r, st => match ops[i]? with
    | none => none
    | some o => match stepX P F call ops o st with
      | some st' => firstBad call ops r st'
      | none => some i

/-- Of each operation, what is asked of it beside the run. -/
def sideOk (call : CallD) (ops' : Array Oper) (bs : List Nat) (p : Nat) : Nat → List Oper → List Ent → Bool
  | _, [], _ => true
  | _, _ :: _, [] => false
  | j, o :: r, e :: es => (if j == p then !e.val else
      ((e.val || (bs.getD p 0).testBit j) && ((bs.getD j 0).testBit p || (e.val || (stepX P F call ops' o e.r).isSome)))) && sideOk call ops' bs p (j + 1) r es

def drawP (call : CallD) (pan : PanD) (ops : Array Oper) (s : St) : Option PR :=
  if s.dfs.isEmpty && ordersQ (P.follows .mixedOrders) ops then
    match firstBad P F call ops (List.range ops.size) s with
    | some p =>
      let bs := befT .nil 0 ops.toList
      let ops' := thin p ops bs
      match ops[p]?, runD P F false (callP call pan) ops' ops'.toList s with
      | some o, some (es, z) => if !(bs.getD p 0).testBit p && (pairsOk ops' (befT .nil 0 ops'.toList) (ops'.toList.zip es) && sideOk P F call ops' bs p 0 ops'.toList es) then
          match es[p]? with
          | some e => match panCall P F call pan ops' o e.r with
            | some r => if r.d.ids.isEmpty then some ⟨r.d, { z with tmps := .nil }⟩ else none
            | none => none
          | none => none
        else none
      | _, _ => none
    | none => none
  else none

variable {P} {F}
theorem sideOk_spec {call : CallD} {ops' : Array Oper} {bs : List Nat} {p : Nat} : ∀ {l : List Oper} {es : List Ent} {j : Nat}, sideOk P F call ops' bs p j l es = true → ∀ {k : Nat} {o : Oper} {e : Ent}, l[k]? = some o → es[k]? = some e →
    (if j + k = p then e.val = false else (e.val = true ∨ (bs.getD p 0).testBit (j + k) = true) ∧ ((bs.getD (j + k) 0).testBit p = true ∨ e.val = true ∨ (stepX P F call ops' o e.r).isSome = true))
  | [], es, j, h, k, o, e, hk, _ => by simp at hk
  | o' :: r, [], j, h, k, o, e, _, he => by simp at he
  | o' :: r, e' :: es, j, h, k, o, e, hk, he => by
    simp only [sideOk, Bool.and_eq_true] at h
    cases k with
    | zero =>
      simp at hk he; subst hk; subst he
      have h1 := h.1
      simp only [Nat.add_zero]
      by_cases ej : j = p
      · rw [if_pos ej]
        simpa [ej] using h1
      · rw [if_neg ej]
        simpa [ej] using h1
    | succ k =>
      have := sideOk_spec h.2 (k := k) (by simpa using hk) (by simpa using he)
      rw [show j + 1 + k = j + (k + 1) by omega] at this
      exact this

theorem stepX_isVal {call call' : CallD} {ops : Array Oper} {o : Oper} {st : St} (h : isVal P F ops o st = true) : stepX P F call ops o st = stepX P F call' ops o st := by
  unfold isVal at h
  unfold stepX
  split at h
  · rename_i hw; rw [hw]
  · rename_i hw
    rw [hw]
    obtain ⟨d, hd⟩ := Option.isSome_iff_exists.1 h
    simp only [hd]
  · cases h

theorem drawP_ok {call : CallD} {pan : PanD} (hcall : CallOk P F call) (hpan : PanOk P F pan) {ops : Array Oper} {st : St} {r : PR} (h : drawP P F call pan ops st = some r) {ρ : Env} (hF : F.ok ρ) {m : Emb} {a : Act} {w : World} (hR : Rep m ρ st a w)
    {K : Value → Act → World → Prop} (hK : ∀ a' w' m' v, Rep m' ρ r.st a' w' → Trans m st.heap w m' r.st.heap w' → r.d.R m' ρ v → K v a' w') (t : Nat) :
    wpOps P ops (panQ K) (Region.schedule (P.follows .mixedOrders) ops t) a { w with drawn := w.drawn + 1 } := by
  unfold drawP at h
  split at h
  · rename_i hcq
    simp only [Bool.and_eq_true, List.isEmpty_iff] at hcq
    obtain ⟨hd0, hcq⟩ := hcq
    have hord := ordersQ_ok hcq
    have ha0 : a.defers = [] := by
      have := hR.dfs
      rw [hd0] at this; exact this
    split at h
    · rename_i p hbad
      simp only at h
      have hbs : befT .nil 0 ops.toList = befFrom [] ops.toList := by
        rw [befT_eq ops.toList [] .nil (fun k => by simp [T.get])]; rfl
      rw [hbs] at h
      generalize hops : thin p ops (befFrom [] ops.toList) = ops' at h
      split at h
      · rename_i op es z hp hrun
        split at h
        · rename_i hc
          simp only [Bool.and_eq_true, Bool.not_eq_true'] at hc
          obtain ⟨hpp, hpq, hside⟩ := hc
          split at h
          · rename_i e he
            split at h
            · rename_i out hpan'
              split at h
              · rename_i hids
                cases h
                have hids' : out.d.ids = [] := List.isEmpty_iff.1 hids
                have hpr : pairsOk ops' (befFrom [] ops'.toList) (ops'.toList.zip es) = true := by
                  rw [befT_eq ops'.toList [] .nil (fun k => by simp [T.get])]
                  exact hpq
                have hD := drOf_ok hrun hpr
                obtain ⟨hlen, h0, hn, hall⟩ := runD_spec hrun
                have hget : ∀ j, ops'[j]? = (ops[j]?).map fun o => if ahead (befFrom [] ops.toList) p j then noop o else o := fun j => by
                  rw [← hops]
                  have := thinL_get (p := p) (l := ops.toList) (bs := befFrom [] ops.toList) j (by rw [befFrom_len]; simp)
                  simpa [thin, ahead] using this
                have hsz : ops'.size = ops.size := by rw [← hops]; simp [thin, thinL_len]
                have hes : ∀ j o, ops'[j]? = some o → ∃ e, es[j]? = some e ∧ entD P F false (callP call pan) ops' o (stAt es z j) = some e := fun j o ho => by
                  obtain ⟨e, h1, h2, _⟩ := hall j o (by simpa using ho)
                  exact ⟨e, h1, h2⟩
                have hsame : ∀ (j : Nat) (o : Oper), ops[j]? = some o → ahead (befFrom [] ops.toList) p j = false → ops'[j]? = some o := fun j o ho hna => by rw [hget, ho]; simp [hna]
                have hPR : PanReg P F call pan ops ops' (drOf es z) p op out := {
                  ok := hD
                  hp := hp
                  size := hsz
                  same := hsame
                  edges := fun j o ho => by
                    refine ⟨if ahead (befFrom [] ops.toList) p j then noop o else o, by rw [hget, ho]; rfl, ?_, ?_⟩ <;> split <;> rfl
                  step := fun j o hjp ho hna => by
                    have ho' := hsame j o ho hna
                    obtain ⟨ej, hej, hent⟩ := hes j o ho'
                    have hs := sideOk_spec hside (k := j) (by rw [Array.getElem?_toList]; exact ho') hej
                    simp only [Nat.zero_add, if_neg hjp] at hs
                    obtain ⟨_, _, _, hvs, _, _⟩ := entD_spec hent
                    obtain ⟨hval, hst⟩ := hvs.resolve_right (fun x => by cases x.1)
                    have hR' : (drOf es z).R j = ej.r := by simp [drOf, hej]
                    have hP' : (drOf es z).P j = ej.p := by simp [drOf, hej]
                    have hr' : ej.r = entR ops' o (stAt es z j) := (entD_spec hent).2.1
                    rw [hR', hP']
                    rcases hs.2 with hb | hv | hc
                    · have : ahead (befFrom [] ops.toList) p j = true := hb
                      rw [this] at hna; cases hna
                    · rw [← hst]
                      exact stepX_isVal (by rw [hr', ← hval]; exact hv)
                    · obtain ⟨st1, h1⟩ := Option.isSome_iff_exists.1 hc
                      have := callP_step (pan := pan) P F h1
                      rw [hst] at this
                      rw [h1, ← this]
                  vl := fun j o ho' hv => by
                    obtain ⟨ej, hej, hent⟩ := hes j o ho'
                    obtain ⟨_, hr', _, hvs, _, _⟩ := entD_spec hent
                    obtain ⟨hval, hst⟩ := hvs.resolve_right (fun x => by cases x.1)
                    have hR' : (drOf es z).R j = ej.r := by simp [drOf, hej]
                    have hP' : (drOf es z).P j = ej.p := by simp [drOf, hej]
                    have hv' : ej.val = true := by simpa [drOf, hej] using hv
                    rw [hR', hP']
                    refine ⟨hst, ?_⟩
                    rw [hr']
                    rw [hval] at hv'
                    unfold isVal at hv'
                    split at hv'
                    · rename_i hw; exact .inl hw
                    · rename_i hw; exact .inr ⟨hw, Option.isSome_iff_exists.1 hv'⟩
                    · cases hv'
                  pval := by
                    have ho' := hsame p op hp hpp
                    have hs := sideOk_spec hside (k := p) (by rw [Array.getElem?_toList]; exact ho') he
                    simp only [Nat.zero_add, if_true] at hs
                    simp [drOf, he, hs]
                  pan := by
                    have : (drOf es z).R p = e.r := by simp [drOf, he]
                    rw [this]; exact hpan'
                  loose := fun j hj hjp => by
                    have hj' : j < ops'.size := by omega
                    have ho' : ops'[j]? = some ops'[j] := by simp [hj']
                    obtain ⟨ej, hej, _⟩ := hes j _ ho'
                    have hs := sideOk_spec hside (k := j) (by rw [Array.getElem?_toList]; exact ho') hej
                    simp only [Nat.zero_add, if_neg hjp] at hs
                    rcases hs.1 with hv | hb
                    · exact .inl (by simp [drOf, hej, hv])
                    · exact .inr hb }
                have hS0 : (drOf es z).S 0 = st := h0
                have hSn : (drOf es z).S ops.size = z := by
                  have h2 := hn
                  rw [Array.length_toList, hsz] at h2; exact h2
                have hszz : z.sz = st.sz := by
                  have h3 := sz_all hD (Nat.le_refl ops'.size)
                  rw [hsz, hSn, hS0] at h3; exact h3
                have hzd : z.dfs = [] := by
                  rw [← hSn, ← hsz]
                  cases hsz' : ops'.size with
                  | zero => rw [hS0]; exact hd0
                  | succ k =>
                    have hlt : k < ops'.size := by omega
                    exact (hD.rn k ops'[k] (Array.getElem?_eq_getElem hlt)).2.2.2.2
                have hno : ∀ i, ¬ doneL (Array.replicate ops.size false) i := by
                  intro i; unfold doneL
                  rw [Array.getD_eq_getD_getElem?]
                  by_cases h : i < ops.size <;> simp [h]
                have back : ∀ k x, k ≤ ops'.size → (drOf es z).Cons ops'.size (doneL (Array.replicate ops.size false)) k x → ((drOf es z).S k).heap.get x = st.heap.get x := by
                  intro k x hk hc'
                  rw [← hS0]
                  refine heap_stay hD (Nat.zero_le _) hk fun i _ hik ht => hno i ((hc' i (by omega) ht).1 hik)
                have backT : ∀ k t, k ≤ ops'.size → DR.ConsT ops' (doneL (Array.replicate ops.size false)) k t → ((drOf es z).S k).tmps.get t = st.tmps.get t := by
                  intro k t hk hc'
                  rw [← hS0]
                  refine tmps_stay hD (Nat.zero_le _) hk fun i o _ hik ho hd => hno i ((hc' i o ho hd).1 hik)
                have start : DInv (drOf es z) ops' ρ m { w with drawn := w.drawn + 1 } (doneL (Array.replicate ops.size false)) m a { w with drawn := w.drawn + 1 } := {
                  lt := fun i h => absurd h (hno i)
                  closed := fun i o h => absurd h (hno i)
                  size := by rw [hS0]; exact hR.size
                  defers := ha0
                  tm := fun k hk t d hd hc' => by rw [backT k t hk hc'] at hd; exact hR.tmps.get t d hd
                  bl := fun k hk x B hB hl hc' => by rw [back k x hk hc'] at hB; exact hR.heap.blk x B hB hl
                  inj := fun k k' hk hk' x x' B B' b hB hB' hc1 hc2 hrw hl hi hi' => by
                    rw [back k x hk hc1] at hB; rw [back k' x' hk' hc2] at hB'
                    exact hR.heap.inj x x' B B' b hB hB' hrw hl hi hi'
                  un := fun i hi _ x hx => hR.fresh x (by
                    have h1 := next_mono hD (i := 0) (k := i) (Nat.zero_le _) (by omega)
                    rw [hS0] at h1
                    exact Nat.le_trans h1 hx.1)
                  un' := fun x hx => hR.fresh x (by
                    have h1 := next_mono hD (i := 0) (k := ops'.size) (Nat.zero_le _) (Nat.le_refl _)
                    rw [hS0] at h1
                    exact Nat.le_trans h1 hx)
                  ext := Emb.le_refl m
                  grow := Nat.le_refl _
                  frame := fun b _ _ => rfl
                  fp := fun k hk x B b hB hrw hc' hi => by
                    rw [back k x hk hc'] at hB
                    rw [hS0]; exact .inl ⟨x, B, hB, hrw, hi⟩
                  tape := rfl
                  os := rfl
                  output := rfl }
                have key : ∀ (md : Region.Mode) (l : List Nat), orderOk md ops l = true → wpAny P md ops (panQ K) ops.size (Array.replicate ops.size false) a { w with drawn := w.drawn + 1 } := fun md l hord =>
                  anyPan hcall hpan hF hPR hids' hord (m0 := m) (w0 := { w with drawn := w.drawn + 1 }) (fun m' v a' w' hH hT hf hs hd hv => by
                    rw [hSn] at hH hT hf
                    rw [hS0] at hT hs
                    exact hK a' w' m' v ⟨⟨fun i d hd => by simp at hd⟩, by rw [hs, ← hszz], hH, hf, by rw [hd, hzd]; rfl⟩ ⟨hT.ext, hT.size, hT.frame, hT.fp, hT.tape, hT.os, hT.output⟩ hv)
                    ops.size _ m a _ (by simp) (by omega) (hno p) start
                unfold ordersOk at hord
                unfold Region.schedule Region.linearise
                split at hord
                · rename_i hdep
                  rw [if_pos hdep]
                  exact wpAny_sound ops.size _ _ a _ (key .any _ hord)
                · rename_i hdep
                  rw [if_neg hdep]
                  simp only [Bool.and_eq_true] at hord
                  split
                  · exact wpAny_sound ops.size _ _ a _ (key .text _ hord.1)
                  · exact wpAny_sound ops.size _ _ a _ (key .gc _ hord.2)
              · cases h
            · cases h
          · cases h
        · cases h
      · cases h
    · cases h
  · cases h
end

end Go.Eng

/-
  Calls that panic, and functions whose deferred calls recover: what a run without open tests tells of them, the machine does.
-/
namespace Go.Eng

section
variable (P : Program) (F : Facts) (call : CallD) (rnd : RndD) (pan : PanD) (draw : Array Oper → St → Option St) (lim fuel : Nat)

/-- An operation that panics. -/
def panOp (ops : Array Oper) (o : Oper) (st : St) : Option PR :=
  match wantD F ops st o with
  | some true => (match o.op with
    | .panic x => (match opd st.tmps x with
      | some (.ifc t d) => some ⟨.ifc t d, st⟩
      | _ => none)
    | _ => (panCall P F call pan ops o st).map fun r => ⟨r.d, { st with heap := r.h, next := r.n }⟩)
  | _ => none

def opsP (ops : Array Oper) : List Nat → St → Option PR
  | [], _ => none
  | i :: r, st => match ops[i]? with
    | none => opsP ops r st
    | some o => match stepR P F call rnd none ops o st with
      | some st' => opsP ops r st'
      | none => panOp P F call pan ops o st

def codeP (codeF : Code → St → Option CR) : Nat → Code → St → Option PR
  | 0, _, _ => none
  | n + 1, c, st => match c with
    | .region _ ops false => opsP P F call rnd pan ops (List.range ops.size) st
    | .region _ ops true => drawP P F call pan ops st
    | .seq a b => match codeF a st with
      | some (.leaf .norm st') => codeP codeF n b st'
      | some _ => none
      | none => codeP codeF n a st
    | .cond c a b => match opd st.tmps c with
      | some (.bool e) => match e.dec F with
        | some true => codeP codeF n a st
        | some false => codeP codeF n b st
        | none => none
      | _ => none
    | .block _ b => codeP codeF n b st
    | .loop b => match codeF b st with
      | some (.leaf .norm st') => codeP codeF n (.loop b) st'
      | some _ => none
      | none => codeP codeF n b st
    | _ => none

variable {P} {F} {call} {rnd} {pan} {draw}

/-- What is asked of a panic. -/
def PPost (m : Emb) (ρ : Env) (st : St) (r : PR) (w : World) (Q : Exit → Act → World → Prop) : Prop :=
  ∀ a' w' m' v, Rep m' ρ r.st a' w' → Trans m st.heap w m' r.st.heap w' → r.d.R m' ρ v → Q (.panic [{ v, recovered := false }]) a' w'

theorem PPost.shift {m m1 : Emb} {ρ : Env} {st st1 : St} {w w1 : World} {r : PR} {Q : Exit → Act → World → Prop} (h : PPost m ρ st r w Q) (hT : Trans m st.heap w m1 st1.heap w1) : PPost m1 ρ st1 r w1 Q :=
  fun a' w' m' v hR' hT' hv => h a' w' m' v hR' (hT.trans hT') hv

theorem panOp_sound (hpan : PanOk P F pan) {ρ : Env} (hF : F.ok ρ) {n : Nat} {ops : Array Oper} {o : Oper} {st : St} {r : PR} (h : panOp P F call pan ops o st = some r) {m : Emb} {a : Act} {w : World} (hR : Rep m ρ st a w) {K : Act → World → Prop} {Q : Exit → Act → World → Prop} (hK : PPost m ρ st r w Q) :
    if Region.wanted o (yielded ops a.tmps) then o.wpIn (fz none) n P a w K Q else (∀ f, o.about P w a.eval = some f → (fz none).fn f) ∧ K (a.put o.dst undef) w := by
  unfold panOp at h
  split at h
  · rename_i hw
    rw [wantD_spec hF hR hw]
    simp only [if_true]
    refine ⟨fun f _ => fz_fn none f, ?_⟩
    split at h
    · rename_i x hop
      split at h
      · rename_i t d hx
        cases h
        have hx' := opd_R hR.tmps hx
        simp only [DV.R] at hx'
        obtain ⟨y, hv, hd⟩ := hx'
        rw [Oper.semAt_eq _ _ _ (fun c hc => by rw [hc] at hop; cases hop)]
        have hrun : (execOp a.eval o).run P w = .halt (.panic (.iface t y)) w := by
          simp only [execOp, hop, hv, Instr.panic]
          rfl
        rw [hrun]
        simp only [Oper.uponIn]
        exact hK a w m _ hR (Trans.refl _ _ _) (by simp only [DV.R]; exact ⟨y, rfl, hd⟩)
      · cases h
    · simp only [Option.map_eq_some_iff] at h
      obtain ⟨out, hout, rfl⟩ := h
      obtain ⟨_, g, vs, hrun, hnd, hcalls⟩ := panCall_run hpan hF hout hR
      rw [Oper.semAt_eq _ _ _ hnd, hrun]
      simp only [Oper.uponIn]
      refine ⟨fz_depth none, callsIn_fz (hcalls.mono fun e w' ⟨v, m', he, hd, hH, hT, hf⟩ => ?_)⟩
      subst he
      exact hK a w' m' v (rep_mem hR hH hT.ext hf) hT hd
  · cases h

theorem opsP_sound (hcall : CallOk P F call) (hrnd : RndOk P F rnd) (hpan : PanOk P F pan) {ρ : Env} (hF : F.ok ρ) {n : Nat} {ops : Array Oper} {Q : Exit → Act → World → Prop} :
    ∀ (is : List Nat) {st : St} {r : PR}, opsP P F call rnd pan ops is st = some r → ∀ {m : Emb} {a : Act} {w : World}, Rep m ρ st a w → PPost m ρ st r w Q → wpOpsIn (fz none) n P ops Q is a w
  | [], st, r, h, m, a, w, hR, hK => by simp [opsP] at h
  | i :: is, st, r, h, m, a, w, hR, hK => by
    simp only [opsP] at h
    simp only [wpOpsIn]
    split at h
    · rename_i ho; simp only [ho]; exact opsP_sound hcall hrnd hpan hF is h hR hK
    · rename_i o ho
      simp only [ho]
      split at h
      · rename_i st1 h1
        exact stepR_sound hcall hrnd hF h1 (ro := none) rfl hR fun a' w' m' hR' hT => opsP_sound hcall hrnd hpan hF is h hR' (hK.shift hT)
      · exact panOp_sound hpan hF h hR hK

theorem codeP_sound (hcall : CallOk P F call) (hrnd : RndOk P F rnd) (hpan : PanOk P F pan) {ρ : Env} (hF : F.ok ρ) {N : Nat} {codeF : Code → St → Option CR}
    (hcode : ∀ {c : Code} {st : St} {r : CR}, codeF c st = some r → ∀ {m : Emb} {a : Act} {w : World}, Rep m ρ st a w → ∀ {Q : Exit → Act → World → Prop}, r.Post m ρ st w Q → c.wpIn (fz none) N P Q a w) : ∀ (n : Nat),
      (∀ {c : Code} {st : St} {r : PR}, codeP P F call rnd pan codeF n c st = some r → ∀ {m : Emb} {a : Act} {w : World}, Rep m ρ st a w → ∀ {Q : Exit → Act → World → Prop}, PPost m ρ st r w Q → c.wpIn (fz none) N P Q a w) ∧
      (∀ {b : Code} {st : St} {r : PR}, codeP P F call rnd pan codeF n (.loop b) st = some r → ∀ {m : Emb} {a : Act} {w : World}, Rep m ρ st a w → ∀ {Q : Exit → Act → World → Prop}, PPost m ρ st r w Q → Code.roundsIn (fz none) N P b Q n a w) := by
  intro n
  induction n with
  | zero => exact ⟨fun h => by simp [codeP] at h, fun h => by simp [codeP] at h⟩
  | succ n ihn =>
    obtain ⟨ih, ihl⟩ := ihn
    have B : ∀ {b : Code} {st : St} {r : PR}, codeP P F call rnd pan codeF (n + 1) (.loop b) st = some r → ∀ {m : Emb} {a : Act} {w : World}, Rep m ρ st a w → ∀ {Q : Exit → Act → World → Prop}, PPost m ρ st r w Q → Code.roundsIn (fz none) N P b Q (n + 1) a w := by
      intro b st r h m a w hR Q hK
      simp only [codeP] at h
      rw [roundsIn_succ]
      split at h
      · rename_i st' h1
        exact hcode h1 hR fun a' w' m' hR' hT' => ihl h hR' (hK.shift hT')
      · cases h
      · exact ih h hR fun a' w' m' v hR' hT' hv => hK a' w' m' v hR' hT' hv
    refine ⟨?_, B⟩
    intro c st r h m a w hR Q hK
    cases c <;> simp only [codeP, reduceCtorEq] at h
    case loop b => exact wpIn_loop_rounds (n + 1) (B (by simp only [codeP]; exact h) hR hK)
    case region id ops dr =>
      cases dr with
      | false => exact wpIn_region (opsP_sound hcall hrnd hpan hF _ h hR hK)
      | true =>
        refine wpIn_mono (wpIn_wide.2 (wp_region_draw (Q := panQ fun v a w => Q (.panic [{ v, recovered := false }]) a w) fun t => drawP_ok hcall hpan h hF hR (fun a' w' m' v hR' hT' hv => hK a' w' m' v hR' hT' hv) t)) fun e a w he => ?_
        obtain ⟨v, rfl, hq⟩ := he
        exact hq
    case seq c1 c2 =>
      split at h
      · rename_i st' h1
        exact wpIn_seq (hcode h1 hR fun a' w' m' hR' hT' => ih h hR' (hK.shift hT'))
      · cases h
      · exact wpIn_seq (ih h hR fun a' w' m' v hR' hT' hv => hK a' w' m' v hR' hT' hv)
    case cond e0 c1 c2 =>
      split at h
      · rename_i e he
        have hc := opd_R hR.tmps he
        simp only [DV.R] at hc
        split at h
        · rename_i hd
          have := E.dec_sound hF hd
          rw [this] at hc
          exact wpIn_cond_true hc (ih h hR hK)
        · rename_i hd
          have := E.dec_sound hF hd
          rw [this] at hc
          exact wpIn_cond_false hc (ih h hR hK)
        · cases h
      · cases h
    case block id b => exact wpIn_block (ih h hR fun a' w' m' v hR' hT' hv => hK a' w' m' v hR' hT' hv)
end

/-- Blocks that may not be written are forgotten. -/
def dropRo (h : T Blk) : List Nat → T Blk
  | [] => h
  | i :: r => match h.get i with
    | some B => if B.live && !B.rw then dropRo (h.del i) r else dropRo h r
    | none => dropRo h r

theorem dropRo_get : ∀ {l : List Nat} {h : T Blk} {id : Nat} {B : Blk}, (dropRo h l).get id = some B → h.get id = some B
  | [], h, id, B, hg => hg
  | i :: r, h, id, B, hg => by
    simp only [dropRo] at hg
    split at hg
    · split at hg
      · have := dropRo_get hg
        rw [T.get_del] at this
        split at this
        · cases this
        · exact this
      · exact dropRo_get hg
    · exact dropRo_get hg

theorem HeapR.sub {m : Emb} {ρ : Env} {h h' : T Blk} {w : World} (hs : ∀ {id : Nat} {B : Blk}, h'.get id = some B → h.get id = some B) (hr : HeapR m ρ h w) : HeapR m ρ h' w :=
  ⟨fun id B hB hl => hr.blk id B (hs hB) hl, fun id id' B B' b hB hB' h1 h2 hi hi' => hr.inj id id' B B' b (hs hB) (hs hB') h1 h2 hi hi'⟩

theorem Trans.sub {m m' : Emb} {h0 h h' : T Blk} {w w' : World} (hs : ∀ {id : Nat} {B : Blk}, h'.get id = some B → h.get id = some B) (t : Trans m h0 w m' h w') : Trans m h0 w m' h' w' :=
  ⟨t.ext, t.size, t.frame, fun b ⟨id, B, hB, hrw, hi⟩ => t.fp b ⟨id, B, hs hB, hrw, hi⟩, t.tape, t.os, t.output⟩

/-- A call that answers plain data: what it laid and may not be written is forgotten. -/
def cleanC (c : CallD) : CallD := fun f args h n => (c f args h n).map fun r => ⟨r.d, dropRo r.h (range' n r.n), r.n⟩

theorem cleanC_ok {P : Program} {F : Facts} {call : CallD} (h : CallOk P F call) : CallOk P F (cleanC call) := by
  intro f args h0 n r hr ρ hF m w vs hvs hH hf
  unfold cleanC at hr
  simp only [Option.map_eq_some_iff] at hr
  obtain ⟨r', hr', rfl⟩ := hr
  exact (h f args h0 n r' hr' ρ hF m w vs hvs hH hf).mono fun e w' ⟨v, m', he, hd, hH', hT, hf'⟩ => ⟨v, m', he, hd, hH'.sub dropRo_get, hT.sub dropRo_get, hf'⟩

section
variable (P : Program) (draw : Facts → CallD → Array Oper → St → Option St) (fuel lim : Nat) (callF : Facts → CallD) (rndF : Facts → RndD) (panF : Facts → PanD)

def codeN (F : Facts) : Code → St → Option CR := codeX P callF rndF (fun F' => draw F' (callF F')) lim none fuel F

/-- A call that panics. -/
def panB (F : Facts) : PanD := fun f args h n => match P.funcs[f]? with
  | some fn => match fn.body with
    | some body => if args.length ≤ fn.ntmps then (match codeP P F (callF F) (rndF F) (panF F) (codeN P draw fuel lim callF rndF F) fuel body ⟨argsT 0 args, h, n, fn.ntmps, []⟩ with
      | some r => if r.st.dfs.isEmpty then some ⟨r.d, dropRo r.st.heap (range' n r.st.next), r.st.next⟩ else none
      | none => none) else none
    | none => none
  | none => none

variable {P}
variable {S : Env → Prop} {callF : Facts → CallD} {rndF : Facts → RndD} {panF : Facts → PanD} (hcall : ∀ F, F.sem = S → CallOk P F (callF F)) (hrnd : ∀ F, F.sem = S → RndOk P F (rndF F)) (hpan : ∀ F, F.sem = S → PanOk P F (panF F)) {draw : Facts → CallD → Array Oper → St → Option St} (hdraw : ∀ F, F.sem = S → ∀ call, CallOk P F call → DrawOk P F (draw F call))
include hcall hrnd hdraw

theorem codeN_ok {F : Facts} (hS : F.sem = S) {ρ : Env} (hF : F.ok ρ) {N : Nat} {c : Code} {st : St} {r : CR} (h : codeN P draw fuel lim callF rndF F c st = some r) {m : Emb} {a : Act} {w : World} (hR : Rep m ρ st a w) {Q : Exit → Act → World → Prop} (hK : r.Post m ρ st w Q) : c.wpIn (fz none) N P Q a w :=
  codeX_sound (l := none) (S := S) hcall hrnd (fun F' hS' => hdraw F' hS' _ (hcall F' hS')) lim N fuel hS hF h rfl hR hK

include hpan
theorem panB_ok (F : Facts) (hS : F.sem = S) : PanOk P F (panB P draw fuel lim callF rndF panF F) := by
  intro f args h n r hr ρ hF m w vs hvs hH hf
  unfold panB at hr
  split at hr
  · rename_i fn hfn
    split at hr
    · rename_i body hbody
      split at hr
      · rename_i hlen
        split at hr
        · rename_i r' hcode
          split at hr
          · rename_i hd
            cases hr
            have hd' : r'.st.dfs = [] := List.isEmpty_iff.1 hd
            refine (callsIn_wide (n := 0)).1 (callsIn_of_wp_marks hfn hbody trivial ((codeP_sound (hcall F hS) (hrnd F hS) (hpan F hS) hF (codeN_ok fuel lim hcall hrnd hdraw hS hF) fuel).1 hcode (rep_args hvs hH hf hlen) fun a' w' m' v hR' hT' hv => ?_))
            have hdf := hR'.dfs
            rw [hd'] at hdf
            have he : a'.defers = [] := hdf
            simp only [bodyPostM, he, LeavesInM, LeavesIn]
            exact ⟨v, m', rfl, hv, hR'.heap.sub dropRo_get, hT'.sub dropRo_get, hR'.fresh⟩
          · cases hr
        · cases hr
      · cases hr
    · cases hr
  · cases hr
end

/-- How a frame goes that is left: nothing is wrong; a panic, recovered or not. -/
structure RM where
  d : Option DV
  rc : Bool

def RM.R (m : Emb) (ρ : Env) (u : RM) (U : FrameMode) : Prop := match u.d with
  | none => U = .returning
  | some d => ∃ v, d.R m ρ v ∧ U = .panicking [{ v, recovered := u.rc }]

theorem RM.R.mono {m m' : Emb} {ρ : Env} (hm : m.le m') {u : RM} {U : FrameMode} (h : u.R m ρ U) : u.R m' ρ U := by
  unfold RM.R at *
  split
  · rename_i e; rw [e] at h; exact h
  · rename_i d e
    rw [e] at h
    obtain ⟨v, hv, hU⟩ := h
    exact ⟨v, hv.mono hm, hU⟩

def RM.settle (u : RM) : RM := if u.rc then ⟨none, false⟩ else u
theorem RM.R.settle {m : Emb} {ρ : Env} {u : RM} {U : FrameMode} (h : u.R m ρ U) : u.settle.R m ρ (Go.settle U) := by
  obtain ⟨d, b⟩ := u
  cases d with
  | none =>
    obtain rfl : U = .returning := h
    cases b <;> rfl
  | some d =>
    obtain ⟨v, hv, rfl⟩ := h
    cases b with
    | false => exact ⟨v, hv, rfl⟩
    | true => rfl

def noCall : CallD := fun _ _ _ _ => none

def isRec : Op → Bool
  | .call c => (match c.callee with | .builtin .recover => true | _ => false)
  | _ => false

section
variable (P : Program) (F : Facts)

/-- The operations of a region of a deferred call that may recover. -/
def opsS (ops : Array Oper) : List Nat → St → RM → Option (St × RM)
  | [], st, u => some (st, u)
  | i :: r, st, u => match ops[i]? with
    | none => opsS ops r st u
    | some o => if isRec o.op then
        match wantD F ops st o with
        | some true => (match u with
          | ⟨some d, false⟩ => (match putT st o.dst d with
            | some st' => opsS ops r st' ⟨some d, true⟩
            | none => none)
          | u => (match putT st o.dst .nili with
            | some st' => opsS ops r st' u
            | none => none))
        | _ => none
      else match stepX P F noCall ops o st with
        | some st' => opsS ops r st' u
        | none => none

def hasRec : Code → Bool
  | .region _ ops _ => ops.any fun o => isRec o.op
  | .seq a b => hasRec a || hasRec b
  | .cond _ a b => hasRec a || hasRec b
  | .block _ b => hasRec b
  | .loop b => hasRec b
  | _ => false

def sX (codeF : Code → St → Option CR) : Nat → Code → St → RM → Option (Ex × St × RM)
  | 0, _, _, _ => none
  | n + 1, c, st, u => if hasRec c then match c with
      | .region _ ops false => (opsS P F ops (List.range ops.size) st u).map fun x => (.norm, x.1, x.2)
      | .seq a b => match sX codeF n a st u with
        | some (.norm, st', u') => sX codeF n b st' u'
        | some x => some x
        | none => none
      | .cond c a b => match opd st.tmps c with
        | some (.bool e) => match e.dec F with
          | some true => sX codeF n a st u
          | some false => sX codeF n b st u
          | none => none
        | _ => none
      | .block id b => match sX codeF n b st u with
        | some (.exit id', st', u') => if id' = id then some (.norm, st', u') else some (.exit id', st', u')
        | some x => some x
        | none => none
      | _ => none
    else match codeF c st with
      | some (.leaf x st') => some (x, st', u)
      | _ => none

variable {P} {F}

theorem run_rec {o : Oper} (h : isRec o.op = true) (a : Act) (w : World) : (execOp a.eval o).run P w = .ok .recover w := by
  obtain ⟨dst, op, type, pos, after, guard⟩ := o
  simp only [isRec] at h
  cases op <;> simp only [Bool.false_eq_true] at h
  rename_i c
  obtain ⟨callee, args, argTypes⟩ := c
  cases callee <;> simp only [Bool.false_eq_true] at h
  rename_i b
  cases b <;> simp only [Bool.false_eq_true] at h
  simp [execOp, resolve, invoke, builtin]

theorem recoverD_none {c : Frame} {cs : List Frame} {m : Emb} {ρ : Env} {u : RM} (h : u.R m ρ c.mode) (hu : ∀ d, u ≠ ⟨some d, false⟩) : recoverD (c :: cs) = none := by
  obtain ⟨d, b⟩ := u
  cases d with
  | none =>
    have : c.mode = .returning := h
    simp [recoverD, this]
  | some d =>
    obtain ⟨v, _, hm⟩ := h
    cases b with
    | false => exact absurd rfl (hu d)
    | true => simp [recoverD, hm]

/-- What is asked of the end of such a code. -/
def SPost (m : Emb) (ρ : Env) (st st' : St) (u' : RM) (w : World) (c₀ : Frame) (cs : List Frame) (Q : Act → List Frame → World → Prop) : Prop :=
  ∀ a' w' m' U', Rep m' ρ st' a' w' → Trans m st.heap w m' st'.heap w' → u'.R m' ρ U' → Q a' ({ c₀ with mode := U' } :: cs) w'

theorem SPost.shift {m m1 : Emb} {ρ : Env} {st st1 st' : St} {u' : RM} {w w1 : World} {c₀ : Frame} {cs : List Frame} {Q : Act → List Frame → World → Prop} (h : SPost m ρ st st' u' w c₀ cs Q) (hT : Trans m st.heap w m1 st1.heap w1) : SPost m1 ρ st1 st' u' w1 c₀ cs Q :=
  fun a' w' m' U' hR' hT' hu => h a' w' m' U' hR' (hT.trans hT') hu

theorem opsS_sound {ρ : Env} (hF : F.ok ρ) {N : Nat} {ops : Array Oper} {c₀ : Frame} {cs : List Frame} {Q : Exit → Act → List Frame → World → Prop} :
    ∀ (is : List Nat) {st st' : St} {u u' : RM}, opsS P F ops is st u = some (st', u') → ∀ {m : Emb} {a : Act} {w : World} {U : FrameMode}, Rep m ρ st a w → u.R m ρ U → SPost m ρ st st' u' w c₀ cs (Q .normal) → wpOpsSIn Fence.wide N P ops Q is a ({ c₀ with mode := U } :: cs) w
  | [], st, st', u, u', h, m, a, w, U, hR, hu, hK => by
    simp only [opsS, Option.some.injEq, Prod.mk.injEq] at h
    obtain ⟨rfl, rfl⟩ := h
    exact hK a w m U hR (Trans.refl _ _ _) hu
  | i :: is, st, st', u, u', h, m, a, w, U, hR, hu, hK => by
    simp only [opsS] at h
    simp only [wpOpsSIn]
    split at h
    · rename_i ho; simp only [ho]; exact opsS_sound hF is h hR hu hK
    · rename_i o ho
      simp only [ho]
      refine ⟨fun f _ => trivial, ?_⟩
      split at h
      · rename_i hrec
        split at h
        · rename_i hw
          rw [wantD_spec hF hR hw, run_rec hrec]
          simp only [if_true]
          split at h
          · rename_i d
            split at h
            · rename_i st1 hp
              obtain ⟨v, hv, rfl⟩ := hu
              simp only [recoverD]
              obtain ⟨h1, h2, h3⟩ := rep_put hR hv hp
              exact opsS_sound hF is h h1 ⟨v, hv, rfl⟩ fun a' w' m' U' hR' hT' hu' => hK a' w' m' U' hR' (by rw [h2] at hT'; exact hT') hu'
            · cases h
          · rename_i hne
            split at h
            · rename_i st1 hp
              rw [recoverD_none (c := { c₀ with mode := U }) (cs := cs) hu (fun d e => hne d e)]
              obtain ⟨h1, h2, h3⟩ := rep_put hR (d := .nili) (v := .nilIface) rfl hp
              exact opsS_sound hF is h h1 hu fun a' w' m' U' hR' hT' hu' => hK a' w' m' U' hR' (by rw [h2] at hT'; exact hT') hu'
            · cases h
        · cases h
      · split at h
        · rename_i st1 hst
          unfold stepX at hst
          split at hst
          · rename_i hw
            rw [wantD_spec hF hR hw]
            simp only [Bool.false_eq_true, if_false]
            obtain ⟨h1, h2, h3⟩ := rep_put hR (d := .tup []) (v := undef) (by simp [DV.R, DV.RL, undef]) hst
            exact opsS_sound hF is h h1 hu fun a' w' m' U' hR' hT' hu' => hK a' w' m' U' hR' (by rw [h2] at hT'; exact hT') hu'
          · rename_i hw
            rw [wantD_spec hF hR hw]
            simp only [if_true]
            split at hst
            · rename_i d hd
              obtain ⟨v, hrun, hr⟩ := valD_sound (P := P) hF hR.heap hR.tmps hd
              rw [hrun]
              obtain ⟨h1, h2, h3⟩ := rep_put hR hr hst
              exact opsS_sound hF is h h1 hu fun a' w' m' U' hR' hT' hu' => hK a' w' m' U' hR' (by rw [h2] at hT'; exact hT') hu'
            · split at hst
              · rename_i r hr
                obtain ⟨nx, v, w', m', hrun, hnx, hd, hH, hT, hf⟩ := memD_sound (P := P) hF hR.heap hR.tmps hR.fresh hr
                rw [hrun]
                obtain ⟨h1, h2, h3⟩ := rep_put (rep_mem hR hH hT.ext hf) hd hst
                have hk : SPost m' ρ st1 st' u' w' c₀ cs (Q .normal) := fun a' w'' m'' U' hR' hT' hu' => hK a' w'' m'' U' hR' (hT.trans (by rw [h2] at hT'; exact hT')) hu'
                rcases hnx with rfl | ⟨rfl, rfl⟩
                · exact opsS_sound hF is h h1 (hu.mono hT.ext) hk
                · exact opsS_sound hF is h h1 (hu.mono hT.ext) hk
              · split at hst
                · rename_i g args hg
                  simp [noCall] at hst
                · cases hst
          · cases hst
        · cases h
end

/-- At the end of a block. -/
def Exit.inBlockS (id : Nat) (Q : Exit → Act → List Frame → World → Prop) : Exit → Act → List Frame → World → Prop := fun e a cs w => Exit.inBlock id (fun e a w => Q e a cs w) e a w

theorem wpSIn_block {F : Fence} {n : Nat} {P : Program} {Q : Exit → Act → List Frame → World → Prop} {a : Act} {cs : List Frame} {w : World} {id : Nat} {c : Code} (h : c.wpSIn F n P (Exit.inBlockS id Q) a cs w) : (Code.block id c).wpSIn F n P Q a cs w := by
  intro b k hb hr hF hroom
  have h0 : (lone (b.atR a (.code (.block id c) :: k)) cs w).fenced P F := fenced_calm hF hroom rfl
  obtain ⟨e, a₁, cs₁, w₁, hl, hq, harr⟩ := h b (.inBlock id :: k) hb hr hF hroom
  have hroom₁ : F.room (cs₁.length + 1 + n) := hl ▸ hroom
  cases e with
  | normal => exact ⟨.normal, a₁, cs₁, w₁, hl, hq, .head h0 stepR_block (StepsIn.trans harr (.one (fenced_calm hF hroom₁ rfl) stepR_inBlock))⟩
  | exit id' =>
    by_cases hid : id' = id
    · simp only [Exit.inBlockS, Exit.inBlock, hid, if_true] at hq
      exact ⟨.normal, a₁, cs₁, w₁, hl, hq, .head h0 stepR_block (harr.1 k (by simp [exitTo, hid]))⟩
    · simp only [Exit.inBlockS, Exit.inBlock, hid, if_false] at hq
      have this : (id == id') = false := by simp; exact fun h => hid h.symm
      have hx : exitTo id' (.inBlock id :: k) = exitTo id' k := by simp [exitTo, this]
      exact ⟨.exit id', a₁, cs₁, w₁, hl, hq, fun k' hk => .head h0 stepR_block (harr.1 k' (by rw [hx]; exact hk)),
        fun hr' hk => let ⟨k₁, h1, h2⟩ := harr.2 hr' (by rw [hx]; exact hk); ⟨k₁, h1, .head h0 stepR_block h2⟩⟩
  | goto l =>
    have hx : gotoIn l (.inBlock id :: k) = gotoIn l k := by simp [gotoIn]
    exact ⟨_, a₁, cs₁, w₁, hl, hq, fun k' hk => .head h0 stepR_block (harr.1 k' (by rw [hx]; exact hk)),
      fun hr' hk => let ⟨k₁, h1, h2⟩ := harr.2 hr' (by rw [hx]; exact hk); ⟨k₁, h1, .head h0 stepR_block h2⟩⟩
  | ret => exact ⟨_, a₁, cs₁, w₁, hl, hq, .of_steps (.one h0 stepR_block) harr⟩
  | panic ch => exact ⟨_, a₁, cs₁, w₁, hl, hq, .of_steps (.one h0 stepR_block) harr⟩
  | outgrown => exact ⟨_, a₁, cs₁, w₁, hl, hq, .of_steps (.one h0 stepR_block) harr⟩

section
variable {P : Program} {F : Facts}

theorem wpSIn_imp {F : Fence} {n : Nat} {c : Code} {Q Q' : Exit → Act → List Frame → World → Prop} {a : Act} {cs : List Frame} {w : World} (h : c.wpSIn F n P Q a cs w) (hq : ∀ e a cs w, Q e a cs w → Q' e a cs w) : c.wpSIn F n P Q' a cs w :=
  fun b k hb hr hF hroom => let ⟨e, a', cs', w', l, q, r⟩ := h b k hb hr hF hroom; ⟨e, a', cs', w', l, hq _ _ _ _ q, r⟩

theorem sX_sound {ρ : Env} (hF : F.ok ρ) {N : Nat} {codeF : Code → St → Option CR}
    (hcode : ∀ {c : Code} {st : St} {r : CR}, codeF c st = some r → ∀ {m : Emb} {a : Act} {w : World}, Rep m ρ st a w → ∀ {Q : Exit → Act → World → Prop}, r.Post m ρ st w Q → c.wpIn (fz none) N P Q a w) {c₀ : Frame} {cs : List Frame} :
    ∀ (n : Nat) {c : Code} {st st' : St} {u u' : RM} {x : Ex}, sX P F codeF n c st u = some (x, st', u') → ∀ {m : Emb} {a : Act} {w : World} {U : FrameMode}, Rep m ρ st a w → u.R m ρ U → ∀ {Q : Exit → Act → List Frame → World → Prop}, SPost m ρ st st' u' w c₀ cs (Q x.to) → c.wpSIn Fence.wide N P Q a ({ c₀ with mode := U } :: cs) w := by
  intro n
  induction n with
  | zero => intro c st st' u u' x h; simp [sX] at h
  | succ n ih =>
    intro c st st' u u' x h m a w U hR hu Q hK
    simp only [sX] at h
    split at h
    · rename_i hrec
      clear hrec
      cases c <;> (try simp only [reduceCtorEq] at h)
      case region id ops dr =>
        cases dr with
        | false =>
          simp only [Option.map_eq_some_iff, Prod.mk.injEq] at h
          obtain ⟨⟨st1, u1⟩, h1, rfl, rfl, rfl⟩ := h
          exact wpSIn_region (opsS_sound hF _ h1 hR hu hK)
        | true => simp only [reduceCtorEq] at h
      case seq c1 c2 =>
        refine wpSIn_seq ?_
        split at h
        · rename_i st1 u1 h1
          exact ih h1 hR hu fun a' w' m' U' hR' hT' hu' => ih h hR' hu' (hK.shift hT')
        · rename_i y hne h1
          cases h
          refine ih h1 hR hu ?_
          cases x with
          | norm => exact absurd rfl (hne st' u')
          | exit id => exact hK
          | ret => exact hK
        · cases h
      case cond e0 c1 c2 =>
        split at h
        · rename_i e he
          have hc := opd_R hR.tmps he
          simp only [DV.R] at hc
          split at h
          · rename_i hd
            have := E.dec_sound hF hd
            rw [this] at hc
            exact wpSIn_cond hc (ih h hR hu hK)
          · rename_i hd
            have := E.dec_sound hF hd
            rw [this] at hc
            exact wpSIn_cond hc (ih h hR hu hK)
          · cases h
        · cases h
      case block id b =>
        refine wpSIn_block ?_
        split at h
        · rename_i id' st1 u1 h1
          split at h
          · rename_i e
            subst e
            cases h
            refine ih h1 hR hu fun a' w' m' U' hR' hT' hu' => ?_
            simp only [Ex.to, Exit.inBlockS, Exit.inBlock, if_true]
            exact hK a' w' m' U' hR' hT' hu'
          · rename_i e
            cases h
            refine ih h1 hR hu fun a' w' m' U' hR' hT' hu' => ?_
            simp only [Ex.to, Exit.inBlockS, Exit.inBlock, e, if_false]
            exact hK a' w' m' U' hR' hT' hu'
        · rename_i y hne h1
          cases h
          refine ih h1 hR hu fun a' w' m' U' hR' hT' hu' => ?_
          cases x with
          | norm => exact hK a' w' m' U' hR' hT' hu'
          | exit id' => exact absurd rfl (hne id' st' u')
          | ret => exact hK a' w' m' U' hR' hT' hu'
        · cases h
    · split at h
      · rename_i x' st1 h1
        cases h
        exact wpSIn_of_wpIn rfl (hcode h1 hR fun a' w' m' hR' hT' => hK a' w' m' U hR' hT' (hu.mono hT'.ext))
      · cases h
end

section
variable (P : Program) (draw : Facts → CallD → Array Oper → St → Option St) (fuel lim : Nat) (callF : Facts → CallD) (rndF : Facts → RndD) (panF : Facts → PanD)

/-- A call that was deferred, and may recover. -/
def dcallS (F : Facts) (f : FuncId) (args : List DV) (u : RM) (h : T Blk) (n : Nat) : Option (RM × T Blk × Nat) := match P.funcs[f]? with
  | some fn => match fn.body with
    | some body => if args.length ≤ fn.ntmps then (match sX P F (codeN P draw fuel lim callF rndF F) fuel body ⟨argsT 0 args, h, n, fn.ntmps, []⟩ u with
      | some (.exit _, _, _) => none
      | some (_, st, u') => if st.dfs.isEmpty && (resultsD P F fn st).isSome then some (u', st.heap, st.next) else none
      | none => none) else none
    | none => none
  | none => none

/-- What is deferred is done, with a panic or without. -/
def exitS (F : Facts) : List Dfr → RM → T Blk → Nat → Option (T Blk × Nat)
  | [], u, h, n => if u.d.isNone then some (h, n) else none
  | .coll id :: r, u, h, n => match h.get id with
    | some (.defb true) => exitS F r u (h.set id (.defb false)) n
    | _ => none
  | .call g pre cap :: r, u, h, n => if bodyOk P g then (match dcallS P draw fuel lim callF rndF F g (pre ++ cap) u h n with
    | some (u', h', n') => exitS F r u'.settle h' n'
    | none => none) else none

/-- A call of a function whose deferred calls may recover. -/
def recB (F : Facts) : CallD := fun f args h n => match P.funcs[f]? with
  | some fn => match fn.body with
    | some body => if args.length ≤ fn.ntmps then
        match codeN P draw fuel lim callF rndF F body ⟨argsT 0 args, h, n, fn.ntmps, []⟩ with
        | some (.leaf (.exit _) _) => none
        | some (.leaf _ st) => (match exitS P draw fuel lim callF rndF F st.dfs ⟨none, false⟩ st.heap st.next with
          | some (h', n') => (resultsD P F fn { st with heap := h', next := n', dfs := [] }).map fun d => ⟨d, h', n'⟩
          | none => none)
        | some (.node ..) => none
        | none => match codeP P F (callF F) (rndF F) (panF F) (codeN P draw fuel lim callF rndF F) fuel body ⟨argsT 0 args, h, n, fn.ntmps, []⟩ with
          | some r => (match exitS P draw fuel lim callF rndF F r.st.dfs ⟨some r.d, false⟩ r.st.heap r.st.next with
            | some (h', n') => (resultsD P F fn { r.st with heap := h', next := n', dfs := [] }).map fun d => ⟨d, h', n'⟩
            | none => none)
          | none => none
      else none
    | none => none
  | none => none

variable {P}
variable {S : Env → Prop} {callF : Facts → CallD} {rndF : Facts → RndD} {panF : Facts → PanD} (hcall : ∀ F, F.sem = S → CallOk P F (callF F)) (hrnd : ∀ F, F.sem = S → RndOk P F (rndF F)) (hpan : ∀ F, F.sem = S → PanOk P F (panF F)) {draw : Facts → CallD → Array Oper → St → Option St} (hdraw : ∀ F, F.sem = S → ∀ call, CallOk P F call → DrawOk P F (draw F call))
include hcall hrnd hdraw

theorem dcallS_ok {F : Facts} (hS : F.sem = S) {ρ : Env} (hF : F.ok ρ) {f : FuncId} {args : List DV} {u u' : RM} {h h' : T Blk} {n n' : Nat} (hr : dcallS P draw fuel lim callF rndF F f args u h n = some (u', h', n')) {m : Emb} {w : World} {vs : Array Value} {U : FrameMode}
    (hvs : DV.RL m ρ args vs.toList) (hH : HeapR m ρ h w) (hf : ∀ id, n ≤ id → m.ι id = none) (hu : u.R m ρ U) :
    CallsDIn Fence.wide 0 P f vs U w fun e U' w' => ∃ v m', e = .returned v ∧ u'.R m' ρ U' ∧ HeapR m' ρ h' w' ∧ Trans m h w m' h' w' ∧ (∀ id, n' ≤ id → m'.ι id = none) := by
  unfold dcallS at hr
  split at hr
  · rename_i fn hfn
    split at hr
    · rename_i body hbody
      split at hr
      · rename_i hlen
        have key : ∀ {x : Ex} {st : St} {u1 : RM}, sX P F (codeN P draw fuel lim callF rndF F) fuel body ⟨argsT 0 args, h, n, fn.ntmps, []⟩ u = some (x, st, u1) → (∀ id, x ≠ .exit id) → (if st.dfs.isEmpty && (resultsD P F fn st).isSome then some (u1, st.heap, st.next) else none) = some (u', h', n') →
            CallsDIn Fence.wide 0 P f vs U w fun e U' w' => ∃ v m', e = .returned v ∧ u'.R m' ρ U' ∧ HeapR m' ρ h' w' ∧ Trans m h w m' h' w' ∧ (∀ id, n' ≤ id → m'.ι id = none) := by
          intro x st u1 hs hx hc
          split at hc
          · rename_i hc'
            simp only [Bool.and_eq_true, List.isEmpty_iff] at hc'
            obtain ⟨hd, hres⟩ := hc'
            cases hc
            obtain ⟨d, hres⟩ := Option.isSome_iff_exists.1 hres
            refine callsDIn_of_wpSIn hfn hbody trivial fun c₀ cs hc0 => ?_
            subst hc0
            refine sX_sound hF (codeN_ok fuel lim hcall hrnd hdraw hS hF) fuel hs (rep_args hvs hH hf hlen) hu (c₀ := c₀) (cs := cs) fun a' w' m' U' hR' hT' hu' => ?_
            have hdf := hR'.dfs
            rw [hd] at hdf
            obtain ⟨v, hv, hrv⟩ := resultsD_run (P := P) hF hres hR'
            cases x with
            | norm => exact ⟨hdf, U', rfl, v, hv, v, m', rfl, hu', hR'.heap, hT', hR'.fresh⟩
            | ret => exact ⟨hdf, U', rfl, v, hv, v, m', rfl, hu', hR'.heap, hT', hR'.fresh⟩
            | exit id => exact absurd rfl (hx id)
          · cases hc
        split at hr
        · cases hr
        · rename_i x st u1 hne hs
          exact key hs (fun id e => hne id e) hr
        · cases hr
      · cases hr
    · cases hr
  · cases hr

theorem exitS_ok {F : Facts} (hS : F.sem = S) {ρ : Env} (hF : F.ok ρ) : ∀ (l : List Dfr) {u : RM} {h h' : T Blk} {n n' : Nat}, exitS P draw fuel lim callF rndF F l u h n = some (h', n') → ∀ {m : Emb} {w : World} {ds : List Deferred} {fn : Func} {tmps : Array Value} {R : Ending → World → Prop} {U : FrameMode},
    DfsR m ρ l ds → HeapR m ρ h w → (∀ i, n ≤ i → m.ι i = none) → u.R m ρ U → (∀ m' w', HeapR m' ρ h' w' → Trans m h w m' h' w' → (∀ i, n' ≤ i → m'.ι i = none) → LeavesInM Fence.wide 0 P fn tmps R [] .returning w') → LeavesInM Fence.wide 0 P fn tmps R ds U w := by
  have notrun : ∀ {u : RM} {m : Emb} {U : FrameMode}, u.R m ρ U → U ≠ .run := by
    intro u m U hu
    obtain ⟨d, b⟩ := u
    cases d with
    | none => obtain rfl : U = .returning := hu; simp
    | some d => obtain ⟨v, _, rfl⟩ := hu; simp
  intro l
  induction l with
  | nil =>
    intro u h h' n n' he m w ds fn tmps R U hds hH hf hu hk
    simp only [exitS] at he
    split at he
    · rename_i hn
      cases he
      obtain rfl : ds = [] := hds
      obtain ⟨d, b⟩ := u
      cases d with
      | none =>
        obtain rfl : U = .returning := hu
        exact hk m w hH (Trans.refl _ _ _) hf
      | some d => cases hn
    · cases he
  | cons x r ih =>
    intro u h h' n n' he m w ds fn tmps R U hds hH hf hu hk
    obtain ⟨d, dr, rfl, hx, hr⟩ := hds
    cases x with
    | coll id =>
      obtain ⟨b, hb, rfl⟩ := hx
      simp only [exitS] at he
      split at he
      · rename_i hg
        obtain ⟨b', o, hb', ho, hB⟩ := hH.blk id _ hg rfl
        rw [hb] at hb'; cases hb'
        obtain rfl : o = .deferred (some []) := hB
        have hH2 : HeapR m ρ (h.set id (.defb false)) (setObjW w b (.deferred none)) := hH.write hg rfl hb (setObjW_self ho) rfl rfl fun c hc => setObjW_other hc
        have hT2 : Trans m h w m (h.set id (.defb false)) (setObjW w b (.deferred none)) := Trans.write hg rfl hb (fun c hc => setObjW_other hc) setObjW_size rfl rfl rfl
        refine ⟨notrun hu, .inl ⟨b, _, rfl, takeDeferred_run ho, ?_⟩⟩
        exact ih he hr hH2 hf hu fun m' w' g1 g2 g3 => hk m' w' g1 (hT2.trans g2) g3
      · cases he
    | call g pre cap =>
      obtain ⟨a, c, rfl, ha, hc⟩ := hx
      simp only [exitS] at he
      split at he
      · rename_i hbody
        split at he
        · rename_i u1 h1 n1 ho
          have hargs : DV.RL m ρ (pre ++ cap) (a ++ c).toList := by simpa using ha.append hc
          refine ⟨notrun hu, .inr ⟨fz_depth none, _, _, g, a ++ c, rfl, by simp only [invoke]; exact bodyOk_run hbody w _, fun f' _ => trivial, ?_⟩⟩
          refine CallsDIn.mono' (dcallS_ok fuel lim hcall hrnd hdraw hS hF ho hargs hH hf hu) fun e U' w' ⟨v, m', he', hu', hH', hT', hf'⟩ => ?_
          subst he'
          exact ih he (hr.mono hT'.ext) hH' hf' hu'.settle fun m2 w2 g1 g2 g3 => hk m2 w2 g1 (hT'.trans g2) g3
        · cases he
      · cases he

include hpan
theorem recB_ok {F : Facts} (hS : F.sem = S) : CallOk P F (recB P draw fuel lim callF rndF panF F) := by
  intro f args h n r hr ρ hF m w vs hvs hH hf
  unfold recB at hr
  split at hr
  · rename_i fn hfn
    split at hr
    · rename_i body hbody
      split at hr
      · rename_i hlen
        have fin : ∀ {st : St} {u : RM}, (match exitS P draw fuel lim callF rndF F st.dfs u st.heap st.next with
            | some (h', n') => (resultsD P F fn { st with heap := h', next := n', dfs := [] }).map fun d => (⟨d, h', n'⟩ : Out)
            | none => none) = some r → ∀ {a' : Act} {w' : World} {m' : Emb} {U : FrameMode}, Rep m' ρ st a' w' → Trans m h w m' st.heap w' → u.R m' ρ U →
            LeavesInM Fence.wide 0 P fn a'.tmps (fun e w' => ∃ v m', e = .returned v ∧ r.d.R m' ρ v ∧ HeapR m' ρ r.h w' ∧ Trans m h w m' r.h w' ∧ (∀ id, r.n ≤ id → m'.ι id = none)) a'.defers U w' := by
          intro st u hx a' w' m' U hR' hT' hu'
          split at hx
          · rename_i h2 n2 he
            simp only [Option.map_eq_some_iff] at hx
            obtain ⟨d, hd, rfl⟩ := hx
            refine exitS_ok fuel lim hcall hrnd hdraw hS hF _ he hR'.dfs hR'.heap hR'.fresh hu' fun m2 w2 hH2 hT2 hf2 => ?_
            obtain ⟨v, hv, hrv⟩ := fin_results (P := P) hF hd hR' hT2.ext hH2 hf2
            exact ⟨v, hv, v, m2, rfl, hrv, hH2, hT'.trans hT2, hf2⟩
          · cases hx
        have hcode := fun {c : Code} {st : St} {r : CR} (h : codeN P draw fuel lim callF rndF F c st = some r) {m : Emb} {a : Act} {w : World} (hR : Rep m ρ st a w) {Q : Exit → Act → World → Prop} (hK : r.Post m ρ st w Q) => codeN_ok fuel lim hcall hrnd hdraw hS hF (N := 0) h hR hK
        refine (callsIn_wide (n := 0)).1 (callsIn_of_wp_marks hfn hbody trivial ?_)
        split at hr
        · cases hr
        · rename_i x st hne hc
          refine hcode hc (rep_args hvs hH hf hlen) fun a' w' m' hR' hT' => ?_
          cases x with
          | norm => exact fin hr hR' hT' rfl
          | ret => exact fin hr hR' hT' rfl
          | exit id => exact absurd rfl (hne id)
        · cases hr
        · split at hr
          · rename_i r' hc
            refine (codeP_sound (hcall F hS) (hrnd F hS) (hpan F hS) hF hcode fuel).1 hc (rep_args hvs hH hf hlen) fun a' w' m' v hR' hT' hv => ?_
            exact fin hr hR' hT' ⟨v, hv, rfl⟩
          · cases hr
      · cases hr
    · cases hr
  · cases hr
end

/-- Calls that panic, so deep. -/
def panX (P : Program) (Γ : Facts → FuncId → Option CallD) (draw : Facts → CallD → Array Oper → St → Option St) (fuel lim : Nat) : Nat → Facts → PanD
  | 0 => fun _ _ _ _ _ => none
  | k + 1 => panB P draw fuel lim (bothX P Γ draw fuel lim k).1 (bothX P Γ draw fuel lim k).2 (panX P Γ draw fuel lim k)

theorem panX_ok {P : Program} {S : Env → Prop} {Γ : Facts → FuncId → Option CallD} (hΓ : ∀ F : Facts, F.sem = S → ΓOk P F (Γ F)) {draw : Facts → CallD → Array Oper → St → Option St} (hdraw : ∀ F, F.sem = S → ∀ call, CallOk P F call → DrawOk P F (draw F call)) (fuel lim : Nat) : ∀ k F, F.sem = S → PanOk P F (panX P Γ draw fuel lim k F)
  | 0, F, _ => fun f args h n r hr => by simp [panX] at hr
  | k + 1, F, hS => by
    obtain ⟨h1, h2⟩ := bothX_sound hΓ hdraw fuel lim k
    exact panB_ok fuel lim h1 h2 (panX_ok hΓ hdraw fuel lim k) hdraw F hS

/-- A function whose deferred calls recover, by a run. -/
def recX (P : Program) (Γ : Facts → FuncId → Option CallD) (loops depth : Nat) (F : Facts) : CallD :=
  recB P (fun F' call => drawY P F' call) (loops % 100000) (F.conds.length + loops / 100000) (bothX P Γ (fun F' call => drawY P F' call) (loops % 100000) (F.conds.length + loops / 100000) depth).1 (bothX P Γ (fun F' call => drawY P F' call) (loops % 100000) (F.conds.length + loops / 100000) depth).2
    (panX P Γ (fun F' call => drawY P F' call) (loops % 100000) (F.conds.length + loops / 100000) depth) F

theorem recX_ok {P : Program} {F : Facts} {Γ : Facts → FuncId → Option CallD} (hΓ : ∀ F' : Facts, F'.sem = F.sem → ΓOk P F' (Γ F')) (loops depth : Nat) : CallOk P F (recX P Γ loops depth F) := by
  obtain ⟨h1, h2⟩ := bothX_sound (P := P) hΓ (fun _ _ _ h => drawY_ok h) (loops % 100000) (F.conds.length + loops / 100000) depth
  exact recB_ok _ _ h1 h2 (panX_ok hΓ (fun _ _ _ h => drawY_ok h) _ _ depth) (fun _ _ _ h => drawY_ok h) rfl

/-- The functions that recover, each by a run of its own. -/
def ΓR (P : Program) (fs : List FuncId) (Γ : Facts → FuncId → Option CallD) (loops depth : Nat) (F : Facts) (g : FuncId) : Option CallD := if fs.any (· == g) then some (recX P Γ loops depth F) else Γ F g
theorem ΓR_ok {P : Program} {fs : List FuncId} {Γ : Facts → FuncId → Option CallD} (hΓ : ∀ F : Facts, ΓOk P F (Γ F)) {loops depth : Nat} : ∀ F : Facts, ΓOk P F (ΓR P fs Γ loops depth F) := fun F g d hd => by
  unfold ΓR at hd
  split at hd
  · cases hd
    exact fun args h n r hr => recX_ok (fun F' _ => hΓ F') loops depth g args h n r hr
  · exact hΓ F g d hd

/-- The functions that answer plain data: what they lay and may not be written is forgotten. -/
def ΓC (P : Program) (fs : List FuncId) (Γ : Facts → FuncId → Option CallD) (loops depth : Nat) (F : Facts) (g : FuncId) : Option CallD := if fs.any (· == g) then some (cleanC (runX P F Γ loops depth)) else Γ F g
theorem ΓC_ok {P : Program} {fs : List FuncId} {Γ : Facts → FuncId → Option CallD} (hΓ : ∀ F : Facts, ΓOk P F (Γ F)) {loops depth : Nat} : ∀ F : Facts, ΓOk P F (ΓC P fs Γ loops depth F) := fun F g d hd => by
  unfold ΓC at hd
  split at hd
  · cases hd
    exact fun args h n r hr => cleanC_ok (runX_ok (fun F' _ => hΓ F') loops depth) g args h n r hr
  · exact hΓ F g d hd

end Go.Eng

/-
  Told calls over a memory of listed variables; a law that reads them, its run cut in pieces; contracts of strings.Clone.
-/
namespace Go.Eng
open Go.RowKit

section
variable (P : Program)

/-- What such a call answers, the listed variables holding what they hold. -/
def MemoG (G : List (Nat × List DV)) (c : MC) : Prop := ∀ (ρ : Env) (m : Emb) (w : World) (vs : Array Value), DV.RL m ρ c.args vs.toList → HeapR m ρ (T.ofList (glH G)) w → (∀ id, 501 ≤ id → m.ι id = none) →
      Calls P c.f vs w fun e w' => ∃ v m', e = .returned v ∧ c.res.R m' ρ v ∧ Below w.heap.size w w'

def memoGOk (G : List (Nat × List DV)) (Γ : Facts → FuncId → Option CallD) (loops depth : Nat) (c : MC) : Bool := match runX P {} Γ loops depth c.f c.args (T.ofList (glH G)) 501 with
  | some r => DV.eqv r.d c.res
  | none => false
variable {P}

theorem glH_ro' {G : List (Nat × List DV)} {id : Nat} {B : Blk} (h : (T.ofList (glH G)).get id = some B) : B.rw = false := by
  have hm := ofList_mem h
  unfold glH at hm
  rcases List.mem_cons.1 hm with e | hm
  · cases e; rfl
  · obtain ⟨q, _, e⟩ := List.mem_map.1 hm
    cases e; rfl

theorem memoG_of {G : List (Nat × List DV)} {Γ : Facts → FuncId → Option CallD} (hΓ : ∀ F : Facts, ΓOk P F (Γ F)) {loops depth : Nat} {c : MC} (h : memoGOk P G Γ loops depth c = true) : MemoG P G c := by
  intro ρ m w vs hvs hH hf
  unfold memoGOk at h
  split at h
  · rename_i r hr
    refine (runX_ok (F := {}) (fun F' _ => hΓ F') loops depth c.f c.args _ 501 r hr ρ ⟨by simp, by simp, by simp, trivial⟩ m w vs hvs hH hf).mono fun e w' ⟨v, m', he, hd, hH', hT, _⟩ => ?_
    refine ⟨v, m', he, ?_, below_of hT fun id B hB => glH_ro' hB⟩
    rw [← DV.eqv_eq h]; exact hd
  · cases h

/-- A call that reads none of them. -/
theorem memoG_plain {G : List (Nat × List DV)} {c : MC} (hs : DV.scalL c.args = true) (h : Memo P c) : MemoG P G c := fun ρ _ w vs hvs _ _ =>
  h ρ ⟨fun _ => none, fun _ => 0⟩ w vs (DV.scalL_R hs hvs) ⟨fun id B hB => by simp at hB, fun id id' B B' b hB => by simp at hB⟩ (fun _ => rfl)

def blkEq : Blk → Blk → Bool
  | .cells l t md, .cells l' t' md' => DV.eqvL l l' && (decide (t = t') && decide (md = md'))
  | _, _ => false
theorem blkEq_eq : ∀ {B B' : Blk}, blkEq B B' = true → B = B' := by
  intro B B' h
  unfold blkEq at h
  split at h
  · simp only [Bool.and_eq_true, decide_eq_true_eq] at h
    obtain ⟨h1, rfl, rfl⟩ := h
    rw [DV.eqvL_eq h1]
  · cases h

/-- Does the memory hold the listed variables as they are? -/
def hasG (l : List (Nat × Blk)) (h : T Blk) : Bool := l.all fun p => decide (p.1 < 501) && p.2.ids.all (fun i => decide (i < 501)) && (match h.get p.1 with
  | some B => blkEq B p.2
  | none => false)

theorem hasG_R {G : List (Nat × List DV)} {h : T Blk} (hg : hasG (glH G) h = true) {m : Emb} {ρ : Env} {w : World} (hH : HeapR m ρ h w) : HeapR (m.below 501) ρ (T.ofList (glH G)) w := by
  refine ⟨fun id B hB hl => ?_, fun id id' B B' b hB hB' hrw => by rw [glH_ro' hB] at hrw; cases hrw⟩
  have hm := ofList_mem hB
  have := List.all_eq_true.1 hg _ hm
  simp only [Bool.and_eq_true, decide_eq_true_eq, List.all_eq_true] at this
  obtain ⟨⟨h1, h2⟩, h3⟩ := this
  split at h3
  · rename_i B' hB'
    obtain rfl := blkEq_eq h3
    obtain ⟨b, o, hb, ho, hr⟩ := hH.blk id _ hB' hl
    exact ⟨b, o, by simp [Emb.below, h1, hb], ho, Blk.R_congr (fun x hx => Emb.below_same (h2 x hx)) hr⟩
  · cases h3

/-- The told calls of the function g. -/
def memoGC (G : List (Nat × List DV)) (g : FuncId) : List MC → CallD
  | [], _, _, _, _ => none
  | c :: r, k, xs, h, n => if c.f == g && (DV.eqvL xs c.args && (DV.scalL c.args && c.res.scal)) then (if hasG (glH G) h then some ⟨c.res, h, n⟩ else none) else memoGC G g r k xs h n

theorem memoGC_ok {F : Facts} {G : List (Nat × List DV)} {f : FuncId} : ∀ {l : List MC}, (∀ c ∈ l, MemoG P G c) → CallCOk P F f (memoGC G f l)
  | [], _, xs, h, n, x, hx, _, _, _, _, _, _, _, _ => by simp [memoGC] at hx
  | c :: r, hl, xs, h, n, x, hx, ρ, hF, m, w, vs, hvs, hH, hf => by
    simp only [memoGC] at hx
    split at hx
    · rename_i hc
      simp only [Bool.and_eq_true, beq_iff_eq] at hc
      obtain ⟨rfl, he, hs1, hs2⟩ := hc
      split at hx
      · rename_i hg
        cases hx
        rw [DV.eqvL_eq he] at hvs
        refine (hl c (List.mem_cons_self ..) ρ (m.below 501) w vs (DV.scalL_R hs1 hvs) (hasG_R hg hH) (fun id hid => by simp [Emb.below]; omega)).mono fun e w' ⟨v, m', he, hd, hb⟩ => ?_
        exact ⟨v, m, he, DV.scal_R hs2 hd, heap_below hH hb, trans_below hb, hf⟩
      · cases hx
    · exact memoGC_ok (fun c hm => hl c (List.mem_cons_of_mem _ hm)) xs h n x hx ρ hF m w vs hvs hH hf

/-- A closed law that reads listed variables, its run cut in pieces. -/
theorem lawG_cuts {G : List (Nat × List DV)} {f : FuncId} {fn : Func} {root : Code} {Γ : Facts → FuncId → Option CallD} {loops depth : Nat} (hΓ : ∀ F' : Facts, F'.sem = ({} : Facts).sem → ΓOk P F' (Γ F')) (hfn : P.funcs[f]? = some fn) (hbody : fn.body = some root) {c : Cut}
    (hrun : cutGo P Γ loops depth root fn {} (some c) (.code root []) [] ⟨argsT 0 [], T.ofList (glH G), 501, fn.ntmps, []⟩ = true) (hc : CutOk P root fn {} c) : LawG P G f [] :=
  ⟨fun _ => True, fun _ => ⟨fun _ => .I 0, fun _ _ _ _ => .I 0, trivial⟩, fun ρ m w vs _ _ hvs hH hf =>
    law_by_cuts (args := []) (h := T.ofList (glH G)) (n := 501) hΓ hfn hbody (Nat.zero_le _) hrun hc (ρ := ρ) ⟨by simp, by simp, by simp, trivial⟩ hvs (by simpa [shH] using hH) (by simpa [shN] using hf) (fun id B h => glH_ro' h)⟩

/-- internal/stringslite.Clone. -/
def cloneC : CallD := fun _ xs h n => match xs with
  | [.str (.ls s)] => if s.size ≤ 1000000 then some ⟨.str (.ls s), h, n⟩ else none
  | _ => none
theorem cloneC_ok {F : Facts} {f : FuncId} (hf : ∀ (s : ByteArray) (w : World), s.size ≤ 281474976710656 → Calls P f #[.string s] w fun e w' => e = .returned (.string s) ∧ Below w.heap.size w w') : CallCOk P F f cloneC := by
  intro args h n r hr ρ hF m w vs hvs hH hn
  unfold cloneC at hr
  split at hr
  · rename_i s
    split at hr
    · rename_i hs
      cases hr
      simp only [DV.RL] at hvs
      obtain ⟨x, vr, h1, hx, rfl⟩ := hvs
      simp only [DV.R, E.ev, Sc.str_S] at hx
      subst hx
      obtain rfl : vs = #[.string s] := Array.toList_inj.1 (by simpa using h1)
      refine (hf s w (by omega)).mono fun e w' ⟨he, hb⟩ => ?_
      exact ⟨_, m, he, by simp only [DV.R, E.ev, Sc.str_S], heap_below hH hb, trans_below hb, hn⟩
    · cases hr
  · cases hr
end
end Go.Eng

/-
  A closed law by one run, listed variables in use.
-/
namespace Go.Eng
open Go.RowKit
section
variable {P : Program} {Γ : Facts → FuncId → Option CallD} {loops depth : Nat} {root : Code} {fn : Func} {F : Facts}

theorem law_by_run (hΓ : ∀ F' : Facts, F'.sem = F.sem → ΓOk P F' (Γ F')) {f : FuncId} (hfn : P.funcs[f]? = some fn) (hbody : fn.body = some root) {args : List DV} {h : T Blk} {n : Nat} (hlen : args.length ≤ fn.ntmps)
    (hrun : cutGo P Γ loops depth root fn F none (.code root []) [] ⟨argsT 0 args, h, n, fn.ntmps, []⟩ = true)
    {ρ : Env} (hF : F.ok ρ) {m : Emb} {w : World} {vs : Array Value} (hvs : DV.RL m ρ args vs.toList) (hH : HeapR m ρ h w) (hf : ∀ id, n ≤ id → m.ι id = none) (hro : ∀ id B, h.get id = some B → B.rw = false) :
    Calls P f vs w fun e w' => e = .returned (.bool true) ∧ Below w.heap.size w w' := by
  refine Calls.mono (R := EndR oblT w (Fp m h)) (calls_of_wp hfn hbody ?_) fun _ _ he => endT (fun b ⟨id, B, hB, hrw, _⟩ => by rw [hro id B hB] at hrw; cases hrw) he
  have hl := hvs.length
  simp at hl
  have hR0 := rep_args (n := n) hvs hH hf hlen
  exact cutGo_ok hΓ (fun c' e => by cases e) hrun trivial (by simp [NxOk, locate]) hF hR0 (Since.start m h w)

theorem lawG_run {G : List (Nat × List DV)} {f : FuncId} (hΓ : ∀ F' : Facts, F'.sem = ({} : Facts).sem → ΓOk P F' (Γ F')) (hfn : P.funcs[f]? = some fn) (hbody : fn.body = some root)
    (hrun : cutGo P Γ loops depth root fn {} none (.code root []) [] ⟨argsT 0 [], T.ofList (glH G), 501, fn.ntmps, []⟩ = true) : LawG P G f [] :=
  ⟨fun _ => True, fun _ => ⟨fun _ => .I 0, fun _ _ _ _ => .I 0, trivial⟩, fun ρ m w vs _ _ hvs hH hf =>
    law_by_run (args := []) (h := T.ofList (glH G)) (n := 501) hΓ hfn hbody (Nat.zero_le _) hrun (ρ := ρ) ⟨by simp, by simp, by simp, trivial⟩ hvs (by simpa [shH] using hH) (by simpa [shN] using hf) (fun id B h => glH_ro' h)⟩
end
end Go.Eng

/-
  Closed laws over whatever the listed variables hold, type handles and numbers that are not listed among them; strings.ReplaceAll by its contract.
-/
namespace Go.Eng
open Go.RowKit Go.ChangeShapes Go.WideShapes Go.ChangeAt

section
variable {H : Type} {enc : TypeId × Value → H}

/-- The whole step of a closed row: whatever its condition on the memory is, as long as the listed blocks follow from it. -/
theorem lifted_closed {C : Checked} (own : ownKnob C.prog.godebug = none) (laidOut : laidOutB C.prog = true) {os : Os} (started : os.Started) {f : FuncId} {fn : Func} {s : ChangeSpec} {conds : List PathCond} {apart : Bool} {tb : TypeId} {X : World → Prop}
    (hX : ∀ (w w' : World), w.heap = w'.heap → X w → X w') {G : List (Nat × List DV)} (hGne : G ≠ [])
    (hG : ∀ W : World, X W → W.ShapedOpen C.prog → ∃ ρ0 : Nat → Sc, ∀ (m : Emb) (ρ : Env), (∀ i, i < 900 → ρ.v i = ρ0 i) → ∀ g l, (g, l) ∈ G → g < 500 ∧ ∃ c t fr, W.heap[g]? = some (.cells c t fr) ∧ DV.RL m ρ l c.toList)
    (noInit : C.prog.inits.idxOf? f = none) (_ : C.prog.funcs[f]? = some fn)
    (witness : ∃ (w : World) (tape : Tape) (i : Input), w.os = os ∧ (w.forCall tape i).Shaped C.prog ∧ i.vars = [] ∧ Input.okWide C.prog (w.forCall tape i) .any w.heap.size f i ∧
      ((s.pre enc C.prog fn conds apart (w.forCall tape i).memory i.args ∧ X (w.forCall tape i).memory) ∧ sizedMet enc C.prog fn (OpenSpec.ofChange s) apart (w.forCall tape i).memory i.args) ∧ Assume.holds {} C.prog (lone (Frame.enter C.prog f i.args .normal) [] (w.forCall tape i)))
    (hps : fn.params = #[]) (hres : fn.resultTypes = #[tb]) (htb : C.prog.underlying tb = some .bool) (hvs : s.vars = [])
    (hsf : s.fn H [] = { results := [.lit (.bool true)], args := [] }) (law : LawG C.prog G f []) :
    ReturnsInHanded {} C os f .any (fun w args => (s.pre enc C.prog fn conds apart w args ∧ X w) ∧ sizedMet enc C.prog fn (OpenSpec.ofChange s) apart w args) (s.post enc C.prog fn apart true false false) := by
  refine returnsInHanded_of_calls own started noInit witness ?_
  intro w tape i _ hsh _ _ hpre _
  obtain ⟨⟨⟨ds, gs, before, hw, _⟩, hx⟩, _⟩ := hpre
  have hW := DataW.Whole.of_heap (w' := w.forCall tape i) (by rfl) hw
  have hX' := hX _ (w.forCall tape i) (by rfl) hx
  generalize hWW : w.forCall tape i = W at *
  have hW' := hW
  obtain ⟨p, q, hA, hV, rfl, hfz, hnd⟩ := hW
  rw [hps] at hA
  obtain ⟨ha0, hd0, _⟩ := trodAll_nil hA
  subst hd0
  have hg : gs = [] := by
    rw [hvs] at hV
    exact (trodVars_none hV).1
  obtain ⟨ρ0, hρ0⟩ := hG W hX' hsh
  obtain ⟨S, hSx, hlaw⟩ := law
  obtain ⟨x, xf, hxS⟩ := hSx { v := ρ0 }
  obtain ⟨p0, hp0⟩ := List.exists_mem_of_ne_nil G hGne
  let m : Emb := ⟨fun id => if id < 500 then some id else if id = 500 then some p0.1 else none, fun _ => 0⟩
  let ρ : Env := { v := fun i => if i < 900 then ρ0 i else x i, f := xf }
  have hgl : ∀ {g : Nat} {l : List DV}, (g, l) ∈ G → g < 500 ∧ ∃ c t fr, W.heap[g]? = some (.cells c t fr) ∧ DV.RL m ρ l c.toList := fun hm => hρ0 m ρ (fun i hi => by simp [ρ, hi]) _ _ hm
  have hvs0 : DV.RL m ρ (shDV C.prog [] 0 501) i.args.toList := by rw [ha0]; simp [shDV, DV.RL]
  have hH : HeapR m ρ (T.ofList (glH G ++ shH C.prog [] 0 501)) W := by
    refine ⟨fun id B hB' _ => ?_, fun id id' B B' b hB' _ hrw => ?_⟩
    · have hm := ofList_mem hB'
      simp only [shH, List.append_nil] at hm
      unfold glH at hm
      rcases List.mem_cons.1 hm with e | hm
      · cases e
        obtain ⟨h500, c, t, fr, ho, _⟩ := hgl hp0
        exact ⟨p0.1, _, by simp [m], ho, c, fr, ⟨_, rfl⟩, Nat.zero_le _, fun i d hd => by simp at hd, trivial⟩
      · obtain ⟨⟨g, l⟩, hq, e⟩ := List.mem_map.1 hm
        cases e
        obtain ⟨h500, c, t, fr, ho, hr⟩ := hgl hq
        have hι : m.ι g = some g := by simp [m, h500]
        exact ⟨g, _, hι, ho, c, fr, ⟨_, rfl⟩, by have := hr.length; simp at this; exact Nat.le_of_eq this.symm, fun i d hd => by
          obtain ⟨v, hv, hrv⟩ := hr.get hd
          exact ⟨v, by simpa using hv, hrv⟩, hι⟩
    · rw [glH_ro (ofList_mem hB')] at hrw; cases hrw
  refine (hlaw ρ m W i.args hxS (by simp [shB]) hvs0 hH (fun id hid => ?_)).mono fun e W' ⟨he, bel⟩ => ?_
  · simp only [shN] at hid
    simp only [m]
    rw [if_neg (by omega), if_neg (by omega)]
  · subst he
    refine ChangeSpec.post_blind ?_
    refine post_true laidOut ?_ hres htb hvs ?_ hW' bel
    · rw [hps]; simp
    · rw [hg]; exact hsf
end

/-- A package variable of a number type that is not listed holds a number. -/
theorem number_shaped {P : Program} {W : World} (hsh : W.ShapedOpen P) {g : Nat} {t : TypeId} {k : IntKind} {z : Array Value} (hg : g < P.globals.size) (hz : (((begin P (fun _ _ => 0) default).world).heap[g]?).bind Obj.row? = some (z, t)) (hz1 : z.size = 1) (hb : P.buildable t = true)
    (hc : P.cellTypes P.depth t = some [t]) (hu : P.underlying t = some (.int k)) : ∃ n t' fr, W.heap[g]? = some (.cells #[.int k n] t' fr) := by
  obtain ⟨cs, h1, h2, h3⟩ := hsh.1 g z t hg hz
  obtain ⟨ts, e, -, h4⟩ := h3 hb
  obtain rfl := Option.some.inj (hc.symm.trans e)
  have hsz : cs.size = 1 := by omega
  obtain ⟨v, rfl⟩ : ∃ v, cs = #[v] := Array.size_eq_one_iff.1 hsz
  obtain ⟨u, hu', hok⟩ := h4 0 v (by simp)
  simp at hu'
  subst hu'
  unfold Cell.ok at hok
  rw [hu] at hok
  cases v <;> simp only at hok
  case int k' x =>
    obtain ⟨rfl, _⟩ := hok
    exact ⟨x, _, _, h1⟩

/-- strings.ReplaceAll; g0 is bytealg.MaxLen. -/
def replC (g0 : Nat) : CallD := fun _ xs h n => match xs with
  | [.str (.ls s), .str (.ls old), .str (.ls new)] => match h.get g0 with
    | some (.cells [.int .i64 _] _ (.gl g)) => if g = g0 ∧ s.size ≤ 100000 ∧ 1 ≤ old.size ∧ Lib.countB s old * new.size ≤ 100000 then some ⟨.str (.ls ⟨(Lib.replaceAll s.data.toList old.data.toList new.data.toList).toArray⟩), h, n⟩ else none
    | _ => none
  | _ => none
theorem replC_ok {P : Program} {F : Facts} {f : FuncId} {g0 : Nat} (hf : ∀ (s old new : ByteArray) (m : Int) (w : World), s.size < 4294967281 → w.cell? ⟨g0, 0, none⟩ = some (.int .i64 m) → 1 ≤ old.size → s.size + Lib.countB s old * new.size ≤ 140737488355328 →
      Calls P f #[.string s, .string old, .string new] w fun e w' => e = .returned (.string ⟨(Lib.replaceAll s.data.toList old.data.toList new.data.toList).toArray⟩) ∧ Below w.heap.size w w') : CallCOk P F f (replC g0) := by
  intro args h n r hr ρ hF m w vs hvs hH hn
  unfold replC at hr
  split at hr
  · rename_i s old new
    split at hr
    · rename_i e t g hg
      split at hr
      · rename_i hc
        cases hr
        obtain ⟨rfl, h1, h2, h3⟩ := hc
        simp only [DV.RL] at hvs
        obtain ⟨x, vr, e1, hx, y, vr2, e2, hy, z, vr3, e3, hz, rfl⟩ := hvs
        simp only [DV.R, E.ev, Sc.str_S] at hx hy hz
        subst hx; subst hy; subst hz
        obtain rfl : vs = #[.string s, .string old, .string new] := Array.toList_inj.1 (by rw [e1, e2, e3])
        obtain ⟨b, o, hb, ho, c, fr, ⟨t', rfl⟩, _, hcells, hmd⟩ := hH.blk g _ hg rfl
        have hbg : b = g := Option.some.inj (hb.symm.trans hmd)
        subst hbg
        obtain ⟨v, hv, hvr⟩ := hcells 0 _ rfl
        simp only [DV.R] at hvr
        refine (hf s old new _ w (by omega) (by rw [show (⟨b, 0, none⟩ : Addr) = ⟨b, 0, none⟩ from rfl, cell_at ho, hv, hvr]) h2 (by omega)).mono fun e w' ⟨he, hb'⟩ => ?_
        exact ⟨_, m, he, by simp only [DV.R, E.ev, Sc.str_S], heap_below hH hb', trans_below hb', hn⟩
      · cases hr
    · cases hr
  · cases hr
end Go.Eng

/-
  Told calls with memory: what a call makes of some blocks, each proved apart by the kernel's run; a run looks them up, its other blocks stay.
-/
namespace Go.Eng
open Go.RowKit

/-- A call: the function, what it is given, the blocks that it may see, the next number; what it answers, the blocks that it leaves otherwise or new, the next number. -/
structure MH where
  f : FuncId
  args : List DV
  ins : List (Nat × Blk)
  n : Nat
  d : DV
  out : List (Nat × Blk)
  n' : Nat

/-- So many blocks put in. -/
def puts : List (Nat × Blk) → T Blk → T Blk
  | [], h => h
  | p :: r, h => (puts r h).set p.1 p.2

theorem puts_get : ∀ {l : List (Nat × Blk)} {h : T Blk} {id : Nat} {B : Blk}, (puts l h).get id = some B → (id, B) ∈ l ∨ ((∀ p ∈ l, p.1 ≠ id) ∧ h.get id = some B)
  | [], h, id, B, hB => .inr ⟨by simp, hB⟩
  | p :: r, h, id, B, hB => by
    simp only [puts, T.get_set] at hB
    split at hB
    · rename_i e
      cases hB
      subst e
      exact .inl (List.mem_cons_self ..)
    · rename_i e
      rcases puts_get hB with h1 | ⟨h1, h2⟩
      · exact .inl (List.mem_cons_of_mem _ h1)
      · exact .inr ⟨by simp only [List.forall_mem_cons]; exact ⟨fun x => e x.symm, h1⟩, h2⟩

def hasB (h : T Blk) (p : Nat × Blk) : Bool := match h.get p.1 with
  | some B => B.eqv p.2
  | none => false
theorem hasB_get {h : T Blk} {p : Nat × Blk} (hb : hasB h p = true) : h.get p.1 = some p.2 := by
  unfold hasB at hb
  split at hb
  · rename_i B hB
    rw [hB, Blk.eqv_eq hb]
  · cases hb

def inB (l : List (Nat × Blk)) (id : Nat) : Bool := l.any fun p => p.1 == id
theorem inB_mem {l : List (Nat × Blk)} {id : Nat} : inB l id = true ↔ ∃ p ∈ l, p.1 = id := by
  simp [inB, List.any_eq_true]

/-- What is asked of such a call's blocks, apart from its run. -/
def mhForm (c : MH) : Bool := c.ins.all (fun q => q.2.live && decide (q.1 < c.n)) && c.out.all (fun p => inB c.ins p.1 || (decide (c.n ≤ p.1) && (p.2.rw || !p.2.live)))

section
variable (P : Program)

/-- What such a call does. -/
def MHOk (c : MH) : Prop := ∀ (ρ : Env) (m : Emb) (w : World) (vs : Array Value), DV.RL m ρ c.args vs.toList → HeapR m ρ (T.ofList c.ins) w → (∀ id, c.n ≤ id → m.ι id = none) →
      Calls P c.f vs w fun e w' => ∃ v m' hp, e = .returned v ∧ c.d.R m' ρ v ∧ HeapR m' ρ hp w' ∧ Trans m (T.ofList c.ins) w m' hp w' ∧ (∀ id, c.n' ≤ id → m'.ι id = none) ∧ (∀ p ∈ c.out, hp.get p.1 = some p.2) ∧ (∀ q ∈ c.ins, inB c.out q.1 = false → hp.get q.1 = some q.2)

def mhRun (Γ : Facts → FuncId → Option CallD) (loops depth : Nat) (c : MH) : Bool := match runX P {} Γ loops depth c.f c.args (T.ofList c.ins) c.n with
  | some r => DV.eqv r.d c.d && (r.n == c.n' && (c.out.all (hasB r.h) && c.ins.all fun q => inB c.out q.1 || hasB r.h q))
  | none => false
variable {P}

theorem mh_of {Γ : Facts → FuncId → Option CallD} (hΓ : ∀ F : Facts, ΓOk P F (Γ F)) {loops depth : Nat} {c : MH} (h : mhRun P Γ loops depth c = true) : MHOk P c := by
  intro ρ m w vs hvs hH hf
  unfold mhRun at h
  split at h
  · rename_i r hr
    simp only [Bool.and_eq_true, beq_iff_eq, List.all_eq_true, Bool.or_eq_true] at h
    obtain ⟨h1, h2, h3, h4⟩ := h
    refine (runX_ok (F := {}) (fun F' _ => hΓ F') loops depth c.f c.args _ c.n r hr ρ ⟨by simp, by simp, by simp, trivial⟩ m w vs hvs hH hf).mono fun e w' ⟨v, m', he, hd, hH', hT, hn⟩ => ?_
    refine ⟨v, m', r.h, he, by rw [← DV.eqv_eq h1]; exact hd, hH', hT, by rw [← h2]; exact hn, fun p hp => hasB_get (h3 p hp), fun q hq ho => ?_⟩
    rcases h4 q hq with x | x
    · rw [ho] at x; cases x
    · exact hasB_get x
  · cases h

/-- What is known of other blocks stays known. -/
theorem mh_frame {c : MH} (hform : mhForm c = true) {ρ : Env} {m m' : Emb} {h hp : T Blk} {w w' : World} (hH : HeapR m ρ h w) (hins : ∀ q ∈ c.ins, h.get q.1 = some q.2) (_ : ∀ id, c.n ≤ id → m.ι id = none)
    (hR' : HeapR m' ρ hp w') (hT : Trans m (T.ofList c.ins) w m' hp w') (hout : ∀ p ∈ c.out, hp.get p.1 = some p.2) (hun : ∀ q ∈ c.ins, inB c.out q.1 = false → hp.get q.1 = some q.2) :
    HeapR m' ρ (puts c.out h) w' ∧ Trans m h w m' (puts c.out h) w' := by
  simp only [mhForm, Bool.and_eq_true, List.all_eq_true, decide_eq_true_eq, Bool.or_eq_true] at hform
  obtain ⟨hin, hof⟩ := hform
  -- a block of the new memory is one that the call saw or made, or an old one that it did not see
  have cls : ∀ id B, (puts c.out h).get id = some B → (hp.get id = some B ∧ (inB c.ins id = true ∨ (inB c.ins id = false ∧ c.n ≤ id ∧ (B.rw = true ∨ B.live = false)))) ∨ (inB c.ins id = false ∧ h.get id = some B) := by
    intro id B hB
    rcases puts_get hB with h1 | ⟨h1, h2⟩
    · refine .inl ⟨hout _ h1, ?_⟩
      cases hi : inB c.ins id with
      | true => exact .inl rfl
      | false =>
        rcases hof _ h1 with x | x
        · rw [hi] at x; cases x
        · exact .inr ⟨rfl, x.1, by simpa using x.2⟩
    · cases hi : inB c.ins id with
      | false => exact .inr ⟨rfl, h2⟩
      | true =>
        obtain ⟨q, hq, rfl⟩ := inB_mem.1 hi
        have ho : inB c.out q.1 = false := by
          cases ho : inB c.out q.1 with
          | false => rfl
          | true => obtain ⟨p, hp', e⟩ := inB_mem.1 ho; exact absurd e (h1 p hp')
        rw [hins q hq] at h2
        cases h2
        exact .inl ⟨hun q hq ho, .inl rfl⟩
  have hfpI : ∀ b, Fp m (T.ofList c.ins) b → ∃ id B, inB c.ins id = true ∧ h.get id = some B ∧ B.rw = true ∧ m.ι id = some b := by
    rintro b ⟨id, B, hB, hrw, hb⟩
    have hm := ofList_mem hB
    exact ⟨id, B, inB_mem.2 ⟨_, hm, rfl⟩, hins _ hm, hrw, hb⟩
  have hold : ∀ id B b, inB c.ins id = false → h.get id = some B → B.live = true → m.ι id = some b → ¬ Fp m (T.ofList c.ins) b := by
    intro id B b hm hB hl hb hf
    obtain ⟨id', B', hm', hB', hrw', hb'⟩ := hfpI b hf
    have := hH.inj id' id B' B b hB' hB hrw' hl hb' hb
    subst this
    rw [hm] at hm'; cases hm'
  have old : ∀ id B, h.get id = some B → B.live = true → ∃ b o, m.ι id = some b ∧ m'.ι id = some b ∧ m'.κ id = m.κ id ∧ w.heap[b]? = some o ∧ B.R m ρ (m.κ id) o := by
    intro id B hB hl
    obtain ⟨b, o, h1, h2, h3⟩ := hH.blk id B hB hl
    obtain ⟨g1, g2⟩ := hT.ext id b h1
    exact ⟨b, o, h1, g1, g2, h2, h3⟩
  refine ⟨⟨fun id B hB hl => ?_, fun id id' B B' b hB hB' hrw hl hb hb' => ?_⟩, ⟨hT.ext, hT.size, fun b hb hnf => hT.frame b hb fun hf => ?_, fun b ⟨id, B, hB, hrw, hb⟩ => ?_, hT.tape, hT.os, hT.output⟩⟩
  · rcases cls id B hB with ⟨h1, _⟩ | ⟨hi, h1⟩
    · exact hR'.blk id B h1 hl
    · obtain ⟨b, o, g0, g1, g2, g3, g4⟩ := old id B h1 hl
      refine ⟨b, o, g1, ?_, by rw [g2]; exact g4.mono hT.ext⟩
      rw [hT.frame b (Array.getElem?_eq_some_iff.1 g3).1 (hold id B b hi h1 hl g0)]; exact g3
  · rcases cls id B hB with ⟨h1, k1⟩ | ⟨hi, h1⟩
    · rcases cls id' B' hB' with ⟨h1', k1'⟩ | ⟨hi', h1'⟩
      · exact hR'.inj id id' B B' b h1 h1' hrw hl hb hb'
      · exfalso
        obtain ⟨b2, o, g0, g1, g2, g3, _⟩ := old id' B' h1' hl
        rw [hb'] at g1
        cases g1
        rcases hT.fp b ⟨id, B, h1, hrw, hb⟩ with x | x
        · exact hold id' B' b hi' h1' hl g0 x
        · have := (Array.getElem?_eq_some_iff.1 g3).1; omega
    · obtain ⟨b2, o, g0, g1, g2, g3, _⟩ := old id B h1 (Blk.live_of_rw hrw)
      rw [hb] at g1
      cases g1
      have hlt := (Array.getElem?_eq_some_iff.1 g3).1
      rcases cls id' B' hB' with ⟨h1', k1'⟩ | ⟨hi', h1'⟩
      · rcases k1' with k | ⟨_, k2, k3⟩
        · obtain ⟨q, hq, rfl⟩ := inB_mem.1 k
          obtain ⟨b3, o3, g0', g1', _⟩ := old q.1 q.2 (hins q hq) (hin q hq).1
          rw [hb'] at g1'
          cases g1'
          exact hH.inj id q.1 B q.2 b h1 (hins q hq) hrw (hin q hq).1 g0 g0'
        · exfalso
          rcases k3 with k3 | k3
          · rcases hT.fp b ⟨id', B', h1', k3, hb'⟩ with x | x
            · exact hold id B b hi h1 (Blk.live_of_rw hrw) g0 x
            · omega
          · rw [k3] at hl; cases hl
      · obtain ⟨b3, o3, g0', g1', _⟩ := old id' B' h1' hl
        rw [hb'] at g1'
        cases g1'
        exact hH.inj id id' B B' b h1 h1' hrw hl g0 g0'
  · obtain ⟨id, B, _, hB, hrw, hb'⟩ := hfpI b hf
    exact hnf ⟨id, B, hB, hrw, hb'⟩
  · rcases cls id B hB with ⟨h1, _⟩ | ⟨hi, h1⟩
    · rcases hT.fp b ⟨id, B, h1, hrw, hb⟩ with x | x
      · obtain ⟨id2, B2, _, hB2, hrw2, hb2⟩ := hfpI b x
        exact .inl ⟨id2, B2, hB2, hrw2, hb2⟩
      · exact .inr x
    · obtain ⟨b2, o, g0, g1, _⟩ := old id B h1 (Blk.live_of_rw hrw)
      rw [hb] at g1
      cases g1
      exact .inl ⟨id, B, h1, hrw, g0⟩

/-- The told calls of the function g. -/
def mhC (g : FuncId) : List MH → CallD
  | [], _, _, _, _ => none
  | c :: r, k, xs, h, n => if c.f == g && (n == c.n && DV.eqvL xs c.args) then (if c.ins.all (hasB h) then some ⟨c.d, puts c.out h, c.n'⟩ else none) else mhC g r k xs h n

theorem mhC_ok {F : Facts} {f : FuncId} : ∀ {l : List MH}, (∀ c ∈ l, mhForm c = true ∧ MHOk P c) → CallCOk P F f (mhC f l)
  | [], _, xs, h, n, x, hx, _, _, _, _, _, _, _, _ => by simp [mhC] at hx
  | c :: r, hl, xs, h, n, x, hx, ρ, hF, m, w, vs, hvs, hH, hf => by
    simp only [mhC] at hx
    split at hx
    · rename_i hc
      simp only [Bool.and_eq_true, beq_iff_eq] at hc
      obtain ⟨rfl, hn, he⟩ := hc
      split at hx
      · rename_i hg
        cases hx
        subst hn
        rw [DV.eqvL_eq he] at hvs
        have hins : ∀ q ∈ c.ins, h.get q.1 = some q.2 := fun q hq => hasB_get ((List.all_eq_true.1 hg) q hq)
        have hform := (hl c (List.mem_cons_self ..)).1
        have hsub : HeapR m ρ (T.ofList c.ins) w := ⟨fun id B hB hl => hH.blk id B (hins _ (ofList_mem hB)) hl, fun id id' B B' b hB hB' hrw hl hb hb' => hH.inj id id' B B' b (hins _ (ofList_mem hB)) (hins _ (ofList_mem hB')) hrw hl hb hb'⟩
        refine ((hl c (List.mem_cons_self ..)).2 ρ m w vs hvs hsub hf).mono fun e w' ⟨v, m', hp, he, hd, hR', hT, hn, ho, hu⟩ => ?_
        obtain ⟨g1, g2⟩ := mh_frame hform hH hins hf hR' hT ho hu
        exact ⟨v, m', he, hd, g1, g2, hn⟩
      · cases hx
    · exact mhC_ok (fun c hm => hl c (List.mem_cons_of_mem _ hm)) xs h n x hx ρ hF m w vs hvs hH hf
end
end Go.Eng
