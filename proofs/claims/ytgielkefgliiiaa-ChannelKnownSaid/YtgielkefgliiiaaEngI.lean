/-
  What is built; one operation.
-/
import Derived.Test.YtgielkefgliiiaaEngH
import Derived.Great.BuildSlice
namespace Go.Eng

section
variable (P : Program) (F : Facts)

def fillD (place : Nat → Option (Nat × Nat)) : List DV → List (Nat × DV) → Option (List DV)
  | cells, [] => some cells
  | cells, (i, v) :: rest => match place i with
    | none => none
    | some (off, size) => if v.cells.length ≠ size ∨ off + v.cells.length > cells.length then none else fillD place (setL cells off v.cells) rest

def zeroD (t : TypeId) : Option DV :=
  match P.info? t with
  | some i => match i.zero with
    | some z => DV.ofV 8 z
    | none => none
  | none => none

def buildD (t : TypeId) (parts : List (Nat × DV)) : Option DV :=
  match zeroD P t, P.underlying t with
  | some z, some (.array _ e) => match P.info? e with
    | some ie => (fillD (fun i => some (i * ie.size, ie.size)) z.cells parts).map .agg
    | none => none
  | some z, some (.struct fields) => match fields.toList.mapM (fun f => (P.info? f.type).map fun i => (f.offset, i.size)) with
    | some places => (fillD (places.toArray[·]?) z.cells parts).map .agg
    | none => none
  | _, _ => none

def rowD (n : Nat) (z : List DV) : List DV := (List.range n).map fun i => z.getD (i % z.length) .nilp

variable {P} {F}

theorem sets_get (off : Nat) : ∀ (vs : List Value) (k : Nat) (arr : Array Value) (i : Nat), off + k + vs.length ≤ arr.size →
    ((vs.zipIdx k).foldl (fun cs (c, j) => cs.setIfInBounds (off + j) c) arr)[i]? = if i < off + k then arr[i]? else if i < off + k + vs.length then vs[i - (off + k)]? else arr[i]?
  | [], k, arr, i, _ => by simp; omega
  | v :: r, k, arr, i, h => by
    simp only [List.zipIdx_cons, List.foldl_cons, List.length_cons] at h ⊢
    rw [sets_get off r (k + 1) _ i (by simp; omega)]
    by_cases h1 : i < off + k
    · rw [if_pos (by omega), if_pos h1, Array.getElem?_setIfInBounds_ne (by omega)]
    · rw [if_neg h1]
      by_cases h2 : i = off + k
      · subst h2
        rw [if_pos (by omega), if_pos (by omega)]
        simp [Array.getElem?_setIfInBounds]; omega
      · rw [if_neg (by omega)]
        by_cases h3 : i < off + k + (r.length + 1)
        · rw [if_pos (by omega), if_pos h3]
          rw [show i - (off + k) = (i - (off + (k + 1))) + 1 by omega, List.getElem?_cons_succ]
        · rw [if_neg (by omega), if_neg h3, Array.getElem?_setIfInBounds_ne (by omega)]

theorem sets_size (off : Nat) : ∀ (vs : List Value) (k : Nat) (arr : Array Value), ((vs.zipIdx k).foldl (fun cs (c, j) => cs.setIfInBounds (off + j) c) arr).size = arr.size
  | [], k, arr => rfl
  | v :: r, k, arr => by
    simp only [List.zipIdx_cons, List.foldl_cons]
    rw [sets_size off r (k + 1)]; simp

theorem fillD_R {m : Emb} {ρ : Env} {place : Nat → Option (Nat × Nat)} : ∀ {parts : List (Nat × DV)} {cells : List DV} {ds : List DV} {vs : Array Value} {vparts : List (Nat × Value)},
    fillD place cells parts = some ds → DV.RL m ρ cells vs.toList → vparts.length = parts.length → (∀ (k i : Nat) (d : DV), parts[k]? = some (i, d) → ∃ v, vparts[k]? = some (i, v) ∧ d.R m ρ v) →
    ∃ us, Instr.fill place vs vparts = some us ∧ DV.RL m ρ ds us.toList
  | [], cells, ds, vs, vparts, h, hc, hl, _ => by
    simp [fillD] at h; subst h
    have : vparts = [] := by simpa using hl
    subst this
    exact ⟨vs, by simp [Instr.fill], hc⟩
  | (i, d) :: rest, cells, ds, vs, vparts, h, hc, hl, hp => by
    simp only [fillD] at h
    obtain ⟨v, hv, hr⟩ := hp 0 i d rfl
    match vparts, hl with
    | (i', v') :: vrest, hl =>
      simp at hv
      obtain ⟨rfl, rfl⟩ := hv
      split at h
      · cases h
      · rename_i off size hpl
        split at h
        · cases h
        · rename_i hcond
          simp only [not_or, ne_eq, Classical.not_not, Nat.not_lt, gt_iff_lt] at hcond
          obtain ⟨h1, h2⟩ := hcond
          have hcs := hr.cells
          have hlen := hcs.length
          simp at hlen
          have hcl := hc.length
          simp at hcl
          have hc' : DV.RL m ρ (setL cells off d.cells) (v'.cells.zipIdx.foldl (fun cs (c, j) => cs.setIfInBounds (off + j) c) vs).toList := by
            rw [← Array.foldl_toList, Array.toList_zipIdx]
            refine DV.RL.of_get ?_ ?_
            · have := sets_size off v'.cells.toList 0 vs
              simp only [Array.length_toList, this]
              unfold setL; simp; omega
            · intro j d' hd'
              rw [setL_get h2] at hd'
              have hg := sets_get off v'.cells.toList 0 vs j (by simp; omega)
              simp only [Nat.add_zero, Array.length_toList, hlen] at hg
              simp only [Array.getElem?_toList, hg]
              split at hd'
              · rename_i hj; rw [if_pos hj]
                obtain ⟨u, hu, hur⟩ := hc.get hd'
                exact ⟨u, by simpa using hu, hur⟩
              · rename_i hj; rw [if_neg hj]
                split at hd'
                · rename_i hj'; rw [if_pos hj']
                  obtain ⟨u, hu, hur⟩ := hcs.get hd'
                  exact ⟨u, by simpa using hu, hur⟩
                · rename_i hj'; rw [if_neg hj']
                  obtain ⟨u, hu, hur⟩ := hc.get hd'
                  exact ⟨u, by simpa using hu, hur⟩
          obtain ⟨us, hus, hru⟩ := fillD_R h hc' (by simpa using hl) (fun k i d hk => by simpa using hp (k + 1) i d (by simpa using hk))
          refine ⟨us, ?_, hru⟩
          simp only [Instr.fill, hpl]
          rw [if_neg]
          · exact hus
          · simp; omega

theorem zeroD_R {t : TypeId} {d : DV} (h : zeroD P t = some d) (m : Emb) (ρ : Env) : ∃ i z, P.info? t = some i ∧ i.zero = some z ∧ d.R m ρ z := by
  unfold zeroD at h
  split at h
  · rename_i i hi
    split at h
    · rename_i z hz; exact ⟨i, z, hi, hz, DV.ofV_R m ρ _ h⟩
    · cases h
  · cases h

theorem buildD_sound {m : Emb} {ρ : Env} {t : TypeId} {parts : List (Nat × DV)} {d : DV} (h : buildD P t parts = some d) {vparts : Array (Nat × Value)} (hl : vparts.size = parts.length)
    (hp : ∀ (k i : Nat) (d : DV), parts[k]? = some (i, d) → ∃ v, vparts[k]? = some (i, v) ∧ d.R m ρ v) (w : World) : ∃ v, (Instr.build t vparts).run P w = .ok v w ∧ d.R m ρ v := by
  unfold buildD at h
  split at h
  · rename_i z e hz hu
    obtain ⟨i, zv, hi, hzv, hr⟩ := zeroD_R hz m ρ
    rename_i n
    split at h
    · rename_i ie hie
      simp only [Option.map_eq_some_iff] at h
      obtain ⟨ds, hds, rfl⟩ := h
      obtain ⟨us, hus, hru⟩ := fillD_R hds hr.cells (vparts := vparts.toList) (by simpa using hl) (fun k i d hk => by simpa using hp k i d hk)
      refine ⟨.agg us, run_build w t vparts us ?_, ?_⟩
      · unfold Program.built; simp only [hi, hu, hzv, hie]; exact hus
      · simp only [DV.R]; exact ⟨us, rfl, hru⟩
    · cases h
  · rename_i z fields hz hu
    obtain ⟨i, zv, hi, hzv, hr⟩ := zeroD_R hz m ρ
    split at h
    · rename_i places hpl
      simp only [Option.map_eq_some_iff] at h
      obtain ⟨ds, hds, rfl⟩ := h
      obtain ⟨us, hus, hru⟩ := fillD_R hds hr.cells (vparts := vparts.toList) (by simpa using hl) (fun k i d hk => by simpa using hp k i d hk)
      refine ⟨.agg us, run_build w t vparts us ?_, ?_⟩
      · unfold Program.built; simp only [hi, hu, hzv, hpl]; exact hus
      · simp only [DV.R]; exact ⟨us, rfl, hru⟩
    · cases h
  · cases h

theorem rowD_R {m : Emb} {ρ : Env} {z : List DV} {zv : Array Value} (h : DV.RL m ρ z zv.toList) (hz : z ≠ []) (n : Nat) : DV.RL m ρ (rowD n z) ((Array.range n).map (zv[· % zv.size]!)).toList := by
  have hlen := h.length
  simp at hlen
  have hpos : 0 < z.length := List.length_pos_iff.2 hz
  refine DV.RL.of_get (by simp [rowD]) (fun j d hd => ?_)
  simp only [rowD, List.getElem?_map, Option.map_eq_some_iff] at hd
  obtain ⟨j', hj', rfl⟩ := hd
  obtain ⟨hlt, rfl⟩ := range_get hj'
  have hm : j % z.length < z.length := Nat.mod_lt _ hpos
  obtain ⟨v, hv, hr⟩ := h.get (i := j % z.length) (d := z[j % z.length]) (by simp [hm])
  refine ⟨v, ?_, by simpa [List.getD_eq_getElem?_getD, hm] using hr⟩
  have hv' : zv[j % zv.size]? = some v := by rw [hlen]; simpa using hv
  simp [hlt, getElem!_def, hv']
end

section
variable (P : Program) (F : Facts)

structure Out where
  d : DV
  h : T Blk
  n : Nat

def opd (t : T DV) : Operand → Option DV
  | .tmp i => t.get i
  | .const v => DV.ofV 8 v
  | .global g => some (.gptr g 0)
  | .func f => some (.fn (.func f) [] [])

def isC : Operand → Bool
  | .const _ => true
  | _ => false

/-- Is the one not below the other? -/
def notLt (h l : E) : Bool := (E.bi .lt h l).dec F == some false || (match h with
  | .bi .add x (.li c) => (decide (0 ≤ c) && x.same l) || (match l with
    | .bi .add y (.li d) => decide (d ≤ c) && x.same y
    | _ => false)
  | _ => false)

/-- The bounds of a slice expression: low, high; 'none' where they are not decided. -/
def bndsD (lo hi : Option DV) (len cap : E) : Option (E × E) :=
  match (match hi with | none => some len | some (.int _ h) => if (E.bi .lt h (.li 0)).dec F = some false ∧ (E.bi .lt cap h).dec F = some false then some h else none | _ => none) with
  | none => none
  | some h => match lo with
    | none => some (.li 0, h)
    | some (.int _ l) => if (E.bi .lt l (.li 0)).dec F = some false ∧ notLt F h l = true then some (l, h) else none
    | _ => none

def idxOk (e n : E) : Bool := (E.bi .lt e (.li 0)).dec F == some false && (E.bi .lt e n).dec F == some true

/-- An operation that makes one value, and changes no block. -/
def valA (h : T Blk) (t : T DV) : Op → Option DV
  | .move x | .assign x => opd t x
  | .pick c a b => match opd t c with
    | some (.bool e) => match e.dec F with
      | some true => opd t a
      | some false => opd t b
      | none => match opd t a, opd t b with
        | some x, some y => iteDV F e x y
        | _, _ => none
    | _ => none
  | .build ty parts => match parts.toList.mapM (fun p => (opd t p.2).map fun d => (p.1, d)) with
    | some ds => buildD P ty ds
    | none => none
  | .load ty a => match opd t a with
    | some d => loadD P F h ty d
    | none => none
  | .nilCheck x => match opd t x with
    | some (.ptr id o) => some (.ptr id o)
    | some (.gptr g o) => some (.gptr g o)
    | some (.fn (.func f) a b) => some (.fn (.func f) a b)
    | _ => none
  | .binOp op ty x y _ => match opd t x, opd t y with
    | some a, some b => binD P F op ty (isC x || isC y) a b
    | _, _ => none
  | .unOp op _ x => match opd t x with
    | some a => unD F op a
    | none => none
  | .convert src dst x => match P.underlying src, P.underlying dst, opd t x with
    | some _, some (.int k), some (.int _ e) => some (.int k (rwE F (wrapI F k e)))
    | some .string, some .string, some (.str e) => some (.str e)
    | _, _, _ => none
  | .fieldAddr s x f => match P.underlying s, opd t x with
    | some (.struct fs), some (.ptr id o) => match fs[f]? with
      | some fd => match P.info? fd.type with
        | some i => if i.size = 0 then none else some (.ptr id (o.add fd.offset))
        | none => none
      | none => none
    | _, _ => none
  | .field s x f => match P.underlying s, opd t x with
    | some (.struct fs), some (.agg l) => match fs[f]? with
      | some fd => partD P fd.type l fd.offset
      | none => none
    | _, _ => none
  | .indexAddr ty x ix => match P.underlying ty, opd t x, opd t ix with
    | some (.array len el), some (.ptr id o), some (.int _ e) => match P.info? el with
      | some i => if idxOk F e (.li len) then some (.ptr id (o.addE e i.size)) else none
      | none => none
    | some (.slice el), some (.slc id o len _), some (.int _ e) => match P.info? el with
      | some i => if idxOk F e len then some (.ptr id (o.addE e i.size)) else none
      | none => none
    | _, _, _ => none
  | .index ty x ix => match P.underlying ty, opd t x, opd t ix with
    | some (.array len el), some (.agg l), some (.int _ (.li n)) => match P.info? el with
      | some i => if 0 ≤ n ∧ n < len then partD P el l (n.toNat * i.size) else none
      | none => none
    | some .string, some (.str s), some (.int _ e) => if idxOk F e (lenS s) then some (.int .u8 (rwE F (atS s e))) else none
    | _, _, _ => none
  | .extract x i => match opd t x with
    | some (.tup l) => l[i]?
    | _ => none
  | .makeInterface ty x => match P.underlying ty, opd t x with
    | some (.interface _), _ => none
    | some _, some d => some (.ifc ty d)
    | _, _ => none
  | .makeFunc fn first cap => match first.toList.mapM (opd t), cap.toList.mapM (opd t) with
    | some a, some b => some (.fn fn a b)
    | _, _ => none
  | .slice ty x lo hi none => match P.underlying ty, opd t x with
    | some .string, some (.str s) =>
      match (match lo with | none => some none | some a => (opd t a).map some), (match hi with | none => some none | some a => (opd t a).map some) with
      | some l, some h => match bndsD F l h (lenS s) (lenS s) with
        | some (a, b) => some (.str (rwE F (subS s a b)))
        | none => none
      | _, _ => none
    | _, _ => none
  | .call c => match c.callee, c.args.toList.mapM (opd t) with
    | .builtin .len, some [d] => match c.argTypes[0]? with
      | some ty => match P.underlying ty, d with
        | some .string, .str s => some (.int .i64 (lenS s))
        | some (.slice _), .slc _ _ n _ => some (.int .i64 n)
        | some (.slice _), .nils => some (.int .i64 (.li 0))
        | some (.slice _), .mt => some (.int .i64 (.li 0))
        | some (.array n _), _ => some (.int .i64 (.li n))
        | some (.map _ _), .nilm => some (.int .i64 (.li 0))
        | _, _ => none
      | none => none
    | .builtin .max, some [.int k a, .int _ b] => some (.int k (rwE F (iteE F (boolE F (.bi .lt a b)) b a)))
    | .builtin .min, some [.int k a, .int _ b] => some (.int k (rwE F (iteE F (boolE F (.bi .lt b a)) b a)))
    | _, _ => none
  | _ => none

end

end Go.Eng
