/-
  More operations that make one value and change no block: slices of slices and of arrays, strings of bytes, capacities.
-/
import Derived.Test.YtcebboibpbbgdaaGreatDoorEngG2
import Derived.Laws.BytesArg
import Derived.Deep.AppendSrc
namespace Go.Eng

section
variable (P : Program) (F : Facts)

def Cap.skip (c : Cap) (a : E) : Option Cap := match c with
  | .ex c => some (.ex (subI c a))
  | .own k => if (E.bi .lt k (.li 0)).dec F = some false then some (.own (addI k a)) else none

theorem litI?_eq {e : E} {n : Int} (h : litI? e = some n) : e = .li n := by cases e <;> simp_all [litI?]

/-- A number of which the range is one number. -/
def snapE (e : E) : E := match litI? e with
  | some _ => e
  | none => match e.rng F with
    | (some x, some y) => if x = y then .li x else e
    | _ => e

/-- A slice of a slice whose elements take so many cells. -/
def sliceD (size : Nat) (d : DV) (lo hi : Option DV) : Option DV :=
  match d with
  | .slc id o len cap => match bndsD F lo hi len (match cap with | .ex c => c | .own _ => len) with
    | some (a, b) =>
      if litI? a = some 0 then some (.slc id o (snapE F b) cap)
      else match (E.bi .lt a b).dec F with
        | some true => (Cap.skip F cap a).map fun c => .slc id (o.addE a size) (snapE F (subI b a)) c
        | some false => some .mt
        | none => none
    | none => none
  | .nils => (bndsD F lo hi (.li 0) (.li 0)).map fun _ => .nils
  | .mt => (bndsD F lo hi (.li 0) (.li 0)).map fun _ => .mt
  | _ => none

/-- A slice of a slice that tells its capacity, the bounds told. -/
def slice3D (size : Nat) (d : DV) (lo : Option DV) (hi mx : DV) : Option DV :=
  match (match lo with | none => some 0 | some (.int _ (.li a)) => some a | _ => none), hi, mx with
  | some a, .int _ (.li b), .int _ (.li m) => if 0 ≤ a ∧ a ≤ b ∧ b ≤ m then (match d with
    | .nils => if m = 0 then some .nils else none
    | .slc id o len _ => if (E.bi .lt len (.li m)).dec F = some false then some (if m = a then .slc id o (.li 0) (.ex (.li 0)) else .slc id (o.add (a.toNat * size)) (.li (b - a)) (.ex (.li (m - a)))) else none
    | _ => none) else none
  | _, _, _ => none

def optD (t : T DV) : Option Operand → Option (Option DV)
  | none => some none
  | some a => (opd t a).map some

/-- The string of cells that are bytes. -/
def litsOf : List DV → Option (List Int)
  | [] => some []
  | .int .u8 (.li n) :: r => (litsOf r).map (n :: ·)
  | _ => none

def bytesE : List DV → Option E
  | [] => some (.ls ByteArray.empty)
  | .int .u8 e :: r => (bytesE r).map (catS (chrS e))
  | _ => none

def strE (l : List DV) : Option E := match litsOf l with
  | some ns => some (.ls (strOfNums ns))
  | none => bytesE l

def bytesD (h : T Blk) (d : DV) : Option E := match d with
  | .nils | .mt => some (.ls ByteArray.empty)
  | .slc id o (.li n) _ => match o.terms, h.get id with
    | [], some (.cells l _ _) => if 0 ≤ n ∧ o.base + n.toNat ≤ l.length then strE ((l.drop o.base).take n.toNat) else none
    | _, _ => none
  | _ => none

/-- A variable of the package of which the content is known. -/
def gpD (h : T Blk) : DV → Option DV
  | .gptr g o => match h.get g with
    | some (.cells _ _ (.gl g')) => if g' = g then some (.ptr g ⟨o, []⟩) else none
    | _ => none
  | _ => none

/-- The function behind a method of a dynamic type, where it takes the value as it is. -/
def methodD (t : TypeId) (name : String) : Option FuncId := match P.info? t with
  | some i => match i.methods.find? (fun m => m.name == name) with
    | some m => if m.path.toList.isEmpty then (match m.func, P.underlying t with
      | some (f, true), some (.pointer _) => some f
      | some (_, false), some (.pointer _) => none
      | some (f, false), some _ => some f
      | _, _ => none) else none
    | none => none
  | none => none

def valB (h : T Blk) (t : T DV) : Op → Option DV
  | .load ty x => match (opd t x).bind (gpD h) with
    | some d => loadD P F h ty d
    | none => none
  | .nilCheck x => match opd t x with
    | some (.ifc ty d) => some (.ifc ty d)
    | some (.fn (.method name) (.ifc ty d :: r) cap) => if (methodD P ty name).isSome then some (.fn (.method name) (.ifc ty d :: r) cap) else none
    | _ => none
  | .fieldAddr s x f => match P.underlying s, (opd t x).bind (gpD h) with
    | some (.struct fs), some (.ptr id o) => match fs[f]? with
      | some fd => match P.info? fd.type with
        | some i => if i.size = 0 then none else some (.ptr id (o.add fd.offset))
        | none => none
      | none => none
    | _, _ => none
  | .indexAddr ty x ix => match P.underlying ty, (opd t x).bind (gpD h), opd t ix with
    | some (.array len el), some (.ptr id o), some (.int _ e) => match P.info? el with
      | some i => if idxOk F e (.li len) then some (.ptr id (o.addE e i.size)) else none
      | none => none
    | _, _, _ => none
  | .slice ty x lo hi none => match P.underlying ty, opd t x, optD t lo, optD t hi with
    | some (.slice el), some d, some l, some h => match P.info? el with
      | some i => sliceD F i.size d l h
      | none => none
    | some (.array n el), some (.ptr id o), some l, some h => match P.info? el with
      | some i => sliceD F i.size (.slc id o (.li n) (.ex (.li n))) l h
      | none => none
    | _, _, _, _ => none
  | .slice ty x lo (some hi) (some mx) => match P.underlying ty, opd t x, optD t lo, opd t hi, opd t mx with
    | some (.slice el), some d, some l, some h, some m => match P.info? el with
      | some i => slice3D F i.size d l h m
      | none => none
    | _, _, _, _, _ => none
  | .convert src dst x => match P.underlying src, P.underlying dst, opd t x with
    | some (.slice e), some .string, some d => match P.underlying e with
      | some (.int .u8) => (bytesD h d).map .str
      | _ => none
    | _, _, _ => none
  | .call c => match c.callee, c.args.toList.mapM (opd t) with
    | .builtin .cap, some [d] => match c.argTypes[0]? with
      | some ty => match P.underlying ty, d with
        | some (.slice _), .slc _ _ _ (.ex (.li n)) => if 0 ≤ n then some (.int .i64 (.li n)) else none
        | some (.slice _), .nils => some (.int .i64 (.li 0))
        | _, _ => none
      | none => none
    | _, _ => none
  | _ => none

def valAB (h : T Blk) (t : T DV) (op : Op) : Option DV := match valA P F h t op with
  | some d => some d
  | none => valB P F h t op

variable {P} {F}

theorem optD_R {m : Emb} {ρ : Env} {t : T DV} {a : Act} (ht : TmpR m ρ t a) {x : Option Operand} {d : Option DV} (h : optD t x = some d) :
    (∀ d', d = some d' → ∃ v, x.map a.eval = some v ∧ d'.R m ρ v) ∧ (d = none → x.map a.eval = none) := by
  cases x with
  | none => simp [optD] at h; subst h; exact ⟨(fun d h => by cases h), fun _ => rfl⟩
  | some x =>
    simp only [optD, Option.map_eq_some_iff] at h
    obtain ⟨d', hd', rfl⟩ := h
    exact ⟨(fun d h => by cases h; exact ⟨_, rfl, opd_R ht hd'⟩), (fun h => by cases h)⟩

theorem snapE_int {ρ : Env} (hF : F.ok ρ) (e : E) : ((snapE F e).ev ρ).int = (e.ev ρ).int := by
  unfold snapE
  split
  · rfl
  · split
    · rename_i x y hr
      split
      · rename_i hxy
        subst hxy
        have h := E.rng_has hF e
        rw [hr] at h
        have h1 := h.1 x rfl
        have h2 := h.2 x rfl
        simp only [E.ev, Sc.int_I]; omega
      · rfl
    · rfl

theorem slice3D_sound {m : Emb} {ρ : Env} (hF : F.ok ρ) {size : Nat} {d r : DV} {lo : Option DV} {hi mx : DV} (h : slice3D F size d lo hi mx = some r) {vd : Value} (hd : d.R m ρ vd) {vlo : Option Value} {vhi vmx : Value}
    (hlo : (∀ d', lo = some d' → ∃ v, vlo = some v ∧ d'.R m ρ v) ∧ (lo = none → vlo = none)) (hhi : hi.R m ρ vhi) (hmx : mx.R m ρ vmx) (w : World) :
    ∃ a n c l hh mm, vd = .slice a n c ∧ (Instr.sliceBounds true n c vlo (some vhi) (some vmx)).run P w = .ok (l, hh, mm) w ∧ r.R m ρ (.slice (if mm = l then a else a.map (·.add (l * size))) (hh - l) (mm - l)) := by
  unfold slice3D at h
  split at h
  · rename_i a k1 b k2 mm hla
    split at h
    · rename_i hc
      obtain ⟨h0, h1, h2⟩ := hc
      simp only [DV.R, E.ev, Sc.int_I] at hhi hmx
      subst hhi; subst hmx
      have hrun : ∀ (n c : Nat), mm ≤ (c : Int) → (Instr.sliceBounds true n c vlo (some (.int k1 b)) (some (.int k2 mm))).run P w = .ok (a.toNat, b.toNat, mm.toNat) w := by
        intro n c hcm
        have e1 : (0 ≤ mm ∧ mm ≤ (c : Int)) := ⟨by omega, hcm⟩
        have e2 : (0 ≤ b ∧ b ≤ (mm.toNat : Int)) := ⟨by omega, by omega⟩
        have e3 : (0 ≤ a ∧ a ≤ (b.toNat : Int)) := ⟨h0, by omega⟩
        split at hla
        · cases hla
          rw [hlo.2 rfl]
          simp only [Instr.sliceBounds, Instr.sliceBound, asIntOf, Sem.run_bind, Sem.run_pure, Result.andThen_ok, if_pos e1, if_pos e2]
          rfl
        · rename_i k a'
          cases hla
          obtain ⟨v, hv, hr⟩ := hlo.1 _ rfl
          simp only [DV.R, E.ev, Sc.int_I] at hr
          subst hr
          rw [hv]
          simp only [Instr.sliceBounds, Instr.sliceBound, asIntOf, Sem.run_bind, Sem.run_pure, Result.andThen_ok, if_pos e1, if_pos e2, if_pos e3]
        · cases hla
      split at h
      · split at h
        · rename_i hm
          cases h
          simp only [DV.R] at hd
          subst hd
          refine ⟨none, 0, 0, _, _, _, rfl, hrun 0 0 (by omega), ?_⟩
          have e1 : b.toNat - a.toNat = 0 := by omega
          have e2 : mm.toNat - a.toNat = 0 := by omega
          simp [DV.R, e1, e2]
        · cases h
      · rename_i id o len cap
        split at h
        · rename_i hle
          cases h
          simp only [DV.R] at hd
          obtain ⟨bk, hb, rfl, hl0, hcap⟩ := hd
          have hle' : ¬ (len.ev ρ).int < mm := of_decide_eq_false (E.dec_sound hF hle)
          refine ⟨_, _, _, _, _, _, rfl, hrun _ _ (by omega), ?_⟩
          split
          · rename_i e
            subst e
            have e1 : b.toNat - mm.toNat = 0 := by omega
            simp only [DV.R, E.ev, Sc.int_I, Cap.den]
            exact ⟨bk, hb, by simp [e1], by omega, by omega⟩
          · rename_i hne
            have hne' : ¬ mm.toNat = a.toNat := by omega
            simp only [DV.R, E.ev, Sc.int_I, Cap.den, if_neg hne']
            refine ⟨bk, hb, ?_, by omega, by omega⟩
            simp only [Option.map_some, add_none, Off.den_add]
            congr 1 <;> omega
        · cases h
      · cases h
    · cases h
  · cases h

theorem sliceD_sound {m : Emb} {ρ : Env} (hF : F.ok ρ) {size : Nat} {d r : DV} {lo hi : Option DV} (h : sliceD F size d lo hi = some r) {vd : Value} (hd : d.R m ρ vd) {vlo vhi : Option Value}
    (hlo : (∀ d', lo = some d' → ∃ v, vlo = some v ∧ d'.R m ρ v) ∧ (lo = none → vlo = none)) (hhi : (∀ d', hi = some d' → ∃ v, vhi = some v ∧ d'.R m ρ v) ∧ (hi = none → vhi = none)) (sl : Bool) (w : World) :
    ∃ a n c l hh mm, vd = .slice a n c ∧ (Instr.sliceBounds sl n c vlo vhi none).run P w = .ok (l, hh, mm) w ∧ r.R m ρ (.slice (if mm = l then a else a.map (·.add (l * size))) (hh - l) (mm - l)) := by
  unfold sliceD at h
  split at h
  · rename_i id o len cap
    simp only [DV.R] at hd
    obtain ⟨b, hb, rfl, h0, hcap⟩ := hd
    split at h
    · rename_i ea eb hbn
      have hc : ((match cap with | .ex c => c | .own _ => len).ev ρ).int ≤ (cap.den m ρ id : Int) := by
        cases cap with
        | ex c => simp only [Cap.den]; omega
        | own k => simp only; omega
      obtain ⟨hrun, ha0, hb0, hab, hal, hbl, hbc⟩ := bndsD_spec (P := P) hF hbn hlo.1 hlo.2 hhi.1 hhi.2 (len.ev ρ).int.toNat (cap.den m ρ id) (by omega) hc sl w
      have hble : (eb.ev ρ).int.toNat ≤ cap.den m ρ id := by
        by_cases hn : hi = none
        · have := hbl hn; omega
        · have := hbc hn; omega
      refine ⟨_, _, _, _, _, _, rfl, hrun, ?_⟩
      split at h
      · rename_i hz
        cases h
        have hz' := litI?_eq hz
        subst hz'
        simp only [E.ev, Sc.int_I] at *
        simp only [DV.R, snapE_int hF]
        refine ⟨b, hb, ?_, hb0, hble⟩
        simp [add_none]
      · split at h
        · rename_i hlt
          have hlt' : (ea.ev ρ).int < (eb.ev ρ).int := of_decide_eq_true (E.dec_sound hF hlt)
          simp only [Option.map_eq_some_iff] at h
          obtain ⟨c', hc', rfl⟩ := h
          have hne : ¬ cap.den m ρ id = (ea.ev ρ).int.toNat := by omega
          have hcd : c'.den m ρ id = cap.den m ρ id - (ea.ev ρ).int.toNat := by
            unfold Cap.skip at hc'
            cases cap with
            | ex c => cases hc'; simp only [Cap.den, subI_int]; omega
            | own k =>
              simp only at hc'
              split at hc'
              · rename_i hk
                cases hc'
                have := nonneg_of hF hk
                simp only [Cap.den, addI_int]; omega
              · cases hc'
          simp only [DV.R, snapE_int hF]
          refine ⟨b, hb, ?_, by rw [subI_int]; omega, by rw [subI_int, hcd]; omega⟩
          rw [if_neg hne, hcd, subI_int]
          simp only [Option.map_some, add_none, Off.den_addE]
          congr 1
          omega
        · rename_i hge
          cases h
          have hge' : ¬ (ea.ev ρ).int < (eb.ev ρ).int := of_decide_eq_false (E.dec_sound hF hge)
          simp only [DV.R]
          have : (eb.ev ρ).int.toNat - (ea.ev ρ).int.toNat = 0 := by omega
          rw [this]
          exact ⟨_, _, rfl⟩
        · cases h
    · cases h
  · simp only [Option.map_eq_some_iff] at h
    obtain ⟨⟨ea, eb⟩, hbn, rfl⟩ := h
    simp only [DV.R] at hd
    subst hd
    obtain ⟨hrun, ha0, hb0, hab, hal, hbl, hbc⟩ := bndsD_spec (P := P) hF hbn hlo.1 hlo.2 hhi.1 hhi.2 0 0 rfl (Int.le_refl _) sl w
    have hb' : (eb.ev ρ).int.toNat = 0 := by
      by_cases hn : hi = none
      · have := hbl hn; omega
      · have := hbc hn; omega
    have ha' : (ea.ev ρ).int.toNat = 0 := by
      by_cases hn : lo = none
      · have := hal hn; omega
      · have := hab hn; omega
    refine ⟨_, _, _, _, _, _, rfl, hrun, ?_⟩
    simp only [DV.R, hb', ha']
    simp
  · simp only [Option.map_eq_some_iff] at h
    obtain ⟨⟨ea, eb⟩, hbn, rfl⟩ := h
    simp only [DV.R] at hd
    obtain ⟨a, c, rfl⟩ := hd
    obtain ⟨hrun, ha0, hb0, hab, hal, hbl, hbc⟩ := bndsD_spec (P := P) hF hbn hlo.1 hlo.2 hhi.1 hhi.2 0 c rfl (by simp [E.ev]) sl w
    refine ⟨_, _, _, _, _, _, rfl, hrun, ?_⟩
    have hb' : (eb.ev ρ).int.toNat = 0 := by
      by_cases hn : hi = none
      · have := hbl hn; omega
      · obtain ⟨_, _, _, _, _, _, hbc'⟩ := bndsD_spec (P := P) hF hbn hlo.1 hlo.2 hhi.1 hhi.2 0 0 rfl (Int.le_refl _) sl w
        have := hbc' hn; omega
    simp only [DV.R, hb']
    simp
  · cases h

theorem litsOf_R {m : Emb} {ρ : Env} : ∀ {l : List DV} {ns : List Int} {vs : List Value}, litsOf l = some ns → DV.RL m ρ l vs → vs = ns.map (Value.int .u8)
  | [], ns, vs, h, hv => by simp [litsOf] at h; subst h; simp only [DV.RL] at hv; subst hv; rfl
  | .int .u8 (.li n) :: r, ns, vs, h, hv => by
    simp only [litsOf, Option.map_eq_some_iff] at h
    obtain ⟨ns', h', rfl⟩ := h
    simp only [DV.RL, DV.R, E.ev, Sc.int_I] at hv
    obtain ⟨v, vr, rfl, rfl, hr⟩ := hv
    rw [litsOf_R h' hr]; rfl

theorem bytesE_R {m : Emb} {ρ : Env} : ∀ {l : List DV} {e : E} {vs : List Value}, bytesE l = some e → DV.RL m ρ l vs → ∃ ns : List Int, vs = ns.map (Value.int .u8) ∧ (e.ev ρ).str = strOfNums ns
  | [], e, vs, h, hv => by simp [bytesE] at h; subst h; simp only [DV.RL] at hv; subst hv; exact ⟨[], rfl, rfl⟩
  | d :: r, e, vs, h, hv => by
    unfold bytesE at h
    split at h
    · rename_i heq; cases heq
    · rename_i e' r' heq
      cases heq
      simp only [Option.map_eq_some_iff] at h
      obtain ⟨er, h', rfl⟩ := h
      simp only [DV.RL, DV.R] at hv
      obtain ⟨v, vr, rfl, rfl, hr⟩ := hv
      obtain ⟨ns, rfl, hs⟩ := bytesE_R h' hr
      refine ⟨(e'.ev ρ).int :: ns, rfl, ?_⟩
      rw [catS_str, chrS_str, hs]
      apply ByteArray.ext
      simp [strOfNums, chrOf, ByteArray.data_append]
    · cases h

theorem strE_R {m : Emb} {ρ : Env} {l : List DV} {e : E} {vs : List Value} (h : strE l = some e) (hv : DV.RL m ρ l vs) : ∃ ns : List Int, vs = ns.map (Value.int .u8) ∧ (e.ev ρ).str = strOfNums ns := by
  unfold strE at h
  split at h
  · rename_i ns hl
    cases h
    exact ⟨ns, litsOf_R hl hv, rfl⟩
  · exact bytesE_R h hv

/-- What lies in a row from a place on. -/
theorem cells_seg {m : Emb} {ρ : Env} {l : List DV} {c : Array Value} (hc : ∀ (i : Nat) (d : DV), l[i]? = some d → ∃ v, c[i]? = some v ∧ d.R m ρ v) (hle : l.length ≤ c.size) {b n : Nat} (hb : b + n ≤ l.length) :
    DV.RL m ρ ((l.drop b).take n) ((c.toList.drop b).take n) := by
  refine DV.RL.of_get ?_ fun i d hd => ?_
  · simp; omega
  · rw [List.getElem?_take] at hd
    split at hd
    · rename_i hi
      rw [List.getElem?_drop] at hd
      obtain ⟨v, hv, hr⟩ := hc _ _ hd
      exact ⟨v, by rw [List.getElem?_take, if_pos hi, List.getElem?_drop]; simpa using hv, hr⟩
    · cases hd

theorem bytesD_sound {m : Emb} {ρ : Env} {h : T Blk} {w : World} (hH : HeapR m ρ h w) {d : DV} {e : E} (hd : bytesD h d = some e) {v : Value} (hv : d.R m ρ v) {src el dst : TypeId} (hs : P.underlying src = some (.slice el))
    (he : P.underlying el = some (.int .u8)) (hdst : P.underlying dst = some .string) : (convert src dst v).run P w = .ok (.string (e.ev ρ).str) w := by
  unfold bytesD at hd
  split at hd
  · cases hd
    simp only [DV.R] at hv; subst hv
    exact run_convert_bytes_nil w src el hs he 0 0 dst hdst
  · cases hd
    simp only [DV.R] at hv
    obtain ⟨a, c, rfl⟩ := hv
    cases a with
    | none => exact run_convert_bytes_nil w src el hs he 0 c dst hdst
    | some a =>
      rw [run_convert_bytes_string w src dst el _ 0 c hs he hdst, run_bytesToString w a 0 c [] rfl]
      rfl
  · rename_i id o n cap
    split at hd
    · rename_i l t0 md hterms hg
      split at hd
      · rename_i hcond
        simp only [DV.R, E.ev, Sc.int_I] at hv
        obtain ⟨b, hb, rfl, h0, _⟩ := hv
        obtain ⟨b', ob, hb', ho, c, fr, ⟨t', rfl⟩, hle, hc, hmd⟩ := hH.blk id _ hg rfl
        rw [hb] at hb'; cases hb'
        have hseg := cells_seg hc hle hcond.2
        obtain ⟨ns, hns, hstr⟩ := strE_R hd hseg
        have hden : o.den ρ = o.base := by simp [Off.den, hterms, sumT]
        have hlen : ns.length = n.toNat := by
          have := congrArg List.length hns
          simp only [List.length_take, List.length_drop, Array.length_toList, List.length_map] at this
          omega
        have hl : (loadCells ⟨b, o.den ρ, none⟩ n.toNat).run P w = .ok (ns.map (Value.int .u8)).toArray w := by
          have := run_loadCells_list (P := P) w ⟨b, o.den ρ, none⟩ (ns.map (Value.int .u8)) (fun j v hj => by
            rw [add_none, cell_at ho, hden]
            rw [← hns, List.getElem?_take] at hj
            split at hj
            · rw [List.getElem?_drop] at hj; simpa using hj
            · cases hj)
          simpa [hlen] using this
        rw [run_convert_bytes_string w src dst el _ _ _ hs he hdst, run_bytesToString w _ _ _ ns hl, foldl_push_bytes, hstr]
        simp [strOfNums, ByteArray.empty, ByteArray.emptyWithCapacity]
        rfl
      · cases hd
    · cases hd
  · cases hd

theorem nilAhead_run {t : TypeId} {name : String} (h : (methodD P t name).isSome = true) (v : Value) (w : World) : (nilAhead (P.types.size + Made.depth) t v name).run P w = .ok (some false) w := by
  have hn : P.types.size + Made.depth = (P.types.size + 99) + 1 := rfl
  rw [hn]
  generalize P.types.size + 99 = n
  unfold methodD at h
  split at h
  · rename_i i hi
    split at h
    · rename_i m hm
      split at h
      · rename_i hp
        have hp' : m.path.toList = [] := List.isEmpty_iff.1 hp
        split at h
        · rename_i f' e hf hu
          simp only [nilAhead, typeInfo, Sem.run_bind, run_program, hi, hm, hp', followBlind, hf, Sem.run_pure, Result.andThen_ok]
        · cases h
        · rename_i f' d hne hf hu
          simp only [nilAhead, typeInfo, Sem.run_bind, run_program, hi, hm, hp', followBlind, hf, run_underlying hu, Sem.run_pure, Result.andThen_ok]
          cases d <;> simp_all
        · cases h
      · cases h
    · cases h
  · cases h

theorem gpD_R {m : Emb} {ρ : Env} {h : T Blk} {w : World} (hH : HeapR m ρ h w) {d d' : DV} (hd : gpD h d = some d') {v : Value} (hv : d.R m ρ v) : d'.R m ρ v := by
  unfold gpD at hd
  split at hd
  · rename_i g o
    split at hd
    · rename_i l t g' hg
      split at hd
      · rename_i e
        subst e
        cases hd
        obtain ⟨b, ob, hb, ho, c, fr, _, _, _, hmd⟩ := hH.blk _ _ hg rfl
        simp only [DV.R] at hv ⊢
        exact ⟨g', hmd, by simpa [Off.den, sumT] using hv⟩
      · cases hd
    · cases hd
  · cases hd

theorem bind_R {m : Emb} {ρ : Env} {h : T Blk} {w : World} (hH : HeapR m ρ h w) {t : T DV} {a : Act} (ht : TmpR m ρ t a) {x : Operand} {d : DV} (hd : (opd t x).bind (gpD h) = some d) : d.R m ρ (a.eval x) := by
  simp only [Option.bind_eq_some_iff] at hd
  obtain ⟨d0, h0, h1⟩ := hd
  exact gpD_R hH h1 (opd_R ht h0)

theorem valB_sound {m : Emb} {ρ : Env} (hF : F.ok ρ) {h : T Blk} {t : T DV} {a : Act} {w : World} (hH : HeapR m ρ h w) (ht : TmpR m ρ t a) {o : Oper} {d : DV} (hd : valB P F h t o.op = some d) :
    ∃ v, (execOp a.eval o).run P w = .ok (.value v) w ∧ d.R m ρ v := by
  obtain ⟨dst, op, type, pos, after, guard⟩ := o
  simp only at hd
  cases op <;> simp only [valB, reduceCtorEq] at hd
  case load ty x =>
    split at hd
    · rename_i dp hp
      obtain ⟨v, hv, hr⟩ := loadD_sound hF hH hd (bind_R hH ht hp)
      exact ⟨v, run_v hv, hr⟩
    · cases hd
  case nilCheck x =>
    split at hd
    · rename_i ty d hx
      cases hd
      have hR := opd_R ht hx
      have hv := hR
      simp only [DV.R] at hv
      obtain ⟨u, hv, _⟩ := hv
      exact ⟨a.eval x, by simp [execOp, hv], hR⟩
    · rename_i name ty d r cap hx
      split at hd
      · rename_i hm
        cases hd
        have hR := opd_R ht hx
        have hv := hR
        simp only [DV.R, DV.RL] at hv
        obtain ⟨y1, y2, hv, ⟨u, ur, hxl, ⟨u', rfl, _⟩, _⟩, _⟩ := hv
        have hx : y1 = (Value.iface ty u' :: ur).toArray := by rw [← hxl]
        subst hx
        have hna := nilAhead_run hm u' w
        refine ⟨a.eval x, ?_, hR⟩
        simp only [execOp, hv, List.getElem?_toArray, List.getElem?_cons_zero, Sem.run_bind, run_program, Result.andThen_ok, hna]
        rfl
      · cases hd
    · cases hd
  case fieldAddr s x f =>
    split at hd
    · rename_i fs id of hs hx
      split at hd
      · rename_i fd hfd
        split at hd
        · rename_i i hi
          split at hd
          · cases hd
          · rename_i hsz
            cases hd
            obtain ⟨b, hb, hv⟩ := R_ptr_inv (bind_R hH ht hx)
            refine ⟨.pointer (some ⟨b, of.den ρ + fd.offset, none⟩), run_v ?_, ?_⟩
            · rw [hv]
              simp [Instr.fieldAt, run_underlying hs, hfd, Instr.sureAddr, fieldPlace, sizeOf, typeInfo, hi, hsz, add_none]
            · simp only [DV.R]; exact ⟨b, hb, by rw [Off.den_add]⟩
        · cases hd
      · cases hd
    · cases hd
  case indexAddr ty x ix =>
    split at hd
    · rename_i len el id of k e hu hx hix
      split at hd
      · rename_i i hi
        split at hd
        · rename_i hok
          cases hd
          obtain ⟨h0, h1⟩ := idxOk_spec hF hok
          simp only [E.ev, Sc.int_I] at h1
          obtain ⟨b, hb, hv⟩ := R_ptr_inv (bind_R hH ht hx)
          have hRi := opd_R ht hix
          simp only [DV.R] at hRi
          refine ⟨.pointer (some ⟨b, of.den ρ + (e.ev ρ).int.toNat * i.size, none⟩), run_v ?_, ?_⟩
          · rw [hv, hRi]
            simp [Instr.indexAt, run_underlying hu, asIntOf, Instr.sureAddr, sizeOf, typeInfo, hi, add_none, h0, h1]
          · simp only [DV.R]; exact ⟨b, hb, by rw [Off.den_addE]⟩
        · cases hd
      · cases hd
    · cases hd
  case slice ty x lo hi mx =>
    cases mx with
    | some mx =>
      cases hi with
      | none => simp at hd
      | some hi =>
        simp only at hd
        split at hd
        · rename_i el dx l hh mm hu hx hlo hhi hmx
          split at hd
          · rename_i i hi'
            obtain ⟨ad, n, c, l', hh', mm', hv, hrun, hr⟩ := slice3D_sound (P := P) hF hd (opd_R ht hx) (optD_R ht hlo) (opd_R ht hhi) (opd_R ht hmx) w
            refine ⟨_, run_v ?_, hr⟩
            rw [hv]
            simp only [Instr.sliceAt, Instr.slice, Sem.run_bind, run_underlying hu, Result.andThen_ok, Option.map_some, hrun, Sem.run_pure]
            simp [sizeOf, typeInfo, hi']
          · cases hd
        · cases hd
    | none =>
      simp only at hd
      split at hd
      · rename_i el dx l hh hu hx hlo hhi
        split at hd
        · rename_i i hi'
          obtain ⟨ad, n, c, l', hh', mm, hv, hrun, hr⟩ := sliceD_sound (P := P) hF hd (opd_R ht hx) (optD_R ht hlo) (optD_R ht hhi) true w
          refine ⟨_, run_v ?_, hr⟩
          rw [hv]
          simp only [Instr.sliceAt, Instr.slice, Sem.run_bind, run_underlying hu, Result.andThen_ok, Option.map_none, hrun, Sem.run_pure]
          simp [sizeOf, typeInfo, hi']
        · cases hd
      · rename_i n el id o l hh hu hx hlo hhi
        split at hd
        · rename_i i hi'
          obtain ⟨b, hb, hv⟩ := R_ptr_inv (opd_R ht hx)
          have hR : (DV.slc id o (.li n) (.ex (.li n))).R m ρ (.slice (some ⟨b, o.den ρ, none⟩) n n) := by
            simp only [DV.R, E.ev, Sc.int_I, Cap.den]
            exact ⟨b, hb, by simp, by omega, by omega⟩
          obtain ⟨ad, n', c, l', hh', mm, hv', hrun, hr⟩ := sliceD_sound (P := P) hF hd hR (optD_R ht hlo) (optD_R ht hhi) false w
          cases hv'
          refine ⟨_, run_v ?_, hr⟩
          rw [hv]
          simp only [Instr.sliceAt, Instr.sureAddr, Sem.run_bind, run_underlying hu, Result.andThen_ok, Option.map_none, hrun, Sem.run_pure]
          simp [sizeOf, typeInfo, hi']
          split <;> rfl
        · cases hd
      · cases hd
  case convert src dst' x =>
    split at hd
    · rename_i e dx hs hu hx
      split at hd
      · rename_i he
        simp only [Option.map_eq_some_iff] at hd
        obtain ⟨e', he', rfl⟩ := hd
        refine ⟨.string (e'.ev ρ).str, run_v (bytesD_sound hH he' (opd_R ht hx) hs he hu), by simp only [DV.R]⟩
      · cases hd
    · cases hd
  case call c =>
    obtain ⟨callee, args, argTypes⟩ := c
    simp only at hd
    split at hd
    · rename_i d0 hargs
      have hA := opds_R ht hargs
      simp only [DV.RL] at hA
      obtain ⟨v0, vr, he, hR, rfl⟩ := hA
      have hmap : args.map a.eval = #[v0] := Array.toList_inj.1 (by rw [Array.toList_map]; exact he)
      split at hd
      · rename_i ty hty
        have red : ∀ {v}, (Builtin.cap_ argTypes type #[v0]).run P w = .ok v w → (execOp a.eval ⟨dst, .call ⟨.builtin .cap, args, argTypes⟩, type, pos, after, guard⟩).run P w = .ok (.value v) w := by
          intro v hv
          simp [execOp, resolve, hmap, invoke, builtin, hv]
        split at hd
        · rename_i el id o len n hu
          split at hd
          · rename_i h0
            cases hd
            simp only [DV.R, E.ev, Sc.int_I, Cap.den] at hR
            obtain ⟨b, hb, rfl, _, _⟩ := hR
            exact ⟨.int .i64 ((n.toNat : Nat) : Int), red (by simp [Builtin.cap_, hty, run_underlying hu, goInt]), by simp only [DV.R, E.ev, Sc.int_I]; rw [Int.toNat_of_nonneg h0]⟩
          · cases hd
        · rename_i el hu
          cases hd
          simp only [DV.R] at hR; subst hR
          exact ⟨.int .i64 0, red (by simp [Builtin.cap_, hty, run_underlying hu, goInt]), rfl⟩
        · cases hd
      · cases hd
    · cases hd
  all_goals simp at hd

theorem valAB_sound {m : Emb} {ρ : Env} (hF : F.ok ρ) {h : T Blk} {t : T DV} {a : Act} {w : World} (hH : HeapR m ρ h w) (ht : TmpR m ρ t a) {o : Oper} {d : DV} (hd : valAB P F h t o.op = some d) :
    ∃ v, (execOp a.eval o).run P w = .ok (.value v) w ∧ d.R m ρ v := by
  unfold valAB at hd
  split at hd
  · rename_i d' h'; cases hd; exact valA_sound hF hH ht h'
  · exact valB_sound hF hH ht hd

end
end Go.Eng

/-
  append.
-/
namespace Go.Eng

/-- A block that is known by another number from now on. -/
theorem HeapR.move {m : Emb} {ρ : Env} {h : T Blk} {w w' : World} (hr : HeapR m ρ h w) {id b n k : Nat} {B C : Blk} {o : Obj} (hB : h.get id = some B) (hrw : B.rw = true) (hb : m.ι id = some b) (hn : m.ι n = none)
    (ho : w'.heap[b]? = some o) (hC : C.R (m.put n b k) ρ k o) (hk : ∀ c, c ≠ b → w'.heap[c]? = w.heap[c]?) : HeapR (m.put n b k) ρ ((h.set id .dead).set n C) w' where
  blk := fun i D hD hl => by
    rw [T.get_set] at hD
    split at hD
    · rename_i e; cases hD; subst e
      exact ⟨b, o, by simp [Emb.put], ho, by simpa [Emb.put] using hC⟩
    · rename_i e
      rw [T.get_set] at hD
      split at hD
      · cases hD; cases hl
      · rename_i e'
        obtain ⟨c, p, h1, h2, h3⟩ := hr.blk i D hD hl
        refine ⟨c, p, by simp [Emb.put, e, h1], ?_, by simpa [Emb.put, e] using h3.mono (Emb.le_put hn)⟩
        rw [hk c (fun ec => e' ((hr.inj id i B D b hB hD hrw hl hb (ec ▸ h1)).symm)), h2]
  inj := fun i j D D' c hD hD' h1 h2 hi hj => by
    rw [T.get_set] at hD hD'
    split at hD
    · rename_i e; subst e
      split at hD'
      · rename_i e'; exact e'.symm
      · rename_i e'
        rw [T.get_set] at hD'
        split at hD'
        · cases hD'; cases h2
        · rename_i e2
          simp [Emb.put] at hi
          simp [Emb.put, e'] at hj
          subst hi
          exact absurd (hr.inj id j B D' b hB hD' hrw h2 hb hj) (fun e => e2 e.symm)
    · rename_i e
      rw [T.get_set] at hD
      split at hD
      · cases hD; cases h1
      · rename_i e1
        simp [Emb.put, e] at hi
        split at hD'
        · rename_i e'; subst e'
          simp [Emb.put] at hj
          subst hj
          exact absurd (hr.inj id i B D b hB hD hrw (Blk.live_of_rw h1) hb hi) (fun e => e1 e.symm)
        · rename_i e'
          rw [T.get_set] at hD'
          split at hD'
          · cases hD'; cases h2
          · simp [Emb.put, e'] at hj
            exact hr.inj i j D D' c hD hD' h1 h2 hi hj

theorem Trans.move {m : Emb} {h : T Blk} {w w' : World} {id b n k : Nat} {B C : Blk} (hB : h.get id = some B) (hrw : B.rw = true) (hb : m.ι id = some b) (hn : m.ι n = none)
    (hk : ∀ c, c ≠ b → w'.heap[c]? = w.heap[c]?) (hs : w'.heap.size = w.heap.size) (ht : w'.tape = w.tape) (ho : w'.os = w.os) (hout : w'.output = w.output) :
    Trans m h w (m.put n b k) ((h.set id .dead).set n C) w' where
  ext := Emb.le_put hn
  size := by omega
  frame := fun c _ hn' => hk c (fun e => hn' ⟨id, B, hB, hrw, e ▸ hb⟩)
  fp := fun c ⟨i, D, hD, h1, hi⟩ => by
    rw [T.get_set] at hD
    split at hD
    · rename_i e; subst e
      simp [Emb.put] at hi
      subst hi
      exact .inl ⟨id, B, hB, hrw, hb⟩
    · rename_i e
      rw [T.get_set] at hD
      split at hD
      · cases hD; cases h1
      · simp [Emb.put, e] at hi
        exact .inl ⟨i, D, hD, h1, hi⟩
  tape := ht
  os := ho
  output := hout

/-- A block of which nothing is known any more. -/
theorem HeapR.kill {m : Emb} {ρ : Env} {h : T Blk} {w : World} (hr : HeapR m ρ h w) (id : Nat) : HeapR m ρ (h.set id .dead) w where
  blk := fun i D hD hl => by
    rw [T.get_set] at hD
    split at hD
    · cases hD; cases hl
    · exact hr.blk i D hD hl
  inj := fun i j D D' c hD hD' h1 h2 hi hj => by
    rw [T.get_set] at hD hD'
    split at hD
    · cases hD; cases h1
    · split at hD'
      · cases hD'; cases h2
      · exact hr.inj i j D D' c hD hD' h1 h2 hi hj

theorem Fp.kill {m : Emb} {h : T Blk} {id b : Nat} (hf : Fp m (h.set id .dead) b) : Fp m h b := by
  obtain ⟨i, B, hB, h1, h2⟩ := hf
  rw [T.get_set] at hB
  split at hB
  · cases hB; cases h1
  · exact ⟨i, B, hB, h1, h2⟩

theorem Trans.kill {m m' : Emb} {h h' : T Blk} {w w' : World} {id : Nat} (t : Trans m (h.set id .dead) w m' h' w') : Trans m h w m' h' w' :=
  ⟨t.ext, t.size, fun b hb hn => t.frame b hb (fun hf => hn hf.kill), fun b hb => (t.fp b hb).imp Fp.kill id', t.tape, t.os, t.output⟩
where id' {p : Prop} (h : p) : p := h

section
variable (P : Program) (F : Facts)

/-- What is appended: how many elements, and their cells. -/
def newsD (h : T Blk) (size : Nat) (tx : TypeId) (d : DV) : Option (Nat × List DV) :=
  match P.underlying tx, d with
  | some (.slice _), .nils => some (0, [])
  | some (.slice _), .mt => some (0, [])
  | some (.slice _), .slc id o (.li n) _ => match o.terms, h.get id with
    | [], some (.cells l _ _) =>
      if 0 ≤ n ∧ o.base + n.toNat * size ≤ l.length ∧ ((l.drop o.base).take (n.toNat * size)).all DV.one = true then some (n.toNat, (l.drop o.base).take (n.toNat * size)) else none
    | _, _ => none
  | some .string, .str e => match lenS e with
    | .li n => if 0 ≤ n ∧ size = 1 then some (n.toNat, (List.range n.toNat).map fun (i : Nat) => .int .u8 (atS e (.li (i : Int)))) else none
    | _ => none
  | _, _ => none

def appD (h : T Blk) (n : Nat) (e : TypeId) (size : Nat) (s : DV) (k : Nat) (news : List DV) : Option Out :=
  match s with
  | .nils => if k = 0 then some ⟨.nils, h, n⟩ else if k ≤ 1000000 then some ⟨.slc n ⟨0, []⟩ (.li k) (.own (.li 0)), h.set n (.cells news e (.own size)), n + 1⟩ else none
  | .mt => if k = 0 then some ⟨.mt, h, n⟩ else none
  | .slc id o (.li a) cap =>
    if k = 0 then some ⟨.slc id o (.li a) cap, h, n⟩ else
    match o.terms, h.get id with
    | [], some (.cells l t md) =>
      if 0 ≤ a ∧ a.toNat + k ≤ 1000000 ∧ o.base + a.toNat * size ≤ l.length then
        match cap with
        | .own (.li 0) => if md = .own size ∧ o.base = 0 then
            some ⟨.slc n ⟨0, []⟩ (.li (a + k)) (.own (.li 0)), (h.set id .dead).set n (.cells (l.take (a.toNat * size) ++ news) e (.own size)), n + 1⟩ else none
        | .ex (.li c) => if a + k ≤ c then
            (if md.rw' = true ∧ o.base + (a.toNat + k) * size ≤ l.length then some ⟨.slc id o (.li (a + k)) (.ex (.li c)), h.set id (.cells (setL l (o.base + a.toNat * size) news) t md), n⟩ else none)
          else some ⟨.slc n ⟨0, []⟩ (.li (a + k)) (.own (.li 0)), h.set n (.cells ((l.drop o.base).take (a.toNat * size) ++ news) e (.own size)), n + 1⟩
        | _ => none
      else none
    | _, _ => none
  | _ => none

/-- What is copied. -/
def copyD (h : T Blk) (n : Nat) (size : Nat) (d : DV) (k : Nat) (news : List DV) : Option Out :=
  match d with
  | .nils => some ⟨.int .i64 (.li 0), h, n⟩
  | .mt => some ⟨.int .i64 (.li 0), h, n⟩
  | .slc id o (.li a) _ => match o.terms, h.get id with
    | [], some (.cells l t md) =>
      if 0 ≤ a ∧ md.rw' = true ∧ o.base + (min k a.toNat) * size ≤ l.length then
        some ⟨.int .i64 (.li ((min k a.toNat : Nat) : Int)), h.set id (.cells (setL l o.base (news.take ((min k a.toNat) * size))) t md), n⟩
      else none
    | _, _ => none
  | _ => none

/-- Is it a long row of numbers that more is put behind? -/
def bigApp (s : DV) (size : Nat) (z : DV) : Bool := match s, size, z with
  | .slc _ _ (.li a) (.own (.li 0)), 1, .int _ _ => decide (64 ≤ a)
  | _, _, _ => false

def memB (h : T Blk) (n : Nat) (t : T DV) : Op → Option Out
  | .call c => match c.callee, c.args.toList.mapM (opd t) with
    | .builtin .copy, some [d, x] => match c.argTypes.toList with
      | td :: tx :: _ => match P.underlying td with
        | some (.slice e) => match P.info? e with
          | some ie => match newsD P h ie.size tx x with
            | some (k, news) => copyD h n ie.size d k news
            | none => none
          | none => none
        | _ => none
      | _ => none
    | .builtin .append, some [s, x] => match c.argTypes.toList with
      | ts :: tx :: _ => match P.underlying ts with
        | some (.slice e) => match P.info? e, zeroD P e with
          | some ie, some z => if ie.bytes ≤ 1000000 ∧ z.cells.length = ie.size ∧ bigApp s ie.size z = false then
              match newsD P h ie.size tx x with
              | some (k, news) => appD h n e ie.size s k news
              | none => none
            else none
          | _, _ => none
        | _ => none
      | _ => none
    | _, _ => none
  | _ => none

def memAB (h : T Blk) (n : Nat) (t : T DV) (op : Op) : Option Out := match memA P F h n t op with
  | some r => some r
  | none => memB P h n t op

variable {P} {F}

theorem newsD_sound {m : Emb} {ρ : Env} {h : T Blk} {w : World} (hH : HeapR m ρ h w) {size : Nat} {tx : TypeId} {d : DV} {k : Nat} {news : List DV} (hd : newsD P h size tx d = some (k, news)) {v : Value} (hv : d.R m ρ v) :
    ∃ vs : List Value, Src P size tx v k vs w ∧ DV.RL m ρ news vs ∧ ∀ n, n ≤ k → (Builtin.firstCells size n v).run P w = .ok (vs.take (n * size)).toArray w := by
  unfold newsD at hd
  split at hd
  · rename_i e' hu
    cases hd
    simp only [DV.R] at hv; subst hv
    exact ⟨[], Src.ofNil w hu 0, by simp only [DV.RL], fun n _ => by rw [run_firstCells_none]; simp⟩
  · rename_i e' hu
    cases hd
    simp only [DV.R] at hv
    obtain ⟨a, c, rfl⟩ := hv
    cases a with
    | none => exact ⟨[], Src.ofNil w hu c, by simp only [DV.RL], fun n _ => by rw [run_firstCells_none]; simp⟩
    | some a => exact ⟨[], Src.ofSlice w hu a 0 c [] (by simp) (fun j u hj => by simp at hj) (fun u hu => by cases hu), by simp only [DV.RL], fun n hn => by
      obtain rfl := Nat.le_zero.1 hn
      have := run_firstCells_some (P := P) w size 0 a 0 c [] (by simp) (fun j u hj => by simp at hj)
      simpa using this⟩
  · rename_i e' id o n cap hu
    split at hd
    · rename_i l t0 md hterms hg
      split at hd
      · rename_i hcond
        cases hd
        obtain ⟨h0, hfit, hone⟩ := hcond
        simp only [DV.R, E.ev, Sc.int_I] at hv
        obtain ⟨b, hb, rfl, _, _⟩ := hv
        obtain ⟨b', ob, hb', ho, c, fr, ⟨t', rfl⟩, hle, hc, hmd⟩ := hH.blk id _ hg rfl
        rw [hb] at hb'; cases hb'
        have hseg := cells_seg hc hle hfit
        have hden : o.den ρ = o.base := by simp [Off.den, hterms, sumT]
        have hcellj : ∀ j u, ((c.toList.drop o.base).take (n.toNat * size))[j]? = some u → w.cell? ((⟨b, o.den ρ, none⟩ : Addr).add j) = some u := fun j u hj => by
          rw [add_none, cell_at ho, hden]
          rw [List.getElem?_take] at hj
          split at hj
          · rw [List.getElem?_drop] at hj; simpa using hj
          · cases hj
        have hlen : ((c.toList.drop o.base).take (n.toNat * size)).length = n.toNat * size := by simp; omega
        refine ⟨_, Src.ofSlice w hu _ _ _ ((c.toList.drop o.base).take (n.toNat * size)) hlen hcellj (RL_one hseg hone), hseg, fun k hk => ?_⟩
        have hle : k * size ≤ n.toNat * size := Nat.mul_le_mul_right _ hk
        refine run_firstCells_some w size k _ _ _ _ (by rw [List.length_take, hlen]; omega) fun j u hj => ?_
        rw [List.getElem?_take] at hj
        split at hj
        · exact hcellj j u hj
        · cases hj
      · cases hd
    · cases hd
  · rename_i e hu
    split at hd
    · rename_i n hn
      split at hd
      · rename_i hcond
        cases hd
        obtain ⟨h0, rfl⟩ := hcond
        simp only [DV.R] at hv; subst hv
        have hsz : ((e.ev ρ).str.size : Int) = n := by
          have := lenS_int ρ e
          rw [hn] at this
          simpa [E.ev] using this.symm
        have hsz' : n.toNat = (e.ev ρ).str.size := by omega
        rw [hsz']
        refine ⟨byteCells (e.ev ρ).str, Src.ofString w hu _, DV.RL.of_get ?_ fun i d hd => ?_, fun k hk => ?_⟩
        · rw [byteCells_length]; simp
        · simp only [List.getElem?_map, Option.map_eq_some_iff] at hd
          obtain ⟨j, hj, rfl⟩ := hd
          obtain ⟨hlt, rfl⟩ := range_get hj
          have hlt' : i < (e.ev ρ).str.data.toList.length := by rw [Array.length_toList]; exact hlt
          refine ⟨.int .u8 (byteAt (e.ev ρ).str i), ?_, by simp only [DV.R]; rw [atS_int]; rfl⟩
          simp only [byteCells, List.getElem?_map, List.getElem?_eq_getElem hlt', Option.map_some, byteAt, Int.toNat_natCast, List.getD_eq_getElem?_getD, Option.getD_some]
        · simp only [Builtin.firstCells, Sem.run_pure]
          congr 1
          apply Array.ext'
          simp [byteCells]
      · cases hd
    · cases hd
  · cases hd

theorem Trans.undrew {m m' : Emb} {h h' : T Blk} {w w' : World} (t : Trans m h w.drew m' h' w') : Trans m h w m' h' w' := ⟨t.ext, t.size, t.frame, t.fp, t.tape, t.os, t.output⟩
theorem HeapR.drew {m : Emb} {ρ : Env} {h : T Blk} {w : World} (t : HeapR m ρ h w) : HeapR m ρ h w.drew := ⟨t.blk, t.inj⟩

theorem DV.RL.take {m : Emb} {ρ : Env} {l : List DV} {vs : List Value} (h : DV.RL m ρ l vs) (n : Nat) : DV.RL m ρ (l.take n) (vs.take n) := by
  have hl := h.length
  refine DV.RL.of_get (by simp; omega) fun i d hd => ?_
  rw [List.getElem?_take] at hd
  split at hd
  · rename_i hi
    obtain ⟨v, hv, hr⟩ := h.get hd
    exact ⟨v, by rw [List.getElem?_take, if_pos hi]; exact hv, hr⟩
  · cases hd

/-- There is no room: a new row. -/
theorem app_grow {m : Emb} {ρ : Env} {h : T Blk} {n : Nat} {w : World} (hH : HeapR m ρ h w) (hf : ∀ id, n ≤ id → m.ι id = none) {t tx ty e : TypeId} {ie : TypeInfo} {z : DV} (ht : P.underlying t = some (.slice e)) (hie : P.info? e = some ie) (hz : zeroD P e = some z)
    (hzl : z.cells.length = ie.size) (hby : ie.bytes ≤ 1000000) {base : Option Addr} {sLen sCap k : Nat} {x : Value} {olds news : List DV} {vo vn : List Value} (hvo : DV.RL m ρ olds vo) (hvn : DV.RL m ρ news vn)
    (hold : (Builtin.firstCells ie.size sLen (.slice base sLen sCap)).run P w.drew = .ok vo.toArray w.drew) (holen : olds.length = sLen * ie.size) (hs : Src P ie.size tx x k vn w) (hg : sCap < sLen + k) (hsmall : sLen + k ≤ 1000000)
    {run : Result Next} (hrun : ∀ v w', (Builtin.append_ #[t, tx] ty #[.slice base sLen sCap, x]).run P w = .ok v w' → run = .ok (.value v) w') :
    OpOk m ρ h w run ⟨.slc n ⟨0, []⟩ (.li ((sLen : Int) + k)) (.own (.li 0)), h.set n (.cells (olds ++ news) e (.own ie.size)), n + 1⟩ := by
  obtain ⟨i, zv, hi, hzv, hr⟩ := zeroD_R hz m ρ
  rw [hie] at hi; cases hi
  have hzs : zv.cells.size = ie.size := by
    have := hr.cells.length; simp at this; omega
  have hb : (sLen + k) * ie.bytes ≤ 140737488355328 := by
    have : (sLen + k) * ie.bytes ≤ 1000000 * 1000000 := Nat.mul_le_mul hsmall hby
    omega
  have hr0 := run_append_grow_src (P := P) w t tx ty e ie zv ht hie hzv base sLen sCap vo hold x k vn hs hg (by omega) (growslice_fits hg hb)
  have hge := grownCap_ge w (sLen + k) sCap e
  have hall := DV.RL.append hvo hvn
  have hlen := hall.length
  have hnl := hs.newsLen
  have hvn' := hvn.length
  have hvo' := hvo.length
  have key := new_ok (k := grownCap w (sLen + k) sCap e) (hH.drew) hf
    (B := .cells (olds ++ news) e (.own ie.size)) (o := .cells ((vo ++ vn).toArray ++ Builtin.zeroCells zv.cells (grownCap w (sLen + k) sCap e - (sLen + k))) e) ?_
    (d := .slc n ⟨0, []⟩ (.li ((sLen : Int) + k)) (.own (.li 0))) (v := .slice (some ⟨w.heap.size, 0, none⟩) (sLen + k) (grownCap w (sLen + k) sCap e)) ?_ (hrun _ _ hr0)
  · obtain ⟨nx, v, w', m', h1, h2, h3, h4, h5, h6⟩ := key
    exact ⟨nx, v, w', m', h1, h2, h3, h4, h5.undrew, h6⟩
  · refine ⟨_, (0, 0), ⟨_, rfl⟩, ?_, fun j d hd => ?_, rfl, ?_⟩
    · simp only [Array.size_append, List.size_toArray, size_zeroCells]; omega
    · obtain ⟨v, hv, hrv⟩ := hall.get hd
      have hlt := (List.getElem?_eq_some_iff.1 hv).1
      refine ⟨v, ?_, hrv⟩
      rw [Array.getElem?_append_left (by simpa using hlt)]
      simpa using hv
    · simp only [Array.size_append, List.size_toArray, size_zeroCells, List.length_append, hvo', holen, hnl, hzs, ← Nat.add_mul]
      exact Nat.le_of_eq (by congr 1; omega)
  · simp only [DV.R, E.ev, Sc.int_I, Cap.den]
    refine ⟨w.heap.size, by simp only [Emb.put, if_true]; rfl, ?_, by omega, ?_⟩
    · have : ((sLen : Int) + (k : Int)).toNat = sLen + k := by omega
      simp [Off.den, sumT, Emb.put, this]
    · simp [Emb.put]; omega

/-- There is room: the cells behind are written. -/
theorem run_append_row (w : World) {t tx ty e : TypeId} {ie : TypeInfo} (ht : P.underlying t = some (.slice e)) (hie : P.info? e = some ie) {b off sLen sCap k : Nat} {x : Value} {vn : List Value} (hs : Src P ie.size tx x k vn w)
    {c : Array Value} {t0 : TypeId} (hb : w.heap[b]? = some (.cells c t0 (0, 0))) (hroom : sLen + k ≤ sCap) (hfit : off + sLen * ie.size + vn.length ≤ c.size) :
    (Builtin.append_ #[t, tx] ty #[.slice (some ⟨b, off, none⟩) sLen sCap, x]).run P w = .ok (.slice (some ⟨b, off, none⟩) (sLen + k) sCap)
      (w.setRow b (c.toList.take (off + sLen * ie.size) ++ vn ++ c.toList.drop (off + sLen * ie.size + vn.length)).toArray) := by
  have hst := run_storeCells_at (P := P) b (off + sLen * ie.size) t0 vn 0 c w hb (by simpa using hfit) hs.one
  simp only [Nat.add_zero] at hst
  rcases hs.kind with ⟨e', hk⟩ | hk <;> simp [Builtin.append_, run_underlying ht, run_underlying hk, sizeOf, typeInfo, hie, hs.len, hroom, hs.cells, Addr.add_lit, hst]

theorem appD_sound {m : Emb} {ρ : Env} {h : T Blk} {n : Nat} {w : World} (hH : HeapR m ρ h w) (hf : ∀ id, n ≤ id → m.ι id = none) {t tx ty e : TypeId} {ie : TypeInfo} {z : DV} (ht : P.underlying t = some (.slice e)) (hie : P.info? e = some ie) (hz : zeroD P e = some z)
    (hzl : z.cells.length = ie.size) (hby : ie.bytes ≤ 1000000) {s : DV} {vs x : Value} {k : Nat} {news : List DV} {vn : List Value} (hvs : s.R m ρ vs) (hvn : DV.RL m ρ news vn) (hs : Src P ie.size tx x k vn w) {r : Out} (hd : appD h n e ie.size s k news = some r)
    {run : Result Next} (hrun : ∀ v w', (Builtin.append_ #[t, tx] ty #[vs, x]).run P w = .ok v w' → run = .ok (.value v) w') : OpOk m ρ h w run r := by
  have hnl := hs.newsLen
  have hvn' := hvn.length
  have same : ∀ {v : Value} {d : DV}, d.R m ρ v → run = .ok (.value v) w → OpOk m ρ h w run ⟨d, h, n⟩ := fun {v d} hr hrn => ⟨_, v, w, m, hrn, .inl rfl, hr, hH, Trans.refl m h w, hf⟩
  have zero : ∀ {base : Option Addr} {l c : Nat}, k = 0 → l ≤ c → (Builtin.append_ #[t, tx] ty #[.slice base l c, x]).run P w = .ok (.slice base l c) w := by
    intro base l c hk hlc
    subst hk
    have hv0 : vn = [] := List.length_eq_zero_iff.1 (by simpa using hnl)
    subst hv0
    have hl : l + 0 ≤ c := by omega
    rcases hs.kind with ⟨e', hk⟩ | hk <;> cases base <;> simp [Builtin.append_, run_underlying ht, run_underlying hk, sizeOf, typeInfo, hie, hs.len, hlc, hs.cells, storeCells]
  unfold appD at hd
  split at hd
  · simp only [DV.R] at hvs; subst hvs
    split at hd
    · rename_i hk
      cases hd
      exact same (by simp only [DV.R]) (hrun _ _ (zero hk (Nat.le_refl _)))
    · rename_i hk
      split at hd
      · rename_i hkk
        cases hd
        have := app_grow (sLen := 0) (sCap := 0) (olds := []) (vo := []) hH hf ht hie hz hzl hby (by simp only [DV.RL]) hvn (run_firstCells_none w.drew ie.size 0 0 0) (by simp) hs (by omega) (by omega) hrun
        simpa using this
      · cases hd
  · split at hd
    · rename_i hk
      cases hd
      simp only [DV.R] at hvs
      obtain ⟨a, c, rfl⟩ := hvs
      exact same (by simp only [DV.R]; exact ⟨a, c, rfl⟩) (hrun _ _ (zero hk (Nat.zero_le _)))
    · cases hd
  · rename_i id o a cap
    split at hd
    · rename_i hk
      cases hd
      have hR := hvs
      simp only [DV.R] at hvs
      obtain ⟨b, hb, rfl, h0, hc⟩ := hvs
      exact same hR (hrun _ _ (zero hk hc))
    · rename_i hk
      split at hd
      · rename_i l t0 md hterms hg
        split at hd
        · rename_i hcond
          obtain ⟨h0, hsmall, hfit⟩ := hcond
          simp only [DV.R, E.ev, Sc.int_I] at hvs
          obtain ⟨b, hb, rfl, _, hcap⟩ := hvs
          obtain ⟨b', ob, hb', ho, c, fr, ⟨t', rfl⟩, hle, hc, hmd⟩ := hH.blk id _ hg rfl
          rw [hb] at hb'; cases hb'
          have hden : o.den ρ = o.base := by simp [Off.den, hterms, sumT]
          have hseg := cells_seg hc hle hfit
          have hak : ((a.toNat : Nat) : Int) = a := Int.toNat_of_nonneg h0
          have hold : (Builtin.firstCells ie.size a.toNat (.slice (some ⟨b, o.den ρ, none⟩) a.toNat (cap.den m ρ id))).run P w.drew = .ok ((c.toList.drop o.base).take (a.toNat * ie.size)).toArray w.drew := by
            refine run_firstCells_some w.drew ie.size _ _ _ _ _ (by simp; omega) fun j u hj => ?_
            rw [add_none, hden]
            have : w.drew.cell? ⟨b, o.base + j, none⟩ = w.cell? ⟨b, o.base + j, none⟩ := rfl
            rw [this, cell_at ho]
            rw [List.getElem?_take] at hj
            split at hj
            · rw [List.getElem?_drop] at hj; simpa using hj
            · cases hj
          split at hd
          · -- of its own, of a capacity that is not told
            split at hd
            · rename_i hown
              cases hd
              obtain ⟨rfl, hbase⟩ := hown
              simp only [Cap.den, E.ev, Sc.int_I, Int.toNat_zero, Nat.sub_zero] at hcap hold hrun
              obtain ⟨rfl, hκ⟩ := hmd
              have hseg' : DV.RL m ρ (l.take (a.toNat * ie.size)) ((c.toList).take (a.toNat * ie.size)) := by
                have := hseg; rw [hbase] at this; simpa using this
              by_cases hroom : a.toNat + k ≤ m.κ id
              · have hfit2 : o.den ρ + a.toNat * ie.size + vn.length ≤ c.size := by
                  rw [hden, hbase, hnl]
                  have : (a.toNat + k) * ie.size ≤ m.κ id * ie.size := Nat.mul_le_mul_right _ hroom
                  rw [Nat.add_mul] at this
                  omega
                have hrw : (Blk.cells l t0 (.own ie.size)).rw = true := rfl
                have hr0 := hrun _ _ (run_append_row w ht hie hs ho hroom hfit2)
                have hn := hf n (Nat.le_refl _)
                refine ⟨_, _, _, m.put n b (m.κ id), hr0, .inl rfl, ?_, ?_, Trans.move hg hrw hb hn (fun k hk => setRow_other w b k _ hk) (by simp) rfl rfl rfl, put_fresh hf⟩
                · simp only [DV.R, E.ev, Sc.int_I, Cap.den]
                  refine ⟨b, by simp [Emb.put], ?_, by omega, by simp [Emb.put]; omega⟩
                  have : (a + (k : Int)).toNat = a.toNat + k := by omega
                  simp [Off.den, sumT, Emb.put, this, hterms, hbase]
                · refine hH.move hg hrw hb hn (setRow_heap w b c _ t' (0, 0) ho) ?_ (fun k hk => setRow_other w b k _ hk)
                  have hsz : ((c.toList.take (o.den ρ + a.toNat * ie.size) ++ vn ++ c.toList.drop (o.den ρ + a.toNat * ie.size + vn.length)).toArray).size = c.size := by
                    simp only [List.size_toArray, List.length_append, List.length_take, List.length_drop, Array.length_toList]; omega
                  refine ⟨_, _, ⟨_, rfl⟩, ?_, fun j d hd => ?_, rfl, by rw [hsz]; exact hκ⟩
                  · rw [hsz]
                    simp only [List.length_append, List.length_take, Nat.min_eq_left (show a.toNat * ie.size ≤ l.length by omega)]
                    omega
                  · rw [splice_get (by simpa using hfit2)]
                    rw [List.getElem?_append] at hd
                    simp only [List.length_take, Nat.min_eq_left (show a.toNat * ie.size ≤ l.length by omega)] at hd
                    split at hd
                    · rename_i hj
                      rw [List.getElem?_take, if_pos hj] at hd
                      obtain ⟨v, hv, hr⟩ := hc j d hd
                      rw [if_pos (by omega)]
                      exact ⟨v, hv, hr.mono (Emb.le_put hn)⟩
                    · rename_i hj
                      obtain ⟨v, hv, hr⟩ := hvn.get hd
                      have hlt := (List.getElem?_eq_some_iff.1 hv).1
                      rw [if_neg (by omega), if_pos (by omega)]
                      exact ⟨v, by rw [hden, hbase, Nat.zero_add]; exact hv, hr.mono (Emb.le_put hn)⟩
              · have := app_grow (h := h.set id .dead) (sLen := a.toNat) (sCap := m.κ id) (olds := l.take (a.toNat * ie.size)) (hH.kill id) hf ht hie hz hzl hby hseg' hvn (by
                  have h2 := hold; rw [hbase] at h2; simpa using h2) (by simp; omega) hs (by omega) hsmall hrun
                obtain ⟨nx, v, w', m', h1, h2, h3, h4, h5, h6⟩ := this
                rw [hak] at h3
                exact ⟨nx, v, w', m', h1, h2, h3, h4, h5.kill, h6⟩
            · cases hd
          · rename_i cc
            split at hd
            · rename_i hroom
              split at hd
              · rename_i hc2
                cases hd
                obtain ⟨hro, hfit2⟩ := hc2
                simp only [Cap.den, E.ev, Sc.int_I] at hcap hrun
                have hfr : fr = (0, 0) := Md.fr_of hmd hro
                subst hfr
                have hrw : (Blk.cells l t0 md).rw = true := hro
                rw [Nat.add_mul] at hfit2
                have hfit3 : o.den ρ + a.toNat * ie.size + vn.length ≤ c.size := by rw [hden]; omega
                have hr0 := hrun _ _ (run_append_row w ht hie hs ho (by omega) hfit3)
                have hsz : ((c.toList.take (o.den ρ + a.toNat * ie.size) ++ vn ++ c.toList.drop (o.den ρ + a.toNat * ie.size + vn.length)).toArray).size = c.size := by
                  simp only [List.size_toArray, List.length_append, List.length_take, List.length_drop, Array.length_toList]; omega
                have hsl : (setL l (o.base + a.toNat * ie.size) news).length = l.length := by unfold setL; simp; omega
                refine ⟨_, _, _, m, hr0, .inl rfl, ?_, ?_, Trans.write hg hrw hb (fun k hk => setRow_other w b k _ hk) (by simp) rfl rfl rfl, hf⟩
                · simp only [DV.R, E.ev, Sc.int_I, Cap.den]
                  refine ⟨b, hb, ?_, by omega, by omega⟩
                  have : (a + (k : Int)).toNat = a.toNat + k := by omega
                  rw [this]
                · refine hH.write hg hrw hb (setRow_heap w b c _ t' (0, 0) ho) ⟨_, _, ⟨_, rfl⟩, by rw [hsz, hsl]; exact hle, fun j d hd => ?_, ?_⟩ hro (fun k hk => setRow_other w b k _ hk)
                  · rw [splice_get (by simpa using hfit3), hden]
                    rw [setL_get (by omega)] at hd
                    split at hd
                    · rename_i hj; rw [if_pos hj]; exact hc j d hd
                    · rename_i hj
                      rw [if_neg hj]
                      split at hd
                      · rename_i hj2
                        obtain ⟨v, hv, hr⟩ := hvn.get hd
                        rw [if_pos (by omega)]
                        exact ⟨v, hv, hr⟩
                      · rename_i hj2; rw [if_neg (by omega)]; exact hc j d hd
                  · cases md with
                    | ro => cases hro
                    | gl g => cases hro
                    | reg l => cases hro
                    | rw => rfl
                    | own s => exact ⟨rfl, by rw [hsz]; exact hmd.2⟩
              · cases hd
            · rename_i hroom
              cases hd
              simp only [Cap.den, E.ev, Sc.int_I] at hcap hold hrun
              have := app_grow (sLen := a.toNat) (sCap := cc.toNat) hH hf ht hie hz hzl hby hseg hvn hold (by simp; omega) hs (by omega) hsmall hrun
              rw [hak] at this
              exact this
          · cases hd
        · cases hd
      · cases hd
  · cases hd

theorem copyD_sound {m : Emb} {ρ : Env} {h : T Blk} {n : Nat} {w : World} (hH : HeapR m ρ h w) (hf : ∀ id, n ≤ id → m.ι id = none) {t tx ty e : TypeId} {rest : List TypeId} {ie : TypeInfo} (ht : P.underlying t = some (.slice e)) (hie : P.info? e = some ie)
    {d : DV} {vd x : Value} {k : Nat} {news : List DV} {vn : List Value} (hvd : d.R m ρ vd) (hvn : DV.RL m ρ news vn) (hs : Src P ie.size tx x k vn w) (hfirst : ∀ n, n ≤ k → (Builtin.firstCells ie.size n x).run P w = .ok (vn.take (n * ie.size)).toArray w)
    {r : Out} (hd : copyD h n ie.size d k news = some r) {run : Result Next} (hrun : ∀ v w', (Builtin.copy_ (t :: tx :: rest).toArray ty #[vd, x]).run P w = .ok v w' → run = .ok (.value v) w') : OpOk m ρ h w run r := by
  have hnl := hs.newsLen
  have hvn' := hvn.length
  have same : ∀ {v : Value} {d : DV}, d.R m ρ v → run = .ok (.value v) w → OpOk m ρ h w run ⟨d, h, n⟩ := fun {v d} hr hrn => ⟨_, v, w, m, hrn, .inl rfl, hr, hH, Trans.refl m h w, hf⟩
  have hz := hfirst 0 (Nat.zero_le _)
  have zero : ∀ {base : Option Addr} {c : Nat}, (Builtin.copy_ (t :: tx :: rest).toArray ty #[.slice base 0 c, x]).run P w = .ok (.int .i64 0) w := by
    intro base c
    simp only [Nat.zero_mul, List.take_zero] at hz
    cases base <;> simp [Builtin.copy_, run_underlying ht, sizeOf, typeInfo, hie, hs.len, hz, storeCells, goInt]
  unfold copyD at hd
  split at hd
  · cases hd
    simp only [DV.R] at hvd; subst hvd
    exact same rfl (hrun _ _ zero)
  · cases hd
    simp only [DV.R] at hvd
    obtain ⟨a, c, rfl⟩ := hvd
    exact same rfl (hrun _ _ zero)
  · rename_i id o a cap
    split at hd
    · rename_i l t0 md hterms hg
      split at hd
      · rename_i hcond
        cases hd
        obtain ⟨h0, hro, hfit⟩ := hcond
        simp only [DV.R, E.ev, Sc.int_I] at hvd
        obtain ⟨b, hb, rfl, _, _⟩ := hvd
        obtain ⟨b', ob, hb', ho, c, fr, ⟨t', rfl⟩, hle, hc, hmd⟩ := hH.blk id _ hg rfl
        rw [hb] at hb'; cases hb'
        have hden : o.den ρ = o.base := by simp [Off.den, hterms, sumT]
        have hfr := Md.fr_of hmd hro
        subst hfr
        have hrw : (Blk.cells l t0 md).rw = true := hro
        have hmin : min k a.toNat ≤ k := Nat.min_le_left _ _
        have hlt : (min k a.toNat) * ie.size ≤ k * ie.size := Nat.mul_le_mul_right _ hmin
        have htl : (vn.take ((min k a.toNat) * ie.size)).length = (min k a.toNat) * ie.size := by rw [List.length_take]; omega
        have htl' : (news.take ((min k a.toNat) * ie.size)).length = (min k a.toNat) * ie.size := by rw [List.length_take]; omega
        have hvt := hvn.take ((min k a.toNat) * ie.size)
        have hfit3 : o.den ρ + (vn.take ((min k a.toNat) * ie.size)).length ≤ c.size := by rw [htl, hden]; omega
        have h1 : ∀ u ∈ vn.take ((min k a.toNat) * ie.size), u.oneCell' = true := fun u hu => hs.one u (List.mem_of_mem_take hu)
        have hst := run_storeCells_at (P := P) b (o.den ρ) t' _ 0 c w ho (by simpa using hfit3) h1
        simp only [Nat.add_zero] at hst
        have hf1 := hfirst _ hmin
        have hr0 : (Builtin.copy_ (t :: tx :: rest).toArray ty #[.slice (some ⟨b, o.den ρ, none⟩) a.toNat (cap.den m ρ id), x]).run P w = .ok (.int .i64 ((min k a.toNat : Nat) : Int))
            (w.setRow b (c.toList.take (o.den ρ) ++ vn.take ((min k a.toNat) * ie.size) ++ c.toList.drop (o.den ρ + (vn.take ((min k a.toNat) * ie.size)).length)).toArray) := by
          have hf2 : (Builtin.firstCells ie.size (Nat.min k a.toNat) x).run P w = .ok (vn.take ((min k a.toNat) * ie.size)).toArray w := hf1
          simp [Builtin.copy_, run_underlying ht, sizeOf, typeInfo, hie, hs.len, hf2, hst, goInt]
        have hsz : ((c.toList.take (o.den ρ) ++ vn.take ((min k a.toNat) * ie.size) ++ c.toList.drop (o.den ρ + (vn.take ((min k a.toNat) * ie.size)).length)).toArray).size = c.size := by
          simp only [List.size_toArray, List.length_append, List.length_drop, Array.length_toList, htl]
          rw [List.length_take, Array.length_toList]
          omega
        have hsl : (setL l o.base (news.take ((min k a.toNat) * ie.size))).length = l.length := by
          unfold setL
          simp only [List.length_append, List.length_drop, htl']
          rw [List.length_take]
          omega
        refine ⟨_, _, _, m, hrun _ _ hr0, .inl rfl, rfl, ?_, Trans.write hg hrw hb (fun k hk => setRow_other w b k _ hk) (by simp) rfl rfl rfl, hf⟩
        refine hH.write hg hrw hb (setRow_heap w b c _ t' (0, 0) ho) ⟨_, _, ⟨_, rfl⟩, by rw [hsz, hsl]; exact hle, fun j d hd => ?_, ?_⟩ hro (fun k hk => setRow_other w b k _ hk)
        · rw [splice_get hfit3, hden]
          rw [setL_get (by rw [htl']; exact hfit)] at hd
          rw [htl'] at hd
          rw [htl]
          split at hd
          · rename_i hj; rw [if_pos hj]; exact hc j d hd
          · rename_i hj
            rw [if_neg hj]
            split at hd
            · rename_i hj2
              obtain ⟨v, hv, hr⟩ := hvt.get hd
              rw [if_pos hj2]
              exact ⟨v, hv, hr⟩
            · rename_i hj2; rw [if_neg hj2]; exact hc j d hd
        · cases md with
          | ro => cases hro
          | gl g => cases hro
          | reg l => cases hro
          | rw => rfl
          | own s => exact ⟨rfl, by rw [hsz]; exact hmd.2⟩
      · cases hd
    · cases hd
  · cases hd

theorem memB_sound {m : Emb} {ρ : Env} {h : T Blk} {n : Nat} {t : T DV} {a : Act} {w : World} (hH : HeapR m ρ h w) (ht : TmpR m ρ t a) (hf : ∀ id, n ≤ id → m.ι id = none) {o : Oper} {r : Out}
    (hd : memB P h n t o.op = some r) : OpOk m ρ h w ((execOp a.eval o).run P w) r := by
  obtain ⟨dst, op, type, pos, after, guard⟩ := o
  simp only at hd
  cases op <;> simp only [memB, reduceCtorEq] at hd
  case call c =>
    obtain ⟨callee, args, argTypes⟩ := c
    simp only at hd
    split at hd
    · rename_i d0 d1 hargs
      have hA := opds_R ht hargs
      simp only [DV.RL] at hA
      obtain ⟨v0, vr, he, hR, v1, vr', rfl, hR1, rfl⟩ := hA
      have hmap : args.map a.eval = #[v0, v1] := Array.toList_inj.1 (by rw [Array.toList_map]; exact he)
      split at hd
      · rename_i td tx rest hty
        split at hd
        · rename_i e hu
          split at hd
          · rename_i ie hie
            split at hd
            · rename_i k news hnews
              obtain ⟨vn, hs, hvn, hfirst⟩ := newsD_sound (P := P) hH hnews hR1
              refine copyD_sound (ty := type) (rest := rest) hH hf hu hie hR hvn hs hfirst hd fun v w' hv => ?_
              have hAT : argTypes = (td :: tx :: rest).toArray := by rw [← hty]
              rw [← hAT] at hv
              simp [execOp, resolve, hmap, invoke, builtin, hv]
            · cases hd
          · cases hd
        · cases hd
      · cases hd
    · rename_i d0 d1 hargs
      have hA := opds_R ht hargs
      simp only [DV.RL] at hA
      obtain ⟨v0, vr, he, hR, v1, vr', rfl, hR1, rfl⟩ := hA
      have hmap : args.map a.eval = #[v0, v1] := Array.toList_inj.1 (by rw [Array.toList_map]; exact he)
      split at hd
      · rename_i ts tx rest hty
        split at hd
        · rename_i e hu
          split at hd
          · rename_i ie z hie hz
            split at hd
            · rename_i hcond
              split at hd
              · rename_i k news hnews
                obtain ⟨vn, hs, hvn, _⟩ := newsD_sound (P := P) hH hnews hR1
                refine appD_sound (ty := type) hH hf hu hie hz hcond.2.1 hcond.1 hR hvn hs hd fun v w' hv => ?_
                have hAT : argTypes = (ts :: tx :: rest).toArray := by rw [← hty]
                have : (Builtin.append_ argTypes type #[v0, v1]) = Builtin.append_ #[ts, tx] type #[v0, v1] := by
                  rw [hAT]; rfl
                simp [execOp, resolve, hmap, invoke, builtin, this, hv]
              · cases hd
            · cases hd
          · cases hd
        · cases hd
      · cases hd
    · cases hd
  all_goals simp at hd

theorem memAB_sound {m : Emb} {ρ : Env} (hF : F.ok ρ) {h : T Blk} {n : Nat} {t : T DV} {a : Act} {w : World} (hH : HeapR m ρ h w) (ht : TmpR m ρ t a) (hf : ∀ id, n ≤ id → m.ι id = none) {o : Oper} {r : Out}
    (hd : memAB P F h n t o.op = some r) : OpOk m ρ h w ((execOp a.eval o).run P w) r := by
  unfold memAB at hd
  split at hd
  · rename_i r' h'; cases hd; exact memA_sound hF hH ht hf h'
  · exact memB_sound hH ht hf hd
end
end Go.Eng
