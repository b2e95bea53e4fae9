import PyProof.Rows.All
import Wide.All
import OpenK.AllK
import Wide.FinOn
import PyProof.EqAt
import PyProof.EqKinds
import PyProof.TupleCall
import Open.SpecLaws
import KE.OsGo
import HandS.ForSpec
import HandS.Comp
import HandS.Codes
import HandS.ExcInit
import HandS.ExcField
import PySem.Challenge.RW_patternmeans_s07_quote
set_option Elab.async false
set_option linter.all false
set_option maxRecDepth 100000
set_option maxHeartbeats 4000000


/-! Own layer: rooms that count single calls, promises of defs under them, calls and makings by bundles. -/
namespace Pm
open PySem PySem.Spec PyProof.Rows L2

/-- room for n calls, one in another -/
structure RoomF (n : Nat) (A : Around) : Prop where
  hd : A.handled = none
  dp : A.depth + n < 1000
  un : A.units + 5 * n + 300 < 9900
theorem RoomF.mono {m n : Nat} {A : Around} (r : RoomF n A) (h : m ≤ n) : RoomF m A :=
  ⟨r.hd, by have a := r.dp; omega, by have a := r.un; omega⟩
theorem RoomF.room {k n : Nat} {A : Around} (r : RoomF n A) (h : 3 * k + 5 ≤ n) (h2 : k ≤ 100 := by decide) : Room k A :=
  ⟨r.hd, by have a := r.dp; show A.depth + 3 * k + 5 < 1000; omega, by have a := r.un; show A.units + 16 * k + 200 < 9900; omega⟩
theorem RoomF.deeper {n : Nat} {A : Around} (r : RoomF (n + 1) A) (env : Env) : RoomF n (A.deeper env) :=
  ⟨r.hd, by have a := r.dp; show A.depth + 1 + n < 1000; omega, by have a := r.un; show A.units + 3 + 5 * n + 300 < 9900; omega⟩
theorem RoomF.make {n : Nat} {A : Around} (r : RoomF (n + 1) A) (C : Addr) (us : List Value) (kw : List (Str × Value)) : RoomF n (A.under (.builtin "type.__call__" ⟨.ref C :: us, kw⟩)) :=
  ⟨r.hd, by have a := r.dp; rw [make_depth]; omega, by have a := r.un; rw [make_units]; omega⟩
theorem RoomF.of {A : Around} (r : Room 220 A) : RoomF 660 A :=
  ⟨r.hd, by have a : A.depth + 3 * 220 + 5 < 1000 := r.dp
            omega, by have a : A.units + 16 * 220 + 200 < 9900 := r.un
                      omega⟩
theorem RoomF.hu {n : Nat} {A : Around} (r : RoomF n A) : A.units + 1 < cLine := by
  have a := r.un
  show A.units + 1 < 9900
  omega
theorem RoomF.hu64 {n : Nat} {A : Around} (r : RoomF n A) : A.units + 64 < cLine := by
  have a := r.un
  show A.units + 64 < 9900
  omega

/-- a def's promise where there is room for n calls -/
structure FnF (P : Program) (w : World) (K : PySem.W.Frag) (mg : Str → Option Value) (base : Heap) (CX : CXT) (n : Nat) (f : Addr) (fd : FuncData) (ps : List Str) (sp : Sp) : Prop where
  len : ∀ vs H Q E, sp vs H Q E → vs.length = ps.length
  run : ∀ (A : Around) (outer : List Env) (s : Shared) (H : Hp) (args : Args) (us : List Value) (vs : List V) (Q : VK) (E : XK), RoomF n A → Env0 P w K mg base A outer s H → BindsTo s fd args (ps.zip us) →
    Vals vs us → sp vs H Q E → codeAny (model P w) A (.call (.ref f) args) (CR CX outer P w H s Q E) s
section
variable {P : Program} {w : World} {K : PySem.W.Frag} {mg : Str → Option Value} {base : Heap} {CX : CXT} {n m k : Nat} {f : Addr} {fd : FuncData} {ps : List Str} {sp sp' : Sp}
theorem FnF.mono (F : FnF P w K mg base CX m f fd ps sp) (h : m ≤ n) : FnF P w K mg base CX n f fd ps sp :=
  ⟨F.len, fun A outer s H args us vs Q E hr => F.run A outer s H args us vs Q E (hr.mono h)⟩
theorem FnF.imp (F : FnF P w K mg base CX n f fd ps sp) (h : ∀ vs H Q E, sp' vs H Q E → sp vs H Q E) : FnF P w K mg base CX n f fd ps sp' :=
  ⟨fun vs H Q E q => F.len vs H Q E (h _ _ _ _ q), fun A outer s H args us vs Q E r1 r2 r3 r4 q => F.run A outer s H args us vs Q E r1 r2 r3 r4 (h _ _ _ _ q)⟩
theorem FnF.of_ok (F : FnOk P w K mg base CX k f fd ps sp) (h : 3 * k + 5 ≤ n) (h2 : k ≤ 100 := by decide) : FnF P w K mg base CX n f fd ps sp :=
  ⟨F.len, fun A outer s H args us vs Q E hr => F.run A outer s H args us vs Q E (hr.room h h2)⟩
theorem FnF.ok220 (F : FnF P w K mg base CX n f fd ps sp) (h : n ≤ 660) : FnOk P w K mg base CX 220 f fd ps sp :=
  ⟨F.len, fun A outer s H args us vs Q E hr => F.run A outer s H args us vs Q E ((RoomF.of hr).mono h)⟩
/-- a def by its body -/
theorem fnF_of {x qual : Str} {st : Stmt} {N : List Str} (F : Fun K x qual st f fd) (S : FnScope N ps (defScope st)) (len : ∀ vs H Q E, sp vs H Q E → vs.length = ps.length)
    (hb : ∀ (cdv : Value) (A : Around) (outer : List Env) (s : Shared) (H : Hp) (vs : List V) (Q : VK) (E : XK), RoomF n (A.deeper (envOfC qual (defScope st) s.heap.objs.size f cdv)) → sp vs H Q E →
      ∃ t, PSs (cxOf CX P w K mg base N qual (defScope st) f cdv A outer s H E) (defBody st) t ∧ t { nx := fun _ H' => Q .non H', rt := Q } (start N vs) H) : FnF P w K mg base CX (n + 1) f fd ps sp := by
  obtain ⟨oc, od, kV, doc, pm, an, cdv, ct, osl, e0, lk, hcd⟩ := F.ex
  subst e0
  refine ⟨len, fun A outer s H args us vs Q E hr e0 bd r hsp => ?_⟩
  have hl := len _ _ _ _ hsp
  have KX : K.In s.heap := e0.mod.kin.keeps fun b o e => (e0.bs b o e).1
  have lim : s.heap.NoLimit := e0.mod.nolimit.keeps fun b o e => (e0.bs b o e).1
  have kinds : ∀ y ∈ ps.zip us, (defScope st).names.lookup y.1 = some .local ∨ ((defScope st).names.lookup y.1 = some .cell ∧ ((cellsFrom (s.heap.objs.size + 1) (defScope st).names []).lookup y.1).isSome = true) := by
    rintro ⟨nm, v⟩ hy
    rcases S.par nm (List.of_mem_zip hy).1 with q | q
    · exact .inl q
    · exact .inr ⟨q, PySem.W.cellsFrom_some _ _ _ (.inl q)⟩
  have hdep : A.depth < recursionLimit := by
    have a := hr.dp
    show A.depth < 1000
    omega
  refine codeAny_call_function hdep (KX _ _ lk) rfl S.co S.gen rfl (PySem.W.codeRec_of KX hcd) (bd _ _ _ _ ?_)
  refine wpAny_newFunctionEnv_cells S.kind kinds fun env he s1 x => ?_
  subst he
  refine ⟨lim.keeps x.toInCall.keep, codeAny_func ?_⟩
  obtain ⟨t, ht, hq⟩ := hb cdv A outer s H vs Q E (hr.deeper _) hsp
  have I : Inv (cxOf CX P w K mg base N qual (defScope st) f cdv A outer s H E) [] (start N vs) H s1 := inv_start S hr.hd e0 hl r x
  refine wpAny_mono (ht.run [] s1 (start N vs) H _ I hq) (fun fl s' hs => ?_) fun e s' hs => hs
  cases fl with
  | ret u =>
    obtain ⟨v, σ', H', J, rv, q⟩ := hs
    exact ⟨v, H', J.os, J.bare, J.base, J.hok, rv, q⟩
  | next =>
    obtain ⟨σ', H', J, q⟩ := hs
    exact ⟨V.non, H', J.os, J.bare, J.base, J.hok, rfl, q⟩
  | brk =>
    obtain ⟨_, _, _, q⟩ := hs
    exact False.elim q
  | cont =>
    obtain ⟨_, _, _, q⟩ := hs
    exact False.elim q
end

/-- a name of the module that holds a def with a promise -/
def CalF (P : Program) (w : World) (K : PySem.W.Frag) (mg : Str → Option Value) (base : Heap) (CX : CXT) (n : Nat) (x : Str) (sp : Sp) : Prop :=
  ∃ (f : Addr) (fd : FuncData) (ps : List Str), FnF P w K mg base CX n f fd ps sp ∧ mg x = some (.ref f) ∧ PySem.W.keepIn K (.ref f) = true ∧ Binds K fd ps []
/-- a name of the module that holds a class, made by an __init__ with a promise -/
def MakF (P : Program) (w : World) (K : PySem.W.Frag) (mg : Str → Option Value) (base : Heap) (CX : CXT) (n : Nat) (x : Str) (C : Addr) (sp : Sp) : Prop :=
  ∃ (f : Addr) (fd : FuncData) (ps : List Str), Mk K C f ∧ FnF P w K mg base CX n f fd ps sp ∧ mg x = some (.ref C) ∧ Binds K fd ps []
section
variable {X : Cx} {CX : CXT} {n m : Nat} {f C : Addr} {fd : FuncData} {ps : List Str} {sp : Sp} {E : XK} {x : Str} {p pos : Pos} {e : Expr} {es : List Expr} {t : TA}
/-- the callee runs -/
theorem runF {pins : List (Addr × Obj)} {σ : L2.St} {H : Hp} {s : Shared} {Q : VK} {us : List Value} {vs : List V} (F : FnF X.prog X.w X.K X.mg X.base CX n f fd ps sp) (hr : RoomF n X.A) (hb : Binds X.K fd ps [])
    (hx : ∀ e s', CX X.stack H s E e s' → X.xe e s') (I : Inv X pins σ H s) (r : Vals vs us) (h : sp vs H Q E) : wpAny (model X.prog X.w) X.A (call (.ref f) us) (EP X pins σ Q) X.xe s := by
  have hl : us.length = ps.length := by rw [← r.length]; exact F.len _ _ _ _ h
  have bd := hb s us I.kIn (by rw [List.append_nil]; exact hl)
  rw [List.append_nil] at bd
  refine wpAny_call (codeAny_mono (F.run X.A X.stack s H ⟨us, []⟩ us vs Q E hr I.env0 bd r h) fun r s' hq => ?_)
  cases r with
  | error e => exact hx e s' hq
  | ok fl =>
    cases fl with
    | ret u => exact I.after hq
    | next => exact False.elim hq
    | brk => exact False.elim hq
    | cont => exact False.elim hq
/-- f(e, ..) -/
def tCallF (sp : Sp) (E : XK) (t : TA) : TE := fun σ H Q => t σ H fun vs H1 => sp vs H1 Q E
theorem pe_cf (c : CalF X.prog X.w X.K X.mg X.base CX n x sp) (hr : RoomF m X.A) (hn : n ≤ m) (hx : Passes CX X E) (ha : PA X (e :: es) t) (hg : Gl X x := by rfl)
    (hdb : (x == ("__debug__" : Str)) = false := by decide) (he : starEach (e :: es) X.env = (false, eval e X.env) :: starEach es X.env := by rfl) (hpl : (backTo pos (starEach es X.env)).any (·.1) = false := by rfl) :
    PE X (.Call (.Name x p) (e :: es) [] pos) (tCallF sp E t) := by
  obtain ⟨f, fd, ps, F, hm, hk, hb⟩ := c
  refine ⟨fun pins s σ H Q I h => ?_⟩
  refine wpAny_Call_Name_kw (ld_glob I hg hm ?_ hdb)
  refine PySem.W.callWith_K (h₀ := X.base) I.ok.mod.kin hk (thn (ha.run pos pins s σ H _ I h) fun us s1 ⟨vs, H1, I1, r, q⟩ => ⟨I1.kIn, ?_⟩) he hpl
  exact runF F (hr.mono hn) hb (fun e s' z => hx pins σ H1 s1 e s' I1 z) I1 r q
/-- the same within a try -/
theorem pe_cfS {E : L2.St → XK} (c : CalF X.prog X.w X.K X.mg X.base CX n x sp) (hr : RoomF m X.A) (hn : n ≤ m) (hx : ∀ σ, PassesAt CX X σ (E σ)) (ha : PA X (e :: es) t) (hg : Gl X x := by rfl)
    (hdb : (x == ("__debug__" : Str)) = false := by decide) (he : starEach (e :: es) X.env = (false, eval e X.env) :: starEach es X.env := by rfl) (hpl : (backTo pos (starEach es X.env)).any (·.1) = false := by rfl) :
    PE X (.Call (.Name x p) (e :: es) [] pos) (tCallS sp E t) := by
  obtain ⟨f, fd, ps, F, hm, hk, hb⟩ := c
  refine ⟨fun pins s σ H Q I h => ?_⟩
  refine wpAny_Call_Name_kw (ld_glob I hg hm ?_ hdb)
  refine PySem.W.callWith_K (h₀ := X.base) I.ok.mod.kin hk (thn (ha.run pos pins s σ H _ I h) fun us s1 ⟨vs, H1, I1, r, q⟩ => ⟨I1.kIn, ?_⟩) he hpl
  exact runF F (hr.mono hn) hb (fun e s' z => hx σ pins H1 s1 e s' I1 z) I1 r q
/-- an instance is made -/
theorem runMakeF {pins : List (Addr × Obj)} {σ : L2.St} {H : Hp} {s : Shared} {Q : VK} {us : List Value} {vs : List V} (M : Mk X.K C f) (F : FnF X.prog X.w X.K X.mg X.base CX n f fd ps sp) (hr : RoomF (n + 1) X.A) (hb : Binds X.K fd ps [])
    (hx : Passes CX X E) (I : Inv X pins σ H s) (r : Vals vs us)
    (h : ∀ x dx, H x = none → H dx = none → dx ≠ x → sp (.ref x :: vs) (upd (upd H dx (.own x)) x (.ins C dx [])) (fun v H2 => v = .non ∧ Q (.ref x) H2) E) :
    wpAny (model X.prog X.w) X.A (call (.ref C) us) (EP X pins σ Q) X.xe s := by
  have hq := h (s.heap.objs.size + 1) s.heap.objs.size (I.hok.fresh (Nat.le_succ _)) (I.hok.fresh (Nat.le_refl _)) (Nat.ne_of_lt (Nat.lt_succ_self _))
  have I2 := Inv.made (C := C) I
  have r2 : Vals (V.ref (s.heap.objs.size + 1) :: vs) (Value.ref (s.heap.objs.size + 1) :: us) := .cons rfl r
  have hl : (Value.ref (s.heap.objs.size + 1) :: us).length = ps.length := by
    rw [← r2.length]
    exact F.len _ _ _ _ hq
  have bd := hb _ (Value.ref (s.heap.objs.size + 1) :: us) I2.kIn (by rw [List.append_nil]; exact hl)
  rw [List.append_nil] at bd
  refine wpAny_call (make_map (f := f) I.kIn M.makes M.init (beq_iff_eq.mp M.fn) (codeAny_mono (F.run _ X.stack _ _ ⟨Value.ref (s.heap.objs.size + 1) :: us, []⟩ _ _ _ E (hr.make C us [])
    (I2.env0.make C us []) bd r2 hq) fun r s' hq' => ?_))
  cases r with
  | error e => exact hx pins σ _ _ e s' I2 hq'
  | ok fl =>
    cases fl with
    | ret u =>
      obtain ⟨v, H', I3, rv, ev, q3⟩ := I2.after hq'
      subst ev
      exact ⟨rv, ⟨V.ref (s.heap.objs.size + 1), H', I3, rfl, q3⟩⟩
    | next => exact False.elim hq'
    | brk => exact False.elim hq'
    | cont => exact False.elim hq'
/-- C(e, ..) -/
def tMakeF (C : Addr) (sp : Sp) (E : XK) (t : TA) : TE := fun σ H Q => t σ H fun vs H1 => ∀ x dx, H1 x = none → H1 dx = none → dx ≠ x →
  sp (.ref x :: vs) (upd (upd H1 dx (.own x)) x (.ins C dx [])) (fun v H2 => v = .non ∧ Q (.ref x) H2) E
theorem pe_mf (c : MakF X.prog X.w X.K X.mg X.base CX n x C sp) (hr : RoomF m X.A) (hn : n + 1 ≤ m) (hx : Passes CX X E) (ha : PA X (e :: es) t) (hg : Gl X x := by rfl)
    (hdb : (x == ("__debug__" : Str)) = false := by decide) (he : starEach (e :: es) X.env = (false, eval e X.env) :: starEach es X.env := by rfl) (hpl : (backTo pos (starEach es X.env)).any (·.1) = false := by rfl) :
    PE X (.Call (.Name x p) (e :: es) [] pos) (tMakeF C sp E t) := by
  obtain ⟨f, fd, ps, M, F, hm, hb⟩ := c
  refine ⟨fun pins s σ H Q I h => ?_⟩
  refine wpAny_Call_Name_kw (ld_glob I hg hm ?_ hdb)
  refine PySem.W.callWith_K (h₀ := X.base) I.ok.mod.kin M.kp (thn (ha.run pos pins s σ H _ I h) fun us s1 ⟨vs, H1, I1, r, q⟩ => ⟨I1.kIn, ?_⟩) he hpl
  exact runMakeF M F (hr.mono hn) hb hx I1 r q
end
/-- a def of the text, as it stands behind the top -/
def DefT (K : PySem.W.Frag) (mg : Str → Option Value) (x : Str) (st : Stmt) (ps : List Str) : Prop :=
  ∃ (f : Addr) (fd : FuncData), Fun K x x st f fd ∧ mg x = some (.ref f) ∧ ∀ (s : Shared) (us : List Value), us.length = ps.length → BindsTo s fd ⟨us, []⟩ (ps.zip us)
section
variable {P : Program} {w : World} {K : PySem.W.Frag} {mg : Str → Option Value} {base : Heap} {CX : CXT} {n : Nat} {ps N : List Str} {sp : Sp} {x : Str} {st : Stmt}
theorem binds_all {fd : FuncData} (h : ∀ (s : Shared) (us : List Value), us.length = ps.length → BindsTo s fd ⟨us, []⟩ (ps.zip us)) : Binds K fd ps [] := fun s us _ hl => by
  rw [List.append_nil] at hl ⊢
  exact h s us hl
theorem cal (D : DefT K mg x st ps) (S : FnScope N ps (defScope st)) (len : ∀ vs H Q E, sp vs H Q E → vs.length = ps.length)
    (hb : ∀ (f : Addr) (cdv : Value) (A : Around) (outer : List Env) (s : Shared) (H : Hp) (vs : List V) (Q : VK) (E : XK), RoomF n (A.deeper (envOfC x (defScope st) s.heap.objs.size f cdv)) → sp vs H Q E →
      ∃ t, PSs (cxOf CX P w K mg base N x (defScope st) f cdv A outer s H E) (defBody st) t ∧ t { nx := fun _ H' => Q .non H', rt := Q } (start N vs) H) : CalF P w K mg base CX (n + 1) x sp := by
  obtain ⟨f, fd, F, hm, hbd⟩ := D
  exact ⟨f, fd, ps, fnF_of F S len (hb f), hm, F.kp, binds_all hbd⟩
/-- the row's own def -/
theorem mainF {fa : Addr} (hfa : mg x = some (.ref fa)) (D : DefT K mg x st ps) (S : FnScope N ps (defScope st)) (len : ∀ vs H Q E, sp vs H Q E → vs.length = ps.length) (hn : n + 1 ≤ 660)
    (hb : ∀ (base : Heap) (f : Addr) (cdv : Value) (A : Around) (outer : List Env) (s : Shared) (H : Hp) (vs : List V) (Q : VK) (E : XK), RoomF n (A.deeper (envOfC x (defScope st) s.heap.objs.size f cdv)) → sp vs H Q E →
      ∃ t, PSs (cxOf CX P w K mg base N x (defScope st) f cdv A outer s H E) (defBody st) t ∧ t { nx := fun _ H' => Q .non H', rt := Q } (start N vs) H) :
    ∃ fd : FuncData, (∀ (s : Shared) (us : List Value), us.length = ps.length → BindsTo s fd ⟨us, []⟩ (ps.zip us)) ∧ ∀ base : Heap, K.In base → base.Ns mainGlobals mg → FnOk P w K mg base CX 220 fa fd ps sp := by
  obtain ⟨f, fd, F, hm, hbd⟩ := D
  rw [hfa] at hm
  cases hm
  exact ⟨fd, hbd, fun base _ _ => (fnF_of F S len (hb base fa)).ok220 hn⟩
end
/-- a constant of the module, by its value -/
theorem pe_gc {X : Cx} {x : Str} {v : V} {pos : Pos} (hg : Gl X x) (g : ∃ u, X.mg x = some u ∧ RelV v u) (hd : (x == ("__debug__" : Str)) = false := by decide) : PE X (.Name x pos) (tC v) := by
  obtain ⟨u, m, r⟩ := g
  exact pe_glob hg m r hd
/-! rules with the written part as a letter -/
section
variable {X : Cx} {K : PySem.W.Frag}
def rLenK (K : PySem.W.Frag) : List V → Hp → VK → Prop := fun xs H Q => ∃ p ys, xs = [.ref p] ∧ (SqL K H p ys ∨ SqT K H p ys) ∧ Q (.int (ys.length : Nat)) H
theorem call_lenK (h : X.K = K) : CallR X (.builtin "len") (rLenK K) := by
  subst h
  exact call_len_seq
theorem ix_listK (h : X.K = K) : IxR X (rIxL K) := by
  subst h
  exact ix_list
theorem ix_tupK (h : X.K = K) : IxR X (rIxT K) := by
  subst h
  exact ix_tup
theorem op_inK (h : X.K = K) : OpR X (compareOp .In) (rIn K false) := by
  subst h
  exact op_in_seq
theorem op_notinK (h : X.K = K) : OpR X (compareOp .NotIn) (rIn K true) := by
  subst h
  exact op_notIn_seq
theorem pe_fldK {e : Expr} {f : Str} {pos : Pos} {ta : TE} (h : X.K = K) (he : PE X e ta) (hb : attributeBase e f X.env (eval e X.env) = eval e X.env := by rfl) : PE X (.Attribute e f pos) (tFld K ta f) := by
  subst h
  exact pe_fld he hb
theorem ps_fldK {o value : Expr} {f : Str} {pos pos' : Pos} {ta tv : TE} (h : X.K = K) (ha : PE X o ta) (hv : PE X value tv) (hs : swapsWith value (some (.Attribute o f pos')) pos.line X.env = pure false := by rfl) :
    PS X (.Assign [.Attribute o f pos'] value pos) (sFld K ta tv f) := by
  subst h
  exact ps_fld ha hv hs
theorem pi_listK {tg l : Expr} {tl : TE} (h : X.K = K) (hl : PE X l tl) : PI X tg l (iList K tl) := by
  subst h
  exact pi_list hl
theorem sl_listK (h : X.K = K) : SlR X (rSlL K) := by
  subst h
  exact sl_list
end
/-- a constant of the module: a tuple -/
theorem tupK {K : PySem.W.Frag} {a : Addr} {xs : List V} {o : Obj} {its : Array Value} {n : Nat} (l : K.lookup a = some o) (hc : o.cls = .type "tuple") (hd : o.data = .seq its n) (hz : its.size ≤ 1000) (v : Vals xs its.toList) (H : Hp) : SqT K H a xs :=
  .inr ⟨o, its, n, l, hc, hd, Nat.le_of_lt (small1000 hz), v⟩
/-- an exception of a callee goes on to the caller's wish -/
theorem passX {X : Cx} {E : XK} (hs : X.stack = X.env :: X.outer) (hf : X.env.frame = some X.env.locals) (hex : X.ex = []) {E₁ : Value → Shared → Prop}
    (hx : X.xe = fun e s' => wpAny (model X.prog X.w) X.A (leaving X.env e) (fun _ s'' => L2.CX X.prog X.w X.outer X.H_0 X.s_0 E e s'') E₁ s') : Passes (L2.CX X.prog X.w) X E :=
  passes_call (takes_of hs hf hex hx) fun _ _ _ _ z => z
end Pm

namespace Pm
open PySem PySem.Spec PyProof.Rows L2
/-- the i-th statement of the text -/
def topS (i : Nat) : Stmt := PySem.Challenge.pw_patternmeans_s07_quote.main.body.getD i (.Pass ⟨0, 0, 0, 0⟩)
abbrev s_are_long : Stmt := topS 8
theorem sc_are_long : FnScope ["some", "one"] ["some"] (defScope s_are_long) := ⟨rfl, rfl, rfl, by decide +kernel, rfl, by decide +kernel, by decide +kernel⟩
abbrev s_told_bytes : Stmt := topS 9
theorem sc_told_bytes : FnScope ["some"] ["some"] (defScope s_told_bytes) := ⟨rfl, rfl, rfl, by decide +kernel, rfl, by decide +kernel, by decide +kernel⟩
abbrev s_hex_digit : Stmt := topS 10
theorem sc_hex_digit : FnScope ["number"] ["number"] (defScope s_hex_digit) := ⟨rfl, rfl, rfl, by decide +kernel, rfl, by decide +kernel, by decide +kernel⟩
abbrev s_quoted : Stmt := topS 11
theorem sc_quoted : FnScope ["byte"] ["byte"] (defScope s_quoted) := ⟨rfl, rfl, rfl, by decide +kernel, rfl, by decide +kernel, by decide +kernel⟩
abbrev s_quote : Stmt := topS 12
theorem sc_quote : FnScope ["subject", "found", "byte"] ["subject"] (defScope s_quote) := ⟨rfl, rfl, rfl, by decide +kernel, rfl, by decide +kernel, by decide +kernel⟩
/-- addresses of what the top has made -/
structure Cs where
  u : Unit
  NOT_PLAIN : Addr
/-- what the top has written -/
structure Txt (K : PySem.W.Frag) (mg : Str → Option Value) (c : Cs) : Prop where
  u : True
  g_TAB : ∃ u, mg "TAB" = some u ∧ RelV (V.int 9) u
  g_NEWLINE : ∃ u, mg "NEWLINE" = some u ∧ RelV (V.int 10) u
  g_REFUSED : ∃ u, mg "REFUSED" = some u ∧ RelV (V.int 9) u
  g_OUT_OF_BOUNDS : ∃ u, mg "OUT_OF_BOUNDS" = some u ∧ RelV (V.int 1) u
  g_MOST_BYTES : ∃ u, mg "MOST_BYTES" = some u ∧ RelV (V.int 200) u
  g_BACKSLASH : ∃ u, mg "BACKSLASH" = some u ∧ RelV (V.int 92) u
  g_NOT_PLAIN : ∃ u, mg "NOT_PLAIN" = some u ∧ RelV (V.ref c.NOT_PLAIN) u
  t_NOT_PLAIN : ∀ H, SqT K H c.NOT_PLAIN [V.int 92, V.int 124, V.int 38, V.int 126, V.int 42, V.int 43, V.int 63, V.int 123, V.int 125, V.int 46, V.int 94, V.int 36, V.int 40, V.int 41, V.int 91, V.int 93]
  z_len : mg "len" = none
  d_are_long : DefT K mg "are_long" s_are_long ["some"]
  d_told_bytes : DefT K mg "told_bytes" s_told_bytes ["some"]
  d_hex_digit : DefT K mg "hex_digit" s_hex_digit ["number"]
  d_quoted : DefT K mg "quoted" s_quoted ["byte"]
  d_quote : DefT K mg "quote" s_quote ["subject"]
end Pm

namespace Pm
open PySem PySem.Spec PyProof.Rows L2
/-- bytes as the program holds them -/
def cV (c : UInt8) : V := V.int (c.toNat : Int)
def bV (b : List UInt8) : List V := b.map cV
theorem bV_length (b : List UInt8) : (bV b).length = b.length := List.length_map _
theorem same_new {H : Hp} {p : Addr} (h : H p = none) (o : HO) : Same H (upd H p o) := fun b u q => by
  rw [upd_ne (ne_of_none q h)]
  exact q
/-- a comprehension's turn without an if -/
theorem yes {σ : L2.St} {H : Hp} {F G : Hp → Prop} (h : F H) : tYes σ H fun b H3 => if b = true then F H3 else G H3 := by
  show (if true = true then F H else G H)
  rw [if_pos rfl]
  exact h
theorem sz (n : Nat) (h : n ≤ 1000000 := by decide) : n ≤ sizeLine := Nat.le_trans h (by decide)
theorem take_more {α : Type} {l : List α} {i : Nat} {x : α} (h : l[i]? = some x) : l.take (i + 1) = l.take i ++ [x] := by
  rw [List.take_add_one, h]
  rfl
theorem take_all {α : Type} (l : List α) : l.take l.length = l := List.take_of_length_le (Nat.le_refl _)
theorem any_bl : ∀ bs : List Bool, (bs.map V.bl).all flatV = true
  | [] => rfl
  | _ :: r => any_bl r
theorem inV_bl : ∀ bs : List Bool, inV (.bl true) (bs.map V.bl) = bs.any id
  | [] => rfl
  | b :: r => by
    have ih := inV_bl r
    unfold inV at ih ⊢
    rw [List.map_cons, List.any_cons, List.any_cons, ih]
    cases b <;> rfl
/-- the request's whole numbers are bytes -/
theorem bytes_of {ns : List Int} (h : ∀ x ∈ ns, 0 ≤ x ∧ x ≤ 255) : ns.map V.int = bV (WrPattNeutral.text ns) := by
  induction ns with
  | nil => rfl
  | cons x r ih =>
    have hx := h x (List.mem_cons_self ..)
    have ir := ih fun y hy => h y (List.mem_cons_of_mem _ hy)
    show V.int x :: r.map V.int = cV (UInt8.ofNat x.toNat) :: bV (WrPattNeutral.text r)
    rw [ir]
    have e : ((UInt8.ofNat x.toNat).toNat : Int) = x := by
      rw [UInt8.toNat_ofNat']
      omega
    unfold cV
    rw [e]
theorem text_length (ns : List Int) : (WrPattNeutral.text ns).length = ns.length := List.length_map _
end Pm

namespace Pm
open PySem PySem.Spec PyProof.Rows L2
section
variable {P : Program} {w : World} {K : PySem.W.Frag} {mg : Str → Option Value} {base : Heap} {c : Cs}
/-- are_long(some) -/
def spAreLong (K : PySem.W.Frag) : Sp := fun vs H Q _ => ∃ (a : Addr) (ls : List (Addr × List V)), vs = [.ref a] ∧ SqL K H a (ls.map fun p => V.ref p.1) ∧ (∀ p ∈ ls, SqL K H p.1 p.2) ∧ ls.length ≤ 5 ∧
  ∀ H', Same H H' → Q (.bl (ls.any fun p => decide (200 < p.2.length))) H'
theorem cal_are_long (T : Txt K mg c) : CalF P w K mg base CX0 1 "are_long" (spAreLong K) := by
  refine cal T.d_are_long sc_are_long (fun vs H Q E h => ?_) (fun f cdv A outer s H vs Q E hr h => ⟨_, (pss_one (ps_ret (pe_cmpR (op_inK (K := K) rfl) pe_bl (pe_lc (own := [("one", 1)]) (g := gName 1) (tt := tYes) (by rfl) sc_are_long.nd (pi_listK (K := K) rfl (pv 0)) (blkOk_by (own := [("one", 1)]) (N := ["some", "one"]) (sc := defScope s_are_long) (by decide +kernel)) (fun _ _ _ _ _ => (pg_name (i := 1) sc_are_long.nd rfl (Or.inl rfl))) (fun _ _ _ _ _ => pts_nil) (fun _ _ _ _ _ => (pe_cmpR op_gt (pe_callB (call_lenK (K := K) rfl) (by rfl) T.z_len PySem.boot_len (pa_cons (pv 1) pa_nil)) (pe_gc rfl T.g_MOST_BYTES) (by first | exact nomark _ | rfl)))) (by first | exact nomark _ | rfl)))), ?_⟩)
  · obtain ⟨a, ls, rfl, _⟩ := h
    rfl
  obtain ⟨a, ls, rfl, hS, hls, h5, k⟩ := h
  refine ⟨_, rfl, a, rfl, ⟨_, hS⟩, fun D hD => ?_⟩
  refine lc_list (K := K) (a := a) (xs := ls.map fun p => V.ref p.1) (fun i H' => Same H H' ∧ H' D = some (.lst (((ls.take i).map fun p => decide (200 < p.2.length)).map V.bl)))
    ⟨same_new hD _, upd_same⟩ (fun i H' _ g => g.1.seq hS) ?_ ?_
  · rintro i x H' hi ⟨g, gD⟩
    rw [List.getElem?_map] at hi
    cases e : ls[i]? with
    | none => rw [e] at hi; cases hi
    | some p =>
      rw [e] at hi
      cases hi
      have hp := hls p (List.mem_of_getElem? e)
      refine ⟨rfl, ?_⟩
      refine yes ?_
      refine ⟨_, rfl, p.1, _, rfl, .inl (g.seq hp), _, _, rfl, rfl, _, gD, ?_, ?_⟩
      · rw [List.length_map, List.length_map, List.length_take]
        exact Nat.lt_of_le_of_lt (Nat.min_le_right _ _) (Nat.lt_of_le_of_lt h5 (by decide))
      · refine ⟨fun b o q => ?_, ?_⟩
        · rw [upd_ne (ne_of_none q hD)]
          exact g b o q
        · rw [upd_same, take_more e, List.map_append, List.map_append]
          have z : decide ((200 : Int) < (p.2.length : Int)) = decide (200 < p.2.length) := decide_eq_decide.mpr (by omega)
          show some (HO.lst (_ ++ [V.bl (decide ((200 : Int) < (p.2.length : Int)))])) = _
          rw [z]
          rfl
  · rintro H' ⟨g, gD⟩
    rw [List.length_map, take_all] at gD
    refine ⟨D, _, rfl, .inl (.of gD), rfl, any_bl _, ?_⟩
    show Q (.bl (inV _ _)) H'
    rw [inV_bl, List.any_map]
    exact k H' g
/-- told_bytes(some) -/
def spToldBytes (K : PySem.W.Frag) : Sp := fun vs H Q _ => ∃ (a : Addr) (xs : List V), vs = [.ref a] ∧ H a = some (.lst xs) ∧ xs.length ≤ 100000 ∧
  ∀ H' p, H' p = some (.lst (V.int 0 :: V.int (xs.length : Int) :: xs)) → Q (.ref p) H'
theorem cal_told_bytes (T : Txt K mg c) : CalF P w K mg base CX0 1 "told_bytes" (spToldBytes K) := by
  refine cal T.d_told_bytes sc_told_bytes (fun vs H Q E h => ?_) (fun f cdv A outer s H vs Q E hr h => ⟨_, (pss_one (ps_ret (pe_op op_cat (pe_lst (pa_cons pe_int (pa_cons (pe_callB (call_lenK (K := K) rfl) (by rfl) T.z_len PySem.boot_len (pa_cons (pv 0) pa_nil)) pa_nil))) (pv 0)))), ?_⟩)
  · obtain ⟨a, xs, rfl, _⟩ := h
    rfl
  obtain ⟨a, xs, rfl, hS, hz, k⟩ := h
  refine ⟨_, rfl, a, _, rfl, .inl (.of hS), sz 2, fun p hp => ⟨_, rfl, p, a, _, _, rfl, rfl, upd_same, ?_, ?_, fun p' hp' => k _ p' upd_same⟩⟩
  · rw [upd_ne (ne_of_none hS hp)]
    exact hS
  · refine sz _ ?_
    show 2 + xs.length ≤ 1000000
    omega
end
end Pm

namespace Pm
/-- the bytes that stand for a byte, quoted -/
def qByte (c : UInt8) : List UInt8 :=
  if c = 10 then WrPatt.word "\\n" else if c = 9 then WrPatt.word "\\t" else if WrPatt.isSeen c = true ∧ WrPatt.FORMS.contains c = false then [c] else if WrPatt.SPECIAL.contains c = true then [92, c] else [92, 120, WrPatt.hexByte (c.toNat / 16), WrPatt.hexByte (c.toNat % 16)]
theorem quoted_eq (s : List UInt8) : WrPatt.quoted s = s.flatMap qByte := rfl
def hexI (n : Int) : Int := if n < 10 then 48 + n else 87 + n
def npl : List Int := [92, 124, 38, 126, 42, 43, 63, 123, 125, 46, 94, 36, 40, 41, 91, 93]
def qInts (n : Int) : List Int :=
  if n = 10 then [92, 110] else if n = 9 then [92, 116] else if ¬ (32 ≤ n ∧ n ≤ 126) then [92, 120, hexI (n / 16), hexI (n % 16)] else if npl.contains n then [92, n] else [n]
theorem qInts_ok : ∀ n : Fin 256, qInts (n.val : Int) = (qByte (UInt8.ofNat n.val)).map fun c => (c.toNat : Int) := by decide +kernel
open L2 in
theorem qInts_byte (c : UInt8) : (qInts (c.toNat : Int)).map V.int = bV (qByte c) := by
  have h := qInts_ok ⟨c.toNat, c.toNat_lt⟩
  have e : UInt8.ofNat c.toNat = c := UInt8.ofNat_toNat
  dsimp only at h
  rw [h, e, List.map_map]
  rfl
theorem qByte_len : ∀ n : Fin 256, (qByte (UInt8.ofNat n.val)).length ≤ 4 := by decide +kernel
theorem qByte_le (c : UInt8) : (qByte c).length ≤ 4 := by
  have h := qByte_len ⟨c.toNat, c.toNat_lt⟩
  have e : UInt8.ofNat c.toNat = c := UInt8.ofNat_toNat
  dsimp only at h
  rw [e] at h
  exact h
theorem quoted_le : ∀ b : List UInt8, (b.flatMap qByte).length ≤ 4 * b.length
  | [] => Nat.le_refl _
  | c :: r => by
    have ih := quoted_le r
    have h := qByte_le c
    rw [List.flatMap_cons, List.length_append, List.length_cons]
    omega
open PySem PySem.Spec PyProof.Rows L2
theorem eq_int {a b : Int} : decide (V.int a = V.int b) = decide (a = b) := decide_eq_decide.mpr ⟨fun h => by injection h, fun h => by rw [h]⟩
theorem inV_int (n : Int) : ∀ l : List Int, inV (V.int n) (l.map V.int) = l.contains n
  | [] => rfl
  | x :: r => by
    have ih := inV_int n r
    unfold inV at ih ⊢
    rw [List.map_cons, List.any_cons, ih, List.contains_cons]
    show ((x == n) || r.contains n) = ((n == x) || r.contains n)
    rw [Bool.beq_comm]
theorem flat_ints : ∀ l : List Int, (l.map V.int).all flatV = true
  | [] => rfl
  | _ :: r => flat_ints r
section
variable {P : Program} {w : World} {K : PySem.W.Frag} {mg : Str → Option Value} {base : Heap} {c : Cs}
/-- hex_digit(number) -/
def spHex : Sp := fun vs H Q _ => ∃ n : Int, vs = [.int n] ∧ Q (.int (hexI n)) H
theorem cal_hex_digit (T : Txt K mg c) : CalF P w K mg base CX0 1 "hex_digit" spHex := by
  refine cal T.d_hex_digit sc_hex_digit (fun vs H Q E h => ?_) (fun f cdv A outer s H vs Q E hr h => ⟨_, (pss_cons (ps_if (pt_cmpR op_lt (pv 0) pe_int (by first | exact nomark _ | rfl)) (pss_one (ps_ret (pe_op op_add pe_int (pv 0)))) pss_nil) (pss_one (ps_ret (pe_op op_add pe_int (pv 0))))), ?_⟩)
  · obtain ⟨n, rfl, _⟩ := h
    rfl
  obtain ⟨n, rfl, k⟩ := h
  refine ⟨_, rfl, _, _, rfl, rfl, _, rfl, ite2 (fun e => ?_) (fun e => ?_)⟩
  · refine ⟨_, rfl, _, _, rfl, rfl, ?_⟩
    unfold hexI at k
    rw [if_pos (of_decide_eq_true e)] at k
    exact k
  · refine ⟨_, rfl, _, _, rfl, rfl, ?_⟩
    unfold hexI at k
    rw [if_neg (of_decide_eq_false (Bool.eq_false_iff.mpr e))] at k
    exact k
/-- quoted(byte): a new list -/
def spQuoted : Sp := fun vs H Q _ => ∃ n : Int, vs = [.int n] ∧ ∀ H' p, Same H H' → H p = none → H' p = some (.lst ((qInts n).map V.int)) → Q (.ref p) H'
theorem cal_quoted (T : Txt K mg c) : CalF P w K mg base CX0 2 "quoted" spQuoted := by
  have c_hex_digit := cal_hex_digit (P := P) (w := w) (base := base) T
  refine cal T.d_quoted sc_quoted (fun vs H Q E h => ?_) (fun f cdv A outer s H vs Q E hr h => ⟨_, (pss_cons (ps_if (pt_cmpR op_eq (pv 0) (pe_gc rfl T.g_NEWLINE) (by first | exact nomark _ | rfl)) (pss_one (ps_ret (pe_lst (pa_cons (pe_gc rfl T.g_BACKSLASH) (pa_cons pe_int pa_nil))))) pss_nil) (pss_cons (ps_if (pt_cmpR op_eq (pv 0) (pe_gc rfl T.g_TAB) (by first | exact nomark _ | rfl)) (pss_one (ps_ret (pe_lst (pa_cons (pe_gc rfl T.g_BACKSLASH) (pa_cons pe_int pa_nil))))) pss_nil) (pss_cons (ps_if (pt_not (pt_chain op_le op_le pe_int (pv 0) pe_int)) (pss_one (ps_ret (pe_lst (pa_cons (pe_gc rfl T.g_BACKSLASH) (pa_cons pe_int (pa_cons (pe_cf c_hex_digit hr (by decide) pass0 (by exact (pa_cons (pe_op op_fdiv (pv 0) pe_int) pa_nil))) (pa_cons (pe_cf c_hex_digit hr (by decide) pass0 (by exact (pa_cons (pe_op op_mod (pv 0) pe_int) pa_nil))) pa_nil))))))) pss_nil) (pss_cons (ps_if (pt_cmpR (op_inK (K := K) rfl) (pv 0) (pe_gc rfl T.g_NOT_PLAIN) (by first | exact nomark _ | rfl)) (pss_one (ps_ret (pe_lst (pa_cons (pe_gc rfl T.g_BACKSLASH) (pa_cons (pv 0) pa_nil))))) pss_nil) (pss_one (ps_ret (pe_lst (pa_cons (pv 0) pa_nil)))))))), ?_⟩)
  · obtain ⟨n, rfl, _⟩ := h
    rfl
  obtain ⟨n, rfl, k⟩ := h
  unfold qInts at k
  have new : ∀ (l : List Int) (p : Addr), H p = none → (l = qInts n) → Q (.ref p) (upd H p (.lst (l.map V.int))) := fun l p hp e => by
    subst e
    exact k _ p (same_new hp _) hp upd_same
  refine ⟨_, rfl, rfl, _, rfl, ite2 (fun e => ?_) (fun e => ?_)⟩
  · rw [eq_int] at e
    exact ⟨sz 2, fun p hp => new [92, 110] p hp (by unfold qInts; rw [if_pos (of_decide_eq_true e)])⟩
  rw [eq_int] at e
  refine ⟨_, rfl, rfl, _, rfl, ite2 (fun e2 => ?_) (fun e2 => ?_)⟩
  · rw [eq_int] at e2
    exact ⟨sz 2, fun p hp => new [92, 116] p hp (by unfold qInts; rw [if_neg (by simpa using e), if_pos (of_decide_eq_true e2)])⟩
  rw [eq_int] at e2
  have small : (32 ≤ n ∧ n ≤ 126) → Q (.ref 0) H → True := fun _ _ => True.intro
  have rest : ¬ (32 ≤ n ∧ n ≤ 126) → tRet (tLst (tCons (tC (V.int 92)) (tCons (tC (V.int 120)) (tCons (tCallF spHex E0 (tCons (tOp (rI CDiv fun i j => .int (i / j)) (tVar 0) (tC (V.int 16))) tNil)) (tCons (tCallF spHex E0 (tCons (tOp (rI (fun _ j => 0 < j) fun i j => .int (i % j)) (tVar 0) (tC (V.int 16))) tNil)) tNil)))))
      { nx := fun _ H' => Q .non H', rt := Q } (start ["byte"] [V.int n]) H := fun hn => by
    refine ⟨_, rfl, _, _, rfl, rfl, ⟨by decide, by decide⟩, _, rfl, ?_⟩
    refine ⟨_, rfl, _, _, rfl, rfl, (by show (0 : Int) < 16; decide), _, rfl, ?_⟩
    exact ⟨sz 4, fun p hp => new [92, 120, hexI (n / 16), hexI (n % 16)] p hp (by unfold qInts; rw [if_neg (by simpa using e), if_neg (by simpa using e2), if_pos hn])⟩
  have last : (32 ≤ n ∧ n ≤ 126) → tSeq (tIfS (tTest (tOp (rIn K false) (tVar 0) (tC (V.ref c.NOT_PLAIN)))) (tRet (tLst (tCons (tC (V.int 92)) (tCons (tVar 0) tNil)))) tNext) (tRet (tLst (tCons (tVar 0) tNil)))
      { nx := fun _ H' => Q .non H', rt := Q } (start ["byte"] [V.int n]) H := fun hn => by
    have hm : ([V.int 92, V.int 124, V.int 38, V.int 126, V.int 42, V.int 43, V.int 63, V.int 123, V.int 125, V.int 46, V.int 94, V.int 36, V.int 40, V.int 41, V.int 91, V.int 93] : List V) = npl.map V.int := rfl
    have tt := T.t_NOT_PLAIN H
    rw [hm] at tt
    refine ⟨_, rfl, _, _, rfl, .inr tt, rfl, flat_ints _, _, rfl, ?_⟩
    show (if inV (V.int n) (npl.map V.int) = true then _ else _)
    rw [inV_int]
    refine ite2 (fun e3 => ?_) (fun e3 => ?_)
    · exact ⟨_, rfl, sz 2, fun p hp => new [92, n] p hp (by unfold qInts; rw [if_neg (by simpa using e), if_neg (by simpa using e2), if_neg (by omega), if_pos e3])⟩
    · exact ⟨_, rfl, sz 1, fun p hp => new [n] p hp (by unfold qInts; rw [if_neg (by simpa using e), if_neg (by simpa using e2), if_neg (by omega), if_neg e3])⟩
  refine ⟨_, rfl, _, _, rfl, rfl, _, rfl, ite2 (fun e3 => ?_) (fun e3 => ?_)⟩
  · refine ⟨_, _, rfl, rfl, _, rfl, ite2 (fun e4 => ?_) (fun e4 => ?_)⟩
    · exact rest (by simp at e4; omega)
    · exact last (by simp at e3 e4; omega)
  · refine ⟨_, rfl, ite2 (fun e4 => ?_) (fun e4 => ?_)⟩
    · exact rest (by simp at e3; omega)
    · exact absurd rfl e4
/-- quote(subject) -/
def spMain (K : PySem.W.Frag) : Sp := fun vs H Q _ => ∃ (a : Addr) (b : List UInt8), vs = [.ref a] ∧ SqL K H a (bV b) ∧ b.length ≤ 300 ∧
  ∀ H' p, H' p = some (.lst ((WrPattNeutral.told (WrPatt.answer (.quote b))).map V.int)) → Q (.ref p) H'
theorem told_long {b : List UInt8} (h : 200 < b.length) : WrPattNeutral.told (WrPatt.answer (.quote b)) = [9, 1] := by
  have e : WrPatt.asked (.quote b) = false := decide_eq_false (by show ¬ b.length ≤ 200; omega)
  unfold WrPatt.answer
  rw [if_pos e]
  rfl
theorem told_short {b : List UInt8} (h : ¬ 200 < b.length) : (WrPattNeutral.told (WrPatt.answer (.quote b))).map V.int = V.int 0 :: V.int ((b.flatMap qByte).length : Int) :: bV (b.flatMap qByte) := by
  have e : ¬ WrPatt.asked (.quote b) = false := by
    have z : WrPatt.asked (.quote b) = true := decide_eq_true (by show b.length ≤ 200; omega)
    rw [z]
    decide
  unfold WrPatt.answer
  rw [if_neg e]
  show V.int 0 :: V.int ((WrPatt.quoted b).length : Int) :: ((WrPatt.quoted b).map fun c => ((c.toNat : Nat) : Int)).map V.int = _
  rw [quoted_eq, List.map_map]
  rfl
theorem main_of (T : Txt K mg c) {fa : Addr} (hfa : mg "quote" = some (.ref fa)) :
    ∃ fd : FuncData, (∀ (s : Shared) (us : List Value), us.length = (["subject"] : List Str).length → BindsTo s fd ⟨us, []⟩ ((["subject"] : List Str).zip us)) ∧ ∀ base : Heap, K.In base → base.Ns mainGlobals mg → FnOk P w K mg base CX0 220 fa fd ["subject"] (spMain K) := by
  refine mainF (n := 5) hfa T.d_quote sc_quote (fun vs H Q E h => ?_) (by decide) (fun base f cdv A outer s H vs Q E hr h => ?_)
  · obtain ⟨a, b, rfl, _⟩ := h
    rfl
  have c_are_long := cal_are_long (P := P) (w := w) (base := base) T
  have c_quoted := cal_quoted (P := P) (w := w) (base := base) T
  have c_told_bytes := cal_told_bytes (P := P) (w := w) (base := base) T
  refine ⟨_, (pss_cons (ps_if (pt_val (pe_cf c_are_long hr (by decide) pass0 (by exact (pa_cons (pe_lst (pa_cons (pv 0) pa_nil)) pa_nil)))) (pss_one (ps_ret (pe_lst (pa_cons (pe_gc rfl T.g_REFUSED) (pa_cons (pe_gc rfl T.g_OUT_OF_BOUNDS) pa_nil))))) pss_nil) (pss_cons (ps_set (i := 1) sc_quote.nd rfl (Or.inl rfl) (pe_lst pa_nil)) (pss_cons (ps_for (passes_of rfl) rfl (pi_listK (K := K) rfl (pv 0)) (pg_name (i := 2) sc_quote.nd rfl (Or.inl rfl)) (pss_one (ps_expr (pe_bm PySem.F.plainAttrs_list PySem.F.slot_list_extend PySem.F.type_list_extend mt_extend (pv 1) (pa_cons (pe_cf c_quoted hr (by decide) pass0 (by exact (pa_cons (pv 2) pa_nil))) pa_nil))))) (pss_one (ps_ret (pe_cf c_told_bytes hr (by decide) pass0 (by exact (pa_cons (pv 1) pa_nil)))))))), ?_⟩
  obtain ⟨a, b, rfl, hS, hb, k⟩ := h
  refine ⟨_, rfl, sz 1, fun p hp => ?_⟩
  have S1 : Same H (upd H p (.lst [V.ref a])) := same_new hp _
  refine ⟨p, [(a, bV b)], rfl, .of upd_same, ?_, (by show 1 ≤ 5; decide), fun H1 g1 => ?_⟩
  · intro z hz
    rw [List.mem_singleton] at hz
    subst hz
    exact S1.seq hS
  have g1 : Same H H1 := S1.trans g1
  refine ⟨_, rfl, ite2 (fun e => ?_) (fun e => ?_)⟩
  · have e' : 200 < b.length := by
      simp at e
      rw [← bV_length]
      exact e
    refine ⟨sz 2, fun p hp => k _ p ?_⟩
    rw [upd_same, told_long e']
    rfl
  have e' : ¬ 200 < b.length := by
    simp at e
    rw [← bV_length]
    omega
  refine ⟨sz 0, fun q hq => ?_⟩
  refine ⟨_, rfl, a, rfl, ⟨_, ((g1.trans (same_new hq _)).seq hS)⟩, for_list (K := K) (a := a) (xs := bV b) (fun i σ H' => (∃ v, σ = [some (.ref a), some (.ref q), v]) ∧ Same H H' ∧ H' q = some (.lst (bV ((b.take i).flatMap qByte))))
    ⟨⟨none, rfl⟩, g1.trans (same_new hq _), upd_same⟩ (fun i σ H' _ g => g.2.1.seq hS) ?_ ?_⟩
  · rintro i y σ H2 hi ⟨⟨v, rfl⟩, g2, gq⟩
    unfold bV at hi
    rw [List.getElem?_map] at hi
    cases ei : b[i]? with
    | none => rw [ei] at hi; cases hi
    | some z =>
      rw [ei] at hi
      cases hi
      refine ⟨_, rfl, .inl ⟨rfl, _, .inl (.inl gq)⟩, _, rfl, _, rfl, fun H3 t g3 ht et => ?_⟩
      rw [qInts_byte] at et
      refine ⟨q, t, _, _, rfl, rfl, g3 _ _ gq, et, ?_, ⟨_, rfl⟩, fun x o hx => ?_, ?_⟩
      · rw [bV_length, bV_length]
        have h1 := quoted_le (b.take i)
        have h2 := qByte_le z
        have h3 : (b.take i).length ≤ b.length := by rw [List.length_take]; exact Nat.min_le_right _ _
        exact sz _ (by omega)
      · have hxq : x ≠ q := by
          intro z
          subst z
          rw [g1 _ _ hx] at hq
          cases hq
        rw [upd_ne hxq]
        exact g3 _ _ (g2 _ _ hx)
      · rw [upd_same, take_more ei, List.flatMap_append, List.flatMap_singleton]
        show _ = some (HO.lst (((b.take i).flatMap qByte ++ qByte z).map cV))
        rw [List.map_append]
        rfl
  · rintro σ H2 ⟨⟨v, rfl⟩, g2, gq⟩
    rw [bV_length, take_all] at gq
    refine ⟨_, rfl, q, _, rfl, gq, ?_, fun H3 p hp => k H3 p ?_⟩
    · rw [bV_length]
      have h1 := quoted_le b
      omega
    · rw [hp, told_short e', bV_length]
end
open PySem.W (Codec) in
theorem request {K : PySem.W.Frag} {H : Hp} {xs : List V} {a : Codec.denoteAll PySem.Challenge.fa_patternmeans_s07_quote} (hwi : Codec.withinAll PySem.Challenge.fa_patternmeans_s07_quote a = true) (hx : DwAll K H xs (Codec.encAll PySem.Challenge.fa_patternmeans_s07_quote a)) :
    spMain K xs H (fun v H' => Dw K H' v (PySem.Challenge.fr_patternmeans_s07_quote.enc (PyWrpats.quote a.1))) (fun _ _ _ => False) := by
  cases hx with
  | cons h1 h2 =>
    cases h2
    cases h1 with
    | lst hs ha =>
      have e := L2.ints_dw a.1 _ ha
      subst e
      have q : ((Codec.inLen 0 300 a.1 && a.1.all (Codec.inInt 0 255)) && true) = true := hwi
      rw [Bool.and_eq_true, Bool.and_eq_true] at q
      have hlen : a.1.length ≤ 300 := (Codec.inNat_iff.mp q.1.1).2
      have hb : ∀ x ∈ a.1, 0 ≤ x ∧ x ≤ 255 := fun x hx => by
        have z := List.all_eq_true.mp q.1.2 x hx
        exact Codec.inInt_iff.mp z
      rw [bytes_of hb] at hs
      refine ⟨_, WrPattNeutral.text a.1, rfl, hs, by rw [text_length]; exact hlen, fun H' p hp => .lst (L2.SqL.of hp) (L2.dw_ints _)⟩
end Pm

namespace Pm
open PySem PySem.Spec PyProof.Rows L2
theorem txt_mk {K : PySem.W.Frag} {h : Heap} {mg : Str → Option Value} (X : K.In h) (G : h.Ns mainGlobals mg)
    {k_TAB : Tok}
    {k_NEWLINE : Tok}
    {k_REFUSED : Tok}
    {k_OUT_OF_BOUNDS : Tok}
    {k_MOST_BYTES : Tok}
    {k_BACKSLASH : Tok}
    {a_NOT_PLAIN : Addr} {o_NOT_PLAIN : Obj} {i_NOT_PLAIN : Array Value} {m_NOT_PLAIN : Nat}
    {f_are_long : Addr} {od_are_long an_are_long : Option Addr} {sl_are_long : Array (Option Value)} {oc_are_long kV_are_long dc_are_long pm_are_long cd_are_long ct_are_long : Value}
    {f_told_bytes : Addr} {od_told_bytes an_told_bytes : Option Addr} {sl_told_bytes : Array (Option Value)} {oc_told_bytes kV_told_bytes dc_told_bytes pm_told_bytes cd_told_bytes ct_told_bytes : Value}
    {f_hex_digit : Addr} {od_hex_digit an_hex_digit : Option Addr} {sl_hex_digit : Array (Option Value)} {oc_hex_digit kV_hex_digit dc_hex_digit pm_hex_digit cd_hex_digit ct_hex_digit : Value}
    {f_quoted : Addr} {od_quoted an_quoted : Option Addr} {sl_quoted : Array (Option Value)} {oc_quoted kV_quoted dc_quoted pm_quoted cd_quoted ct_quoted : Value}
    {f_quote : Addr} {od_quote an_quote : Option Addr} {sl_quote : Array (Option Value)} {oc_quote kV_quote dc_quote pm_quote cd_quote ct_quote : Value}
    (n_TAB : PySem.W.nsIn K mainGlobals "TAB" = some (some (.int (9) k_TAB)))
    (n_NEWLINE : PySem.W.nsIn K mainGlobals "NEWLINE" = some (some (.int (10) k_NEWLINE)))
    (n_REFUSED : PySem.W.nsIn K mainGlobals "REFUSED" = some (some (.int (9) k_REFUSED)))
    (n_OUT_OF_BOUNDS : PySem.W.nsIn K mainGlobals "OUT_OF_BOUNDS" = some (some (.int (1) k_OUT_OF_BOUNDS)))
    (n_MOST_BYTES : PySem.W.nsIn K mainGlobals "MOST_BYTES" = some (some (.int (200) k_MOST_BYTES)))
    (n_BACKSLASH : PySem.W.nsIn K mainGlobals "BACKSLASH" = some (some (.int (92) k_BACKSLASH)))
    (n_NOT_PLAIN : PySem.W.nsIn K mainGlobals "NOT_PLAIN" = some (some (.ref a_NOT_PLAIN)))
    (l_NOT_PLAIN : K.lookup a_NOT_PLAIN = some o_NOT_PLAIN)
    (q_NOT_PLAIN : o_NOT_PLAIN.cls = .type "tuple" ∧ o_NOT_PLAIN.data = .seq i_NOT_PLAIN m_NOT_PLAIN ∧ i_NOT_PLAIN.size ≤ 1000 ∧ Vals [V.int 92, V.int 124, V.int 38, V.int 126, V.int 42, V.int 43, V.int 63, V.int 123, V.int 125, V.int 46, V.int 94, V.int 36, V.int 40, V.int 41, V.int 91, V.int 93] i_NOT_PLAIN.toList)
    (z_len : PySem.W.nsIn K mainGlobals "len" = some none)
    (a_are_long : PySem.W.nsIn K mainGlobals "are_long" = some (some (.ref f_are_long)))
    (l_are_long : K.lookup f_are_long = some ⟨oc_are_long, od_are_long, .func (PySem.W.fnOf "are_long" "are_long" (defArgs s_are_long) (defBody s_are_long) (defScope s_are_long) .none kV_are_long dc_are_long pm_are_long an_are_long cd_are_long ct_are_long), sl_are_long⟩)
    (c_are_long : PySem.W.codeIn K cd_are_long "are_long" = true)
    (k_are_long : PySem.W.keepIn K (.ref f_are_long) = true)
    (a_told_bytes : PySem.W.nsIn K mainGlobals "told_bytes" = some (some (.ref f_told_bytes)))
    (l_told_bytes : K.lookup f_told_bytes = some ⟨oc_told_bytes, od_told_bytes, .func (PySem.W.fnOf "told_bytes" "told_bytes" (defArgs s_told_bytes) (defBody s_told_bytes) (defScope s_told_bytes) .none kV_told_bytes dc_told_bytes pm_told_bytes an_told_bytes cd_told_bytes ct_told_bytes), sl_told_bytes⟩)
    (c_told_bytes : PySem.W.codeIn K cd_told_bytes "told_bytes" = true)
    (k_told_bytes : PySem.W.keepIn K (.ref f_told_bytes) = true)
    (a_hex_digit : PySem.W.nsIn K mainGlobals "hex_digit" = some (some (.ref f_hex_digit)))
    (l_hex_digit : K.lookup f_hex_digit = some ⟨oc_hex_digit, od_hex_digit, .func (PySem.W.fnOf "hex_digit" "hex_digit" (defArgs s_hex_digit) (defBody s_hex_digit) (defScope s_hex_digit) .none kV_hex_digit dc_hex_digit pm_hex_digit an_hex_digit cd_hex_digit ct_hex_digit), sl_hex_digit⟩)
    (c_hex_digit : PySem.W.codeIn K cd_hex_digit "hex_digit" = true)
    (k_hex_digit : PySem.W.keepIn K (.ref f_hex_digit) = true)
    (a_quoted : PySem.W.nsIn K mainGlobals "quoted" = some (some (.ref f_quoted)))
    (l_quoted : K.lookup f_quoted = some ⟨oc_quoted, od_quoted, .func (PySem.W.fnOf "quoted" "quoted" (defArgs s_quoted) (defBody s_quoted) (defScope s_quoted) .none kV_quoted dc_quoted pm_quoted an_quoted cd_quoted ct_quoted), sl_quoted⟩)
    (c_quoted : PySem.W.codeIn K cd_quoted "quoted" = true)
    (k_quoted : PySem.W.keepIn K (.ref f_quoted) = true)
    (a_quote : PySem.W.nsIn K mainGlobals "quote" = some (some (.ref f_quote)))
    (l_quote : K.lookup f_quote = some ⟨oc_quote, od_quote, .func (PySem.W.fnOf "quote" "quote" (defArgs s_quote) (defBody s_quote) (defScope s_quote) .none kV_quote dc_quote pm_quote an_quote cd_quote ct_quote), sl_quote⟩)
    (c_quote : PySem.W.codeIn K cd_quote "quote" = true)
    (k_quote : PySem.W.keepIn K (.ref f_quote) = true)
    : Txt K mg ⟨(), a_NOT_PLAIN⟩ :=
  { u := True.intro,
    g_TAB := ⟨_, PySem.W.mg_of X G n_TAB, ⟨_, rfl⟩⟩,
    g_NEWLINE := ⟨_, PySem.W.mg_of X G n_NEWLINE, ⟨_, rfl⟩⟩,
    g_REFUSED := ⟨_, PySem.W.mg_of X G n_REFUSED, ⟨_, rfl⟩⟩,
    g_OUT_OF_BOUNDS := ⟨_, PySem.W.mg_of X G n_OUT_OF_BOUNDS, ⟨_, rfl⟩⟩,
    g_MOST_BYTES := ⟨_, PySem.W.mg_of X G n_MOST_BYTES, ⟨_, rfl⟩⟩,
    g_BACKSLASH := ⟨_, PySem.W.mg_of X G n_BACKSLASH, ⟨_, rfl⟩⟩,
    g_NOT_PLAIN := ⟨_, PySem.W.mg_of X G n_NOT_PLAIN, rfl⟩,
    t_NOT_PLAIN := tupK l_NOT_PLAIN q_NOT_PLAIN.1 q_NOT_PLAIN.2.1 q_NOT_PLAIN.2.2.1 q_NOT_PLAIN.2.2.2,
    z_len := PySem.W.mg_none_of X G z_len,
    d_are_long := ⟨_, _, fun_mk (st := s_are_long) l_are_long c_are_long k_are_long, PySem.W.mg_of X G a_are_long, fun s us hl => match us, hl with | [_], _ => .of_eq rfl⟩,
    d_told_bytes := ⟨_, _, fun_mk (st := s_told_bytes) l_told_bytes c_told_bytes k_told_bytes, PySem.W.mg_of X G a_told_bytes, fun s us hl => match us, hl with | [_], _ => .of_eq rfl⟩,
    d_hex_digit := ⟨_, _, fun_mk (st := s_hex_digit) l_hex_digit c_hex_digit k_hex_digit, PySem.W.mg_of X G a_hex_digit, fun s us hl => match us, hl with | [_], _ => .of_eq rfl⟩,
    d_quoted := ⟨_, _, fun_mk (st := s_quoted) l_quoted c_quoted k_quoted, PySem.W.mg_of X G a_quoted, fun s us hl => match us, hl with | [_], _ => .of_eq rfl⟩,
    d_quote := ⟨_, _, fun_mk (st := s_quote) l_quote c_quote k_quote, PySem.W.mg_of X G a_quote, fun s us hl => match us, hl with | [_], _ => .of_eq rfl⟩ }
end Pm
open PySem PySem.W PyProof.Rows
set_option maxRecDepth 100000 in
set_option maxHeartbeats 16000000 in
theorem PySem.Challenge.cw_patternmeans_s07_quote_holds : PySem.Challenge.rw_patternmeans_s07_quote.Holds := by
  w_on; k_headS; (case hw => exact ⟨[.list []], by decide +kernel, by decide +kernel⟩)
  k_fillS
  refine L2.walk_specK (r := PySem.Challenge.rw_patternmeans_s07_quote) (k := 220) (CX := L2.CX0) (ps := ["subject"]) (sp := Pm.spMain) (by decide +kernel) rfl rfl ⟨rfl, by decide, by decide⟩ (fun w h Y => PySem.W.kIn_of Y) ?F ?S (fun _ _ _ _ z => z)
  case F =>
    intro w mg fa h Y KX G hmg
    refine' Pm.main_of (Pm.txt_mk KX G ?n_TAB ?n_NEWLINE ?n_REFUSED ?n_OUT_OF_BOUNDS ?n_MOST_BYTES ?n_BACKSLASH ?n_NOT_PLAIN ?l_NOT_PLAIN ?q_NOT_PLAIN ?z_len ?a_are_long ?l_are_long ?c_are_long ?k_are_long ?a_told_bytes ?l_told_bytes ?c_told_bytes ?k_told_bytes ?a_hex_digit ?l_hex_digit ?c_hex_digit ?k_hex_digit ?a_quoted ?l_quoted ?c_quoted ?k_quoted ?a_quote ?l_quote ?c_quote ?k_quote) hmg
    (case n_TAB => k_is)
    (case n_NEWLINE => k_is)
    (case n_REFUSED => k_is)
    (case n_OUT_OF_BOUNDS => k_is)
    (case n_MOST_BYTES => k_is)
    (case n_BACKSLASH => k_is)
    (case n_NOT_PLAIN => k_is)
    (case l_NOT_PLAIN => k_is)
    (case q_NOT_PLAIN => exact ⟨rfl, rfl, by decide, .cons ⟨_, rfl⟩ (.cons ⟨_, rfl⟩ (.cons ⟨_, rfl⟩ (.cons ⟨_, rfl⟩ (.cons ⟨_, rfl⟩ (.cons ⟨_, rfl⟩ (.cons ⟨_, rfl⟩ (.cons ⟨_, rfl⟩ (.cons ⟨_, rfl⟩ (.cons ⟨_, rfl⟩ (.cons ⟨_, rfl⟩ (.cons ⟨_, rfl⟩ (.cons ⟨_, rfl⟩ (.cons ⟨_, rfl⟩ (.cons ⟨_, rfl⟩ (.cons ⟨_, rfl⟩ (.nil))))))))))))))))⟩)
    (case z_len => k_is)
    (case a_are_long => k_is)
    (case l_are_long => k_is)
    (case c_are_long => k_is)
    (case k_are_long => k_is)
    (case a_told_bytes => k_is)
    (case l_told_bytes => k_is)
    (case c_told_bytes => k_is)
    (case k_told_bytes => k_is)
    (case a_hex_digit => k_is)
    (case l_hex_digit => k_is)
    (case c_hex_digit => k_is)
    (case k_hex_digit => k_is)
    (case a_quoted => k_is)
    (case l_quoted => k_is)
    (case c_quoted => k_is)
    (case k_quoted => k_is)
    (case a_quote => k_is)
    (case l_quote => k_is)
    (case c_quote => k_is)
    (case k_quote => k_is)
  case S =>
    intro K H xs a hO hwi hask hx
    exact Pm.request hwi hx
#print axioms PySem.Challenge.cw_patternmeans_s07_quote_holds

