/- Part 3 of the proof. -/
import Derived.Test.YtdhekhlmdefcnaaGreatDoorPart2
import GoSem.Extern.ReflectliteValue
import Derived.Conc.CrowdComm
import Derived.Conc.CrowdRun
import Derived.Conc.RingFork
set_option maxHeartbeats 16000000
set_option maxRecDepth 1000000
namespace Go
section
variable {p:Prop}
theorem zdn(h:p:=by simp only[Array.size_append];have:=h.rt;omega):p:=h
theorem zdo(h:p:=by have:=h.opn e i hi;rw[h1]at this;cases this):p:=h
theorem zdp(h:p:=by obtain⟨⟨r,hr1⟩,hr2⟩:=h.rl j hj he hes;exact⟨⟨r,RelBy.mute hr1 hu.mute⟩,hr2⟩):p:=h
theorem zdq(h:p:=by simp[MemAct.touch?]):p:=h
theorem zdr(h:p:=by obtain⟨N,g2,w2,s2,t2,T2,Q2,a2,k1,k2⟩:=ih s (sumTo n Q') (aj _) h3 h2 h4;exact⟨N+1,g2,w2,s2,t2,T2,Q2,a2,by rw[runNT_succ_next h1];exact k1,k2⟩):p:=h
theorem zds(h:p:=by obtain⟨g2,hg2,hq⟩:=h.lv k k1 k2;refine⟨g2,?_,by rw[dy,if_neg oM];exact hq⟩;rw[cW _ _ _ _ _ oM,hg2];simp[woken_quitsD hq]):p:=h
theorem zdt(h:p:=by simp only;rw[Lu rfl];exact h.mode):p:=h
theorem zdu(h:p:=by exact h.tr.mute h.rt (λb hb=>hb) (λk l _ hl=>hl) hu.mute (λop hop=>(hu op hop).1) λop hop a=>(hu op hop).2.2 _):p:=h
theorem zdv(h:p:=by cases he;exact .inr ⟨⟨x,_,rfl⟩,by simp[deafBehind]⟩):p:=h
theorem zdw(h:p:=by exact .inr (.inl ⟨_,_,rfl,h.gk.sW⟩)):p:=h
theorem zdx(h:p:=by rw[ofEvents_eq]at hop;obtain⟨e,he,rfl⟩:=Array.mem_map.1 hop;exact h e he _ (loc_of_ofEvent e2)):p:=h
theorem zdy(h:p:=by simp[semEvents]at he;subst he;exact .inr ⟨⟨x,_,rfl⟩,by simp[deafBehind,semEvents]⟩):p:=h
theorem zdz(h:p:=by rw[e,hc]at this;simp[lH]at this):p:=h
theorem zdA(h:p:=by have:=h.j1;omega):p:=h
theorem zdB(h:p:=by simp[jF]):p:=h
theorem zdC(h:p:=by rw[<-hp0.Fg j y hj hy];exact oz (hone.block _ (Ne.symm nO))):p:=h
theorem zdD(h:p:=by rw[h.AW (.inl hcl) j hj]at yV;cases yV):p:=h
theorem zdE(h:p:=by rw[g?_old hlt];exact k2):p:=h
theorem zdF(h:p:=by rw[cW _ _ _ _ _ oM,hg];simp[woken_quitsD hq]):p:=h
theorem zdG(h:p:=by exact⟨aT (h.own j b hj hb).1 hg.size,(h.own j b hj hb).2⟩):p:=h
theorem zdH(h:p:=by obtain⟨s1,r1,hc⟩:=hp.ch;rw[e]at hc;exact⟨s1,r1,_,hc⟩):p:=h
theorem zdI(h:p:=by rw[jF];simp):p:=h
theorem zdJ(h:p:=by rw[hD i oM]at hb;exact⟨oM,hb⟩):p:=h
theorem zdK(h:p:=by rw[h2]at e;cases e):p:=h
theorem zdL(h:p:=by simpa using hgo):p:=h
theorem zdM(h:p:=by rw[dy,if_pos rfl,upd_same];exact hq2):p:=h
theorem zdN(h:p:=by rw[dy,if_neg oM];exact h.d0):p:=h
theorem zdO(h:p:=by exact absurd (.inr (.inr (.inr (.inr (a i hi))))) no):p:=h
theorem zdP(h:p:=by subst he;exact .inl rfl):p:=h
theorem zdQ(h:p:=by rw[ho.size];exact h.own i b hi hb):p:=h
theorem zdR(h:p:=by simp[h1]):p:=h
theorem zdS(h:p:=by rw[h.sz];omega):p:=h
theorem zdT(h:p:=by rw[hu.deaf];exact h.d0):p:=h
theorem zdU(h:p:=by rw[hz];exact hgo):p:=h
theorem zdV(h:p:=by rw[hone.size];exact hp0.own j b hj hb):p:=h
theorem zdW(h:p:=by rw[offersAt_parked_recv,if_pos rfl]):p:=h
theorem zdX(h:p:=by rw[pc];exact rt _):p:=h
theorem zdY(h:p:=by exact⟨_,_,iw j0 m (upd D i d') rm' .run Q,hrun,Prod.Lex.left _ _ k2,m,_,_,sl,s',rm',.run,_,st,sm,Q,rfl,k1,rfl⟩):p:=h
theorem zdZ(h:p:=by simp[h.sz]):p:=h
theorem zd0(h:p:=by rw[hone.size];exact hp0.base b hb):p:=h
theorem zd1(h:p:=by cases e):p:=h
theorem zd2(h:p:=by rw[cB (by rw[Array.size_setIfInBounds,h.sz];omega)]):p:=h
theorem zd3(h:p:=by rw[hone.size];exact hp0.sb b hb):p:=h
theorem zd4(h:p:=by have:=h.big;rw[htag]at this;simpa[left]using this):p:=h
theorem zd5(h:p:=by simp only[Array.size_setIfInBounds]):p:=h
theorem zd6(h:p:=by rw[htag];simp):p:=h
end
end Go
namespace Go.Pr
open Go
inductive St(P:aF){α:Type}:Sem α->Prop
 |pure (a:α):St P (.pure a)
 |program {k:aF->Sem α}:St P (k P)->St P (.program k)
 |halt {h:Halt}:fQ h=true->St P (.halt h)
 |panic {v:ae}:Pl v->St P (.halt (.panic v))
section
variable {P:aF}{α β:Type}{ρ:Rn}
theorem St.bind{s:Sem α}{f:α->Sem β}(h:St P s)(hf:∀a,St P (f a)):St P (s>>=f):=by
 show St P (s.bind f)
 induction h with
 |pure a=>exact hf a
 |program _ ih=>exact .program ih
 |halt hd=>exact .halt hd
 |panic hv=>exact .panic hv
theorem St.R{s:Sem α}(h:St P s):aP P (fz α) ρ s s:=by
 induction h with
 |pure a=>exact .pure rfl
 |program _ ih=>exact .program ih
 |halt hd=>exact .halt hd
 |panic hv=>exact .panic (hv ρ)
theorem fh(a:α):St P (Pure.pure a:Sem α):=.pure a
theorem ml:St P Go.program:=.program (.pure P)
theorem sV{u:Unsupported}(h:fQ (.unsupported u)=true):St P (unsupported u:Sem α):=.halt h
theorem xN{w:String}:St P (stuck w:Sem α):=.halt rfl
theorem ox{c:Prop}[Decidable c]{x y:Sem α}(hx:St P x)(hy:St P y):St P (if c then x else y):=by split<;>assumption
theorem Ll(m:String):St P (panicString m:Sem α):=ml.bind λ_=>.panic λ_=>.iface _ (.string _)
theorem kO(t:aw):St P (typeInfo t):=ml.bind λp=>by
 cases p.info? t with
 |none=>exact xN
 |some i=>exact fh _
theorem yP(n:String):St P (cutType n):=ml.bind λp=>by
 cases p.cutTypes.find? (·.1==n)with
 |none=>exact xN
 |some i=>exact fh _
theorem nI(s:String)(t:aw):St P (Extern.Rtype.noPack s t):=ml.bind λ_=>ox (sV rfl) (fh _)
theorem zN(s:String)(t:aw):St P (Extern.Rtype.noPackNamed s t):=ml.bind λ_=>ml.bind λ_=>ox (sV rfl) (fh _)
theorem fH(s:String)(t:aw):St P (Extern.Rtype.noPackMethods s t):=ml.bind λ_=>ml.bind λ_=>ox (sV rfl) (fh _)
theorem xO(t:aw):St P (Extern.Rtype.spelt t):=(zN _ _).bind λ_=>(kO t).bind λ_=>ox (sV rfl) (fh _)
theorem np(t:aw):St P (Extern.Rtype.under t):=(kO t).bind λi=>by
 cases i.desc with
 |named q u=>exact(kO u).bind λ_=>fh _
 |_=>exact fh _
theorem vS(t:aw):St P (Extern.Rtype.kind t):=(np t).bind λx=>by obtain⟨_,i⟩:=x;dsimp only;split<;>first|exact fh _|exact xN
theorem yQ(t:aw):St P (Extern.Rtype.hasName t):=(kO t).bind λi=>by split<;>exact fh _
theorem DY(t:aw):St P (Extern.Rtype.elem? t):=(np t).bind λi=>by split<;>exact fh _
theorem kQ(a b:aw):St P (Extern.Rtype.implements a b):=(fH _ _).bind λ_=>(fH _ _).bind λ_=>(np a).bind λx=>(np b).bind λy=>by split;exact fh _;exact(kO b).bind λ_=>fh _;exact fh _
theorem AJ(a b:aw):St P (Extern.Rtype.directlyAssignable a b):=by
 unfold Extern.Rtype.directlyAssignable;refine ox (fh _) ?_;have fin:St P (do
  let(t,ti)<-Extern.Rtype.under a;let(v,vi)<-Extern.Rtype.under b
  match ti.desc,vi.desc with
  |.chan _ e,.chan .both e'=>Pure.pure (t==v||e==e')
  |_,_=>Pure.pure (t==v)):=(np a).bind λx=>(np b).bind λy=>by
  obtain⟨y1,y2⟩:=y;dsimp only;split<;>exact fh _
 exact(yQ a).bind λx=>(yQ b).bind λy=>ox (fh _) fin
theorem AK(a b:aw):St P (Extern.ReflectliteType.assignableTo a b):=by unfold Extern.ReflectliteType.assignableTo;have fin:St P (do Pure.pure ((<-Extern.Rtype.directlyAssignable a b)||(<-Extern.Rtype.implements a b))):=(AJ a b).bind λ_=>(kQ a b).bind λ_=>fh _;exact ox ((fH _ _).bind λ_=>(fH _ _).bind λ_=>fin) fin
theorem zO(a b:aw):St P (Extern.ReflectliteType.implements_ a b):=by unfold Extern.ReflectliteType.implements_;refine(vS a).bind λk=>?_;exact ox (St.bind (Ll _) λ_=>(fH _ _).bind λ_=>(nI _ _).bind λ_=>kQ a b) ((fH _ _).bind λ_=>(nI _ _).bind λ_=>kQ a b)
theorem qY(hK:KF P ρ){h h':ae}(hh:VR ρ h h'):aP P (fz aw) ρ (Extern.Rtype.ofHandle h) (Extern.Rtype.ofHandle h'):=by
 unfold Extern.Rtype.ofHandle;refine aq eA λσ p q l e=>?_;rw[e.1,e.2];have:handleType P h'=handleType P h:=by
  cases hh<;>try rfl
  rename_i a a' ha;show(if a'.block==P.globals.size then some a'.off else none)=(if a.block==P.globals.size then some a.off else none);rcases ha.b with⟨hk,e⟩|hr;rw[e,ha.off];have h1:=(ρ.lo hr).1;have h2:=(ρ.lo hr).2;have h3:=ρ.kb hK.handle;rw[if_neg (by simp;omega),if_neg (by simp;omega)]
 rw[this];cases handleType P h with
 |none=>exact aC
 |some t=>exact aB rfl
theorem DZ(hK:KF P ρ)(t:aw):aP P cI ρ (Extern.Rtype.handle t) (Extern.Rtype.handle t):=by unfold Extern.Rtype.handle;refine aq eA λσ p q l e=>?_;rw[e.1,e.2];exact aB (nC (hK.mono l) t)
theorem xP(hK:KF P ρ)(t:aw):aP P cI ρ (Extern.ReflectliteType.toType t) (Extern.ReflectliteType.toType t):=by unfold Extern.ReflectliteType.toType;refine aq (yP _).R λσ a b l e=>?_;have e:a=b:=e;subst e;refine aq (DZ (hK.mono l) t) λτ x y l2 h=>aB (.iface _ (.agg (.cons h .nil)))
theorem uN(hK:KF P ρ){h h':ae}(hh:VR ρ h h'):aP P (fz aw) ρ (Extern.ReflectliteType.ofRtype h) (Extern.ReflectliteType.ofRtype h'):=by
 unfold Extern.ReflectliteType.ofRtype;cases hh
 case agg xs xs' hx=>
  obtain⟨xs⟩:=xs;obtain⟨xs'⟩:=xs';have hx:LR ρ xs xs':=hx;cases hx with
  |nil=>exact aC
  |cons x y=>
   cases y with
   |cons _ _=>exact aC
   |nil=>refine aq (qY hK x) λσ t t' l e=>?_;subst e;exact aq (nI _ _).R λ_ _ _ _ _=>aB rfl
 all_goals exact aC
theorem N6(hK:KF P ρ){xs xs':bw}(hx:AR ρ xs xs'):aP P cI ρ (Extern.ReflectliteType.typeOf xs) (Extern.ReflectliteType.typeOf xs'):=by
 obtain⟨xs⟩:=xs;obtain⟨xs'⟩:=xs';have hx:LR ρ xs xs':=hx;unfold Extern.ReflectliteType.typeOf;cases hx with
 |nil=>exact aC
 |cons x y=>
  cases y with
  |cons _ _=>cases x<;>exact aC
  |nil=>
   cases x
   case nilIface=>exact aB .nilIface
   case iface t h=>exact xP hK t
   all_goals exact aC
theorem Lm(hK:KF P ρ){f:aw->Sem ae}(hf:∀σ t,ρ.Le σ->aP P cI σ (f t) (f t)){xs xs':bw}(hx:AR ρ xs xs'):aP P cI ρ (Extern.ReflectliteType.method f xs) (Extern.ReflectliteType.method f xs'):=by
 obtain⟨xs⟩:=xs;obtain⟨xs'⟩:=xs';have hx:LR ρ xs xs':=hx;unfold Extern.ReflectliteType.method;cases hx with
 |nil=>exact aC
 |cons x y=>
  cases y with
  |cons _ _=>exact aC
  |nil=>refine aq (uN hK x) λσ t t' l e=>?_;subst e;exact hf σ t l
theorem xQ{α β:Type}{A:Rn->α->β->Prop}(m:String):aP P A ρ (panicString m) (panicString m):=by unfold Go.panicString;refine aq eA λσ p q l e=>?_;rw[e.1,e.2];exact jg (.iface _ (.string _))
theorem QP(hK:KF P ρ)(t:aw):aP P cI ρ (Extern.ReflectliteType.elem t) (Extern.ReflectliteType.elem t):=by
 unfold Extern.ReflectliteType.elem;refine aq (DY t).R λσ a b l e=>?_;have e:a=b:=e;subst e;cases a with
 |some u=>exact xP (hK.mono l) u
 |none=>refine aq (xO t).R λτ x y _ e=>?_;have e:x=y:=e;subst e;exact xQ _
theorem yR(hK:KF P ρ)(w:String){f:aw->aw->Sem Bool}(hf:∀a b,St P (f a b)){xs xs':bw}(hx:AR ρ xs xs'):aP P cI ρ (Extern.ReflectliteType.relation w f xs) (Extern.ReflectliteType.relation w f xs'):=by
 obtain⟨xs⟩:=xs;obtain⟨xs'⟩:=xs';have hx:LR ρ xs xs':=hx;unfold Extern.ReflectliteType.relation;cases hx with
 |nil=>exact aC
 |cons x y=>
  cases y with
  |nil=>exact aC
  |cons y z=>
   cases z with
   |cons _ _=>cases y<;>exact aC
   |nil=>
    cases y
    case nilIface=>exact xQ _
    case iface t h=>refine aq (uN hK h) λσ u u' l e=>?_;subst e;refine aq (uN (hK.mono l) (x.mono l)) λτ v v' l2 e=>?_;subst e;refine aq (hf u v).R λμ b b' _ e=>?_;have e:b=b':=e;subst e;exact aB (.bool _)
    all_goals exact aC
theorem Fa(hK:KF P ρ){f:aw->Sem ae}(hf:∀σ t,ρ.Le σ->aP P cI σ (f t) (f t)){xs xs':bw}(hx:AR ρ xs xs'):aP P cI ρ (Extern.ReflectliteType.abiMethod f xs) (Extern.ReflectliteType.abiMethod f xs'):=by
 obtain⟨xs⟩:=xs;obtain⟨xs'⟩:=xs';have hx:LR ρ xs xs':=hx;unfold Extern.ReflectliteType.abiMethod;cases hx with
 |nil=>exact aC
 |cons x y=>
  cases y with
  |cons _ _=>exact aC
  |nil=>refine aq (qY hK x) λσ t t' l e=>?_;subst e;exact aq (nI _ _).R λτ _ _ l2 _=>hf τ t (l.trans l2)
theorem Ln(t:aw):aP P cI ρ (do Pure.pure (.int .u8 (<-Extern.Rtype.kind t))) (do Pure.pure (.int .u8 (<-Extern.Rtype.kind t))):=
 aq (vS t).R λ_ a b _ e=>by have e:a=b:=e;subst e;exact aB (.int _ _)
theorem QQ(hK:KF P ρ)(t:aw){a a':Addr}(ha:bI ρ a a')(n:Nat):aP P cI ρ (Extern.ReflectliteValue.mk t a n) (Extern.ReflectliteValue.mk t a' n):=by unfold Extern.ReflectliteValue.mk;refine aq (DZ hK t) λσ x y l h=>aq (vS t).R λτ k k' l2 e=>?_;have e:k=k':=e;subst e;exact aB (.agg (.cons (h.mono l2) (.cons (.ptr ((ha.mono l).mono l2)) (.cons (.int _ _) .nil))))
theorem H7:VR ρ Extern.ReflectliteValue.zeroV Extern.ReflectliteValue.zeroV:=.agg (.cons .iP (.cons .iP (.cons (.int _ _) .nil)))
theorem D1(hK:KF P ρ){x x':ae}(hx:VR ρ x x'):aP P cI ρ (Extern.ReflectliteValue.unpack x) (Extern.ReflectliteValue.unpack x'):=by
 cases hx
 case nilIface=>exact aB H7
 case iface t h=>exact aq (ni t h) λσ a a' l ha=>QQ (hK.mono l) t ha 0
 all_goals exact aC
theorem fZ{α β:Type}{A:Rn->α->β->Prop}(m:String)(k:Nat):aP P A ρ (Extern.ReflectliteValue.valueError m k) (Extern.ReflectliteValue.valueError m k):=by unfold Extern.ReflectliteValue.valueError;refine aq (yP _).R λσ t t' l e=>?_;have e:t=t':=e;subst e;refine aq (sK t) λτ u u' l2 e=>?_;subst e;exact aq (ni u (v:=.agg _) (v':=.agg _) (.agg (.cons (.string _) (.cons (.int _ _) .nil)))) λμ a a' l3 ha=>jg (.iface t (.ptr ha))
def N7(ρ:Rn)(x y:Option (aw×Addr×Nat)):Prop:=(x=none/\y=none)\/∃t a a' n,x=some (t,a,n)/\y=some (t,a',n)/\bI ρ a a'
theorem yS(hK:KF P ρ){x x':ae}(hx:VR ρ x x'):aP P N7 ρ (Extern.ReflectliteValue.partsAny x) (Extern.ReflectliteValue.partsAny x'):=by
 unfold Extern.ReflectliteValue.partsAny;cases hx
 case agg xs xs' hx=>
  obtain⟨xs⟩:=xs;obtain⟨xs'⟩:=xs';have hx:LR ρ xs xs':=hx;cases hx with
  |nil=>exact aC
  |cons x y=>
   cases y with
   |nil=>exact aC
   |cons y z=>
    cases z with
    |nil=>exact aC
    |cons z u=>
     cases u with
     |cons _ _=>exact aC
     |nil=>
      have go:∀{h h':ae}{a a':Addr}(n:Int),VR ρ h h'->bI ρ a a'->aP P N7 ρ (do Pure.pure (some (<-Extern.Rtype.ofHandle h,a,n.toNat))) (do Pure.pure (some (<-Extern.Rtype.ofHandle h',a',n.toNat))):=λn hh ha=>
       aq (qY hK hh) λσ t t' l e=>by subst e;exact aB (.inr ⟨_,_,_,_,rfl,rfl,ha.mono l⟩)
      cases z
      case int k n=>
       cases k
       case u64=>
        cases n with
        |ofNat m=>
         cases m with
         |zero=>cases y<;>exact aB (.inl ⟨rfl,rfl⟩)
         |succ m=>
          cases y
          case ptr a a' ha=>exact go (Int.ofNat (m+1)) x ha
          all_goals exact aC
        |negSucc m=>
         cases y
         case ptr a a' ha=>exact go (Int.negSucc m) x ha
         all_goals exact aC
       all_goals cases y<;>exact aC
      all_goals cases y<;>exact aC
 all_goals exact aC
theorem N7.mono{σ:Rn}(l:ρ.Le σ){x y:Option (aw×Addr×Nat)}(h:N7 ρ x y):N7 σ x y:=h.imp id λ⟨t,a,a',n,h1,h2,h3⟩=>⟨t,a,a',n,h1,h2,h3.mono l⟩
theorem AL(hK:KF P ρ){x x':ae}(hx:VR ρ x x'):aP P N7 ρ (Extern.ReflectliteValue.parts x) (Extern.ReflectliteValue.parts x'):=by unfold Extern.ReflectliteValue.parts;refine aq (yS hK hx) λσ p q l h=>?_;rcases h with⟨rfl,rfl⟩|⟨t,a,a',n,rfl,rfl,ha⟩;exact aB (.inl ⟨rfl,rfl⟩);exact aq (nI _ _).R λτ _ _ l2 _=>aB (.inr ⟨t,a,a',n,rfl,rfl,ha.mono l2⟩)
theorem uO(hK:KF P ρ){z:Sem ae}(hz:∀σ,ρ.Le σ->aP P cI σ z z){f:aw->Addr->Nat->Nat->Sem ae}(hf:∀σ t a a' n k,ρ.Le σ->bI σ a a'->aP P cI σ (f t a n k) (f t a' n k)){xs xs':bw}(hx:AR ρ xs xs'):
 aP P cI ρ (Extern.ReflectliteValue.method z f xs) (Extern.ReflectliteValue.method z f xs'):=by
 obtain⟨xs⟩:=xs;obtain⟨xs'⟩:=xs';have hx:LR ρ xs xs':=hx;unfold Extern.ReflectliteValue.method;cases hx with
 |nil=>exact aC
 |cons x y=>
  cases y with
  |cons _ _=>exact aC
  |nil=>refine aq (AL hK x) λσ p q l h=>?_;rcases h with⟨rfl,rfl⟩|⟨t,a,a',n,rfl,rfl,ha⟩;exact hz σ l;exact hf σ t a a' n _ l ha
theorem Fb(hK:KF P ρ){z:Sem ae}(hz:∀σ,ρ.Le σ->aP P cI σ z z){f:aw->Addr->Nat->Nat->Sem ae}(hf:∀σ t a a' n k,ρ.Le σ->bI σ a a'->aP P cI σ (f t a n k) (f t a' n k)){xs xs':bw}(hx:AR ρ xs xs'):
 aP P cI ρ (Extern.ReflectliteValue.methodAny z f xs) (Extern.ReflectliteValue.methodAny z f xs'):=by
 obtain⟨xs⟩:=xs;obtain⟨xs'⟩:=xs';have hx:LR ρ xs xs':=hx;unfold Extern.ReflectliteValue.methodAny;cases hx with
 |nil=>exact aC
 |cons x y=>
  cases y with
  |cons _ _=>exact aC
  |nil=>refine aq (yS hK x) λσ p q l h=>?_;rcases h with⟨rfl,rfl⟩|⟨t,a,a',n,rfl,rfl,ha⟩;exact hz σ l;exact hf σ t a a' n _ l ha
theorem N8(t:aw){a a':Addr}(ha:bI ρ a a')(n k:Nat):aP P cI ρ (Extern.ReflectliteValue.isNil t a n k) (Extern.ReflectliteValue.isNil t a' n k):=by unfold Extern.ReflectliteValue.isNil;refine cQ rfl (dt (fZ _ _)) ?_;refine aq (jZ t ha) λσ v v' l hv=>?_;cases hv<;>exact aB (.bool _)
theorem QR(hK:KF P ρ)(t:aw){a a':Addr}(ha:bI ρ a a')(n k:Nat):aP P cI ρ (Extern.ReflectliteValue.elem t a n k) (Extern.ReflectliteValue.elem t a' n k):=by
 unfold Extern.ReflectliteValue.elem;refine cQ rfl (dt (fZ _ _)) ?_;refine aq (jZ t ha) λσ v v' l hv=>?_;refine aq (DY t).R λτ e e' l2 he=>?_;have he:e=e':=he;subst he;have hv:=VR.mono l2 hv;have hK2:=(hK.mono l).mono l2;by_cases h20:k=20;subst h20;exact D1 hK2 hv
 ·by_cases h22:k=22
  ·subst h22;cases hv
   case iP=>exact aB H7
   case ptr b b' hb=>
    cases e with
    |none=>exact fZ _ _
    |some u=>exact QQ hK2 u hb _
   all_goals exact fZ _ _
  ·split;exact absurd rfl h20;exact absurd rfl h22;exact absurd rfl h22;split;exact absurd rfl h20;exact absurd rfl h22;exact absurd rfl h22;exact fZ _ _
theorem UK(hK:KF P ρ){xs xs':bw}(hx:AR ρ xs xs'):aP P cI ρ (Extern.ReflectliteValue.set xs) (Extern.ReflectliteValue.set xs'):=by
 obtain⟨xs⟩:=xs;obtain⟨xs'⟩:=xs';have hx:LR ρ xs xs':=hx;unfold Extern.ReflectliteValue.set;cases hx with
 |nil=>exact aC
 |cons x y=>
  cases y with
  |nil=>exact aC
  |cons y z=>
   cases z with
   |cons _ _=>exact aC
   |nil=>
    refine aq (AL hK x) λσ p q l h=>?_;refine aq (AL (hK.mono l) (y.mono l)) λτ p2 q2 l2 h2=>?_;replace h:=h.mono l2;rcases h with⟨rfl,rfl⟩|⟨t,a,a',n,rfl,rfl,ha⟩;exact bp rfl
    ·rcases h2 with⟨rfl,rfl⟩|⟨u,b,b',m,rfl,rfl,hb⟩;exact bp rfl
     ·dsimp only;refine dY Iff.rfl (λ_=>dt (bp rfl)) λ_=>?_;refine aq (jZ u hb) λμ v v' l3 hv=>?_;have ET:=ha.mono l3;refine aq (AJ t u).R λν c c' l4 e=>?_;have e:c=c':=e;subst e;cases c with
      |true=>exact aq (ou t (ET.mono l4) (VR.mono l4 hv)) λ_ _ _ _ _=>aB (.tuple LR.nil)
      |false=>
       refine aq (kQ t u).R λξ c c' l5 e=>?_;have e:c=c':=e;subst e;have ZQ:=(ET.mono l4).mono l5;have hv5:=VR.mono l5 (VR.mono l4 hv);cases c with
       |true=>
        refine aq (vS u).R λπ k k' l6 e=>?_;have e:k=k':=e;subst e;have hv6:=VR.mono l6 hv5;refine cQ rfl ?_ ?_
        ·have hv7:=hv6;cases hv6
         case nilIface=>exact bp rfl
         all_goals exact aq (ou t (ZQ.mono l6) hv7) λ_ _ _ _ _=>aB (.tuple LR.nil)
        ·exact aq (ou t (ZQ.mono l6) (.iface u hv6)) λ_ _ _ _ _=>aB (.tuple LR.nil)
       |false=>refine aq (xO u).R λπ x1 x2 l6 e=>?_;have e:x1=x2:=e;subst e;refine aq (xO t).R λπ x1 x2 l6 e=>?_;have e:x1=x2:=e;subst e;exact dt (xQ _)
end
end Go.Pr
namespace Go.Mx
open Go Go.Conc
open Go.ConcN (WgLive)
open Go.ConcR (KK WgAt mk rd smA stA wr)
inductive RT(α:Type):Type
 |leaf:RT α
 |node:(α->RT α)->RT α
def RT.Lt{α:Type}:RT α->RT α->Prop
 |_,.leaf=>False
 |r,.node f=>∃s,r=f s
theorem RT.wf{α:Type}:WellFounded (RT.Lt (α:=α)):=⟨λr=>by
 induction r with
 |leaf=>exact⟨_,λy hy=>hy.elim⟩
 |node f ih=>exact⟨_,λy hy=>by obtain⟨s,rfl⟩:=hy;exact ih s⟩⟩
def AO{α:Type}(r:α->α->Prop)(l' l:List α):Prop:=∃a x y b,l=a++x::b/\l'=a++y::b/\r y x
theorem AO.cons_inv{α:Type}{r:α->α->Prop}{l':List α}{x:α}{l:List α}(h:AO r l' (x::l)):(∃y,r y x/\l'=y::l)\/∃m,AO r m l/\l'=x::m:=by
 obtain⟨a,u,y,b,h1,h2,h3⟩:=h;cases a with
 |nil=>simp only[List.nil_append,List.cons.injEq]at h1;obtain⟨rfl,rfl⟩:=h1;exact .inl ⟨y,h3,h2⟩
 |cons c a=>simp only[List.cons_append,List.cons.injEq]at h1;obtain⟨rfl,rfl⟩:=h1;exact .inr ⟨a++y::b,⟨a,u,y,b,rfl,rfl,h3⟩,h2⟩
theorem AO.wf{α:Type}{r:α->α->Prop}(wf:WellFounded r):WellFounded (AO r):=⟨λl=>by
 induction l with
 |nil=>exact⟨_,λy hy=>by obtain⟨a,x,y,b,h,_⟩:=hy;cases a<;>simp at h⟩
 |cons x l ih=>
  induction x using wf.induction generalizing l with
  |_ x ihx=>
   induction ih with
   |intro l hl ihl=>
    refine⟨_,λy hy=>?_⟩;rcases hy.cons_inv with⟨u,hu,rfl⟩|⟨m,hm,rfl⟩;exact ihx u hu l ⟨_,hl⟩
    ·exact ihl m hm⟩
theorem AO.set{α:Type}{r:α->α->Prop}{l:List α}{i:Nat}{x y:α}(h:l[i]?=some x)(hr:r y x):AO r (l.set i y) l:=by obtain⟨hi,rfl⟩:=aX.1 h;refine⟨l.take i,l[i],y,l.drop (i+1),?_,?_,hr⟩;simp;exact List.set_eq_take_append_cons_drop.trans (by rw[if_pos hi])
structure Geo where
 base:Nat->Prop
 Wg:Nat
 Ch:Nat
 O:Nat
 N:Nat
 ty:aw
 ZR:aw
 z:ae
 zs:ae
 ans:Nat->ae
def fA(G:Geo)(w:aa):Prop:=∃cs:bw,w.heap[G.O]?=some (.cells cs G.ZR (0,0))/\cs.size=G.N
structure Rel(G:Geo)(M:cD)(w w1:aa):Prop where
 fix:∀b,G.base b\/M b->w1.heap[b]?=w.heap[b]?
 live:WgLive G.ty G.Wg w->WgLive G.ty G.Wg w1
 row:fA G w->fA G w1
 os:w1.os=w.os
 tape:w1.tape=w.tape
 output:w1.output=w.output
 size:w.heap.size<=w1.heap.size
theorem Rel.refl(G:Geo)(M:cD)(w:aa):Rel G M w w:=⟨λ_ _=>rfl,id,id,rfl,rfl,rfl,aj _⟩
theorem Rel.trans{G:Geo}{M:cD}{a b c:aa}(h:Rel G M a b)(k:Rel G M b c):Rel G M a c:=
 ⟨λx hx=>(k.fix x hx).trans (h.fix x hx),k.live∘h.live,k.row∘h.row,k.os.trans h.os,k.tape.trans h.tape,k.output.trans h.output,aS h.size k.size⟩
theorem Rel.mono{G:Geo}{M M':cD}{a b:aa}(h:Rel G M a b)(hm:∀x,M' x->M x):Rel G M' a b:=⟨λx hx=>h.fix x (hx.imp id (hm x)),h.live,h.row,h.os,h.tape,h.output,h.size⟩
theorem Rel.at(G:Geo)(M:cD)(w:aa)(d:Nat):Rel G M w (w.at d):=⟨λ_ _=>rfl,id,id,rfl,rfl,rfl,aj _⟩
structure Gu(M:cD)(w w':aa):Prop where
 old:∀b,b<w.heap.size->¬M b->w'.heap[b]?=w.heap[b]?
 os:w'.os=w.os
 tape:w'.tape=w.tape
 output:w'.output=w.output
 size:w.heap.size<=w'.heap.size
def abC(M:cD)(w w':aa):Nat->Prop:=λb=>M b\/(w.heap.size<=b/\b<w'.heap.size)
def blk:Loc->Option Nat
 |.cell a=>some a.block
 |.obj r=>some r
 |_=>none
def pC:Mark->Prop
 |.extern _|.noRoom=>True
 |_=>False
def H9(A B:cD)(e:Event):Prop:=
 (∀m,e.loc=.mark m->pC m)/\∀x,(MemAct.ofEvent e).touch?=some x->x.loc.isMemory=true->x.kind=.plain/\∃b,blk x.loc=some b/\(A b\/(x.write=false/\B b))
inductive Ph where
 |run|shut|rel|kF|d2|d3|d4|out
 deriving DecidableEq
structure WS where
 ph:Ph
 g:aG
 w:aa
 M:Nat->Prop
 H:Nat->Prop
 S:Nat->Prop
 k:Nat
instance :Inhabited WS:=⟨⟨.run,default,default,λ_=>False,λ_=>False,λ_=>False,0⟩⟩
def dE(G:Geo)(i:Nat):Addr:=⟨G.O,i,none⟩
inductive nJ(G:Geo)(P:aF)(K:WS->Prop)(s:WS):Prop
 |quiet {g':aG} {w':aa} {es:Array Event}:s.ph=.run\/s.ph=.shut->stepG P false s.g s.w=.go g' w' es->g'.status=.running->Gu s.M s.w w'->(∀e∈es,H9 (abC s.M s.w w') G.base e)->
  K {s with g:=g',w:=w',M:=abC s.M s.w w'}->nJ G P K s
 |idle {g':aG}:s.ph≠.out->stepG P false s.g s.w=.go g' s.w #[]->g'.status=.running->K {s with g:=g'}->nJ G P K s
 |store {g':aG} (i:Nat):s.ph=.run->s.H i->i<G.N->stepG P false s.g s.w=.go g' (s.w.setCell (dE G i) (G.ans i)) #[⟨.cell (dE G i),true,false⟩]->g'.status=.running->
  K {s with g:=g',w:=s.w.setCell (dE G i) (G.ans i),S:=λj=>s.S j\/j=i}->nJ G P K s
 |rel {g':aG}:s.ph=.shut->(∀i,s.H i->s.S i)->stepG P false s.g s.w=.go g' s.w #[mk (.releaseMerge (stA G.Wg))]->g'.status=.running->K {s with ph:=.rel,g:=g'}->nJ G P K s
 |kF {g':aG}:s.ph=.rel->stepG P false s.g s.w=.go g' s.w #[mk .disable]->g'.status=.running->K {s with ph:=.kF,g:=g'}->nJ G P K s
 |d1:s.ph=.kF->(∀v wt:Nat,wt<=1->v<2147483647->WgAt G.ty G.Wg s.w (((v+1:Nat):Int)*KK+(wt:Nat)) 0->
  ∃g',stepG P false s.g s.w=.go g' (s.w.setCell (stA G.Wg) (.int .u64 ((v:Nat)*KK+(wt:Nat)))) #[rd (stA G.Wg),wr (stA G.Wg)]/\
   ((v=0/\wt=1)->g'.status=.running/\K {s with ph:=.d2,g:=g',w:=s.w.setCell (stA G.Wg) (.int .u64 ((v:Nat)*KK+(wt:Nat)))})/\(¬(v=0/\wt=1)->∃q,QuitsD P q 1 g'))->nJ G P K s
 |d2:s.ph=.d2->(WgAt G.ty G.Wg s.w 1 0->∃g',stepG P false s.g s.w=.go g' s.w #[rd (stA G.Wg)]/\g'.status=.running/\K {s with ph:=.d3,g:=g'})->nJ G P K s
 |d3:s.ph=.d3->(WgAt G.ty G.Wg s.w 1 0->∃g',stepG P false s.g s.w=.go g' (s.w.setCell (stA G.Wg) (.int .u64 0)) #[wr (stA G.Wg)]/\g'.status=.running/\K {s with ph:=.d4,g:=g',w:=s.w.setCell (stA G.Wg) (.int .u64 0)})->nJ G P K s
 |d4:s.ph=.d4->mayWake P s.g=true->(WgAt G.ty G.Wg s.w 0 0->∃g',stepG P false s.g s.w=.go g' (s.w.setCell (smA G.Wg) (.int .u32 1)) (semEvents (smA G.Wg))/\∃q,QuitsD P q 1 g')->nJ G P K s
structure qZ(G:Geo)(P:aF)(K:WS->Prop)(s:WS):Prop where
 ph:s.ph=.run
 step:stepG P false s.g s.w=.comm {s.g with status:=.running,offers:=none} #[rcase G.Ch G.z] true (.recv true) s.w #[]
 got:∀i k',s.k=k'+1->i<G.N->K {s with g:=Go.Conc.served s.g (recvd true (.int .i64 i) true),H:=λj=>s.H j\/j=i,k:=k'}
 shut:K {s with ph:=.shut,g:=Go.Conc.served s.g (recvd true G.z false)}
def kp(G:Geo)(P:aF):RT WS->WS->Prop
 |.leaf,_=>False
 |.node f,s=>s.g.status=.running/\((∀w1,Rel G s.M s.w w1->nJ G P (λs1=>kp G P (f s1) s1) {s with w:=w1})\/(∀w1,Rel G s.M s.w w1->qZ G P (λs1=>kp G P (f s1) s1) {s with w:=w1}))
theorem kp.rely{G:Geo}{P:aF}{r:RT WS}{s:WS}(h:kp G P r s){w1:aa}(hr:Rel G s.M s.w w1):kp G P r {s with w:=w1}:=by
 cases r with
 |leaf=>exact h
 |node f=>exact⟨h.1,h.2.imp (λk w2 h2=>k w2 (hr.trans h2)) λk w2 h2=>k w2 (hr.trans h2)⟩
inductive jm where
 |sp(r:Nat)(pend:Bool)
 |sd(i:Nat)
 |wa(v:Nat)
 |Lp(v:Nat)
 |w3
 |w4
 |ke
structure MS where
 tag:jm
 d:Nat
 g:aG
 w:aa
instance :Inhabited MS:=⟨⟨.ke,0,default,default⟩⟩
def Ia(G:Geo)(e:Event):Prop:=H9 (λ_=>False) G.base e\/(∃a,a.block=G.Wg/\(e=⟨.mark (.read a),false,true⟩\/e=⟨.mark (.write a),false,true⟩))
def gU(r:Nat):jm:=if r=0 then .sd 0 else .sp r false
structure Same(w w':aa):Prop where
 heap:w'.heap=w.heap
 os:w'.os=w.os
 tape:w'.tape=w.tape
 output:w'.output=w.output
inductive mH(G:Geo)(P:aF)(Fin:aG->Prop)(K:MS->Prop)(s:MS):Prop
 |quiet {g':aG} {w':aa} {es:Array Event}:stepG P true s.g s.w=.go g' w' es->g'.status=.running->Same s.w w'->(∀e∈es,Ia G e)->K {s with g:=g',w:=w'}->mH G P Fin K s
 |kF {g':aG}:stepG P true s.g s.w=.go g' s.w #[mk .disable]->g'.status=.running->K {s with g:=g',d:=s.d+1}->mH G P Fin K s
 |Lq {g':aG}:stepG P true s.g s.w=.go g' s.w #[mk .enable]->g'.status=.running->K {s with g:=g',d:=s.d-1}->mH G P Fin K s
 |add (r:Nat):s.tag=.sp (r+1) false->(∀v:Nat,v<2147483647->WgAt G.ty G.Wg s.w ((v:Nat)*KK) 0->∃g',stepG P true s.g s.w=.go g' (s.w.setCell (stA G.Wg) (.int .u64 (((v+1:Nat):Int)*KK))) #[rd (stA G.Wg),wr (stA G.Wg)]/\g'.status=.running/\
  K {s with tag:=.sp (r+1) true,g:=g',w:=s.w.setCell (stA G.Wg) (.int .u64 (((v+1:Nat):Int)*KK))})->mH G P Fin K s
 |go {g' child:aG} (r:Nat):s.tag=.sp (r+1) true->s.d=0->stepG P true s.g s.w=.spawn g' child s.w #[]->g'.status=.running->(∃q,kp G P q ⟨.run,child,s.w,λ_=>False,λ_=>False,λ_=>False,G.N⟩)->K {s with tag:=gU r,g:=g'}->mH G P Fin K s
 |close:s.tag=.sd G.N->mayWake P s.g=true->(∀a b,s.w.heap[G.Ch]?=some (.chan 0 #[] false a b false)->∃g',stepG P true s.g s.w=.go g' {s.w with heap:=s.w.heap.setIfInBounds G.Ch (.chan 0 #[] true a b false)} #[⟨.obj G.Ch,false,true⟩,⟨.obj G.Ch,true,true⟩]/\g'.status=.running/\∀v,K {s with tag:=.wa v,g:=g',w:={s.w with heap:=s.w.heap.setIfInBounds G.Ch (.chan 0 #[] true a b false)}})->mH G P Fin K s
 |w1 (V:Nat):s.tag=.wa V->(∀v:Nat,v<=V->v<2147483648->WgAt G.ty G.Wg s.w ((v:Nat)*KK) 0->∃g',stepG P true s.g s.w=.go g' s.w #[rd (stA G.Wg)]/\g'.status=.running/\(v=0->K {s with tag:=.ke,g:=g'})/\(v≠0->K {s with tag:=.Lp v,g:=g'}))->mH G P Fin K s
 |w2 (V:Nat):s.tag=.Lp V->(∀v:Nat,v<=V->v<2147483648->WgAt G.ty G.Wg s.w ((v:Nat)*KK) 0->
  (v=V->∃g',stepG P true s.g s.w=.go g' (s.w.setCell (stA G.Wg) (.int .u64 ((v:Nat)*KK+1))) #[rd (stA G.Wg),wr (stA G.Wg)]/\g'.status=.running/\K {s with tag:=.w3,g:=g',w:=s.w.setCell (stA G.Wg) (.int .u64 ((v:Nat)*KK+1))})/\
  (v≠V->∃g',stepG P true s.g s.w=.go g' s.w #[rd (stA G.Wg)]/\g'.status=.running/\K {s with tag:=.wa v,g:=g'}))->mH G P Fin K s
 |w4:s.tag=.w4->(WgAt G.ty G.Wg s.w 0 0->∃g',stepG P true s.g s.w=.go g' s.w #[rd (stA G.Wg)]/\g'.status=.running/\K {s with tag:=.ke,g:=g'})->mH G P Fin K s
 |acq {g':aG}:s.tag=.ke->s.d=0->stepG P true s.g s.w=.go g' s.w #[mk (.acquire (stA G.Wg))]->g'.status=.running->Fin g'->mH G P Fin K s
structure rf(G:Geo)(P:aF)(K:MS->Prop)(s:MS)(i:Nat):Prop where
 tag:s.tag=.sd i
 lt:i<G.N
 step:stepG P true s.g s.w=.comm {s.g with status:=.running,offers:=none} #[scase G.Ch (.int .i64 i) G.zs] true .send s.w #[]
 next:K {s with tag:=.sd (i+1),g:=Go.Conc.served s.g undef}
structure xR(G:Geo)(P:aF)(K:MS->Prop)(s:MS):Prop where
 tag:s.tag=.w3
 off:s.g.offers=none
 down:(∃st,WgAt G.ty G.Wg s.w st 0)->stepG P true s.g s.w=.go {s.g with status:=.blocked} s.w #[]
 up:WgAt G.ty G.Wg s.w 0 1->∃g',stepG P true s.g s.w=.go g' (s.w.setCell (smA G.Wg) (.int .u32 0)) (semEvents (smA G.Wg))/\g'.status=.running/\K {s with tag:=.w4,g:=g',w:=s.w.setCell (smA G.Wg) (.int .u32 0)}
def jP(G:Geo)(P:aF)(Fin:aG->Prop):RT MS->MS->Prop
 |.leaf,_=>False
 |.node f,s=>s.g.status=.running/\((∀w1,Rel G (λ_=>False) s.w w1->mH G P Fin (λs1=>jP G P Fin (f s1) s1) {s with w:=w1})\/(∃i,∀w1,Rel G (λ_=>False) s.w w1->rf G P (λs1=>jP G P Fin (f s1) s1) {s with w:=w1} i)\/
  (∀w1,Rel G (λ_=>False) s.w w1->xR G P (λs1=>jP G P Fin (f s1) s1) {s with w:=w1}))
theorem jP.rely{G:Geo}{P:aF}{Fin:aG->Prop}{r:RT MS}{s:MS}(h:jP G P Fin r s){w1:aa}(hr:Rel G (λ_=>False) s.w w1):jP G P Fin r {s with w:=w1}:=by
 cases r with
 |leaf=>exact h
 |node f=>exact⟨h.1,h.2.imp (λk w2 h2=>k w2 (hr.trans h2)) (Or.imp (λ⟨i,k⟩=>⟨i,λw2 h2=>k w2 (hr.trans h2)⟩) λk w2 h2=>k w2 (hr.trans h2))⟩
open Go.ConcN (Deaf_absent RelBy fork_knows get_map_set get_map_set_same handedOver_all le_sumTo sumTo sumTo_congr sumTo_upd upd upd_ne upd_same)
open Go.ConcR (g_of_ofEvents loc_of_ofEvent)
def vT(S:cD):Loc->Prop:=λl=>∃b,blk l=some b/\S b
structure Tr(S T:cD)(n:Nat)(t:Trace):Prop where
 quiet:Quiet (vT S) t
 nr:∀said,¬Race said t
 gs:∀(i:Nat)(op:MemOp),t[i]?=some op->op.g<n
 pl:∀i a,touchAt t i=some a->a.loc.isMemory=true->¬vT S a.loc->a.kind=.plain
 tb:∀i a,touchAt t i=some a->∀b,blk a.loc=some b->T b\/S b
def mute(u:Trace):Prop:=∀op∈u,op.act.touch?=none
theorem eT{t u:Trace}(hu:mute u){i:Nat}{a:Touch}(h:touchAt (t++u) i=some a):i<t.size/\touchAt t i=some a:=by obtain⟨x,hx,hxa⟩:=touch_of h;rcases getElem?_append_cases hx with⟨hi,hx'⟩|⟨_,hxu⟩;exact⟨hi,by rw[touchAt_of hx'];exact hxa⟩;rw[hu x hxu]at hxa;cases hxa
theorem jo{t u:Trace}{i:Nat}{a:Touch}(h:touchAt (t++u) i=some a):(i<t.size/\touchAt t i=some a)\/(t.size<=i/\∃op∈u,(t++u)[i]?=some op/\op.act.touch?=some a):=by obtain⟨x,hx,hxa⟩:=touch_of h;rcases getElem?_append_cases hx with⟨hi,hx'⟩|⟨hi,hxu⟩;exact .inl ⟨hi,by rw[touchAt_of hx'];exact hxa⟩;exact .inr ⟨hi,x,hxu,hx,hxa⟩
theorem Fc{said:Bool}{t u:Trace}(h:¬Race said t)(hu:mute u):¬Race said (t++u):=by rintro⟨i,j,hij,⟨a,b,ha,hb,hc⟩,n1,n2⟩;obtain⟨hi,ha'⟩:=eT hu ha;obtain⟨hj,hb'⟩:=eT hu hb;exact h ⟨i,j,hij,⟨a,b,ha',hb',hc⟩,λe=>n1 (hb_app u e),λe=>n2 (hb_app u e)⟩
theorem Tr.mute{S T:cD}{n n':Nat}{t u:Trace}(h:Tr S T n t)(hn:n<=n')(hu:mute u)(hg:∀op∈u,op.g<n'):Tr S T n' (t++u):=by refine⟨h.quiet.app λop hop x hx _=>(by rw[hu op hop]at hx;cases hx),λsaid=>Fc (h.nr said) hu,λi op hi=>?_,λi a ha=>h.pl i a (eT hu ha).2,λi a ha=>h.tb i a (eT hu ha).2⟩;rcases getElem?_append_cases hi with⟨_,hi'⟩|⟨_,hiu⟩;exact aT (h.gs i op hi') hn;exact hg op hiu
def Lr(S T' _ B:cD)(Ow:Loc->Prop)(k:Nat)(op:MemOp):Prop:=
 op.g=k/\∀x,op.act.touch?=some x->(∀b,blk x.loc=some b->T' b\/S b)/\(x.loc.isMemory=true->(vT S x.loc/\x.kind≠.plain/\(x.kind=.said->k=0))\/(¬vT S x.loc/\x.kind=.plain/\(Ow x.loc\/(x.write=false/\∃b,blk x.loc=some b/\B b))))
theorem rh{l:Loc}{b:Nat}(h:blk l=some b):l.isMemory=true:=by cases l<;>simp_all [blk,Loc.isMemory]
theorem Tr.app{S T T' A B:cD}{Ow:Loc->Prop}{n k:Nat}{t u:Trace}(h:Tr S T n t)(hk:k<n)(hT:∀b,T b->T' b)(hu:∀op∈u,Lr S T' A B Ow k op)
 (kn:∀i a,touchAt t i=some a->a.loc.isMemory=true->¬vT S a.loc->(Ow a.loc\/(a.write=true/\∃b,blk a.loc=some b/\B b))->Knows t k i):Tr S T' n (t++u):=by
 refine⟨h.quiet.app λop hop x hx hs=>?_,λsaid=>noRace_append (h.nr said) (λop hop=>(hu op hop).1) λi a ha op hop b hb hc=>?_,λi op hi=>?_,λi a ha hm hs=>?_,λi a ha b hb=>?_⟩;obtain⟨b,hb,hS⟩:=hs;rcases((hu op hop).2 x hx).2 (rh hb)with⟨_,h2,h3⟩|⟨h1,_⟩;exact⟨h2,λe=>(hu op hop).1.trans (h3 e)⟩;exact absurd ⟨b,hb,hS⟩ h1
 ·have hm:b.loc.isMemory=true:=by rw[<-hc.1];exact hc.2.1
  rcases((hu op hop).2 b hb).2 hm with⟨h1,h2,h3⟩|⟨h1,h2,h3⟩;exact h.quiet.known h1 h2 h3 i a ha hc;(have hns:¬vT S a.loc:=by rw[hc.1];exact h1);rcases h3 with h3|⟨h3,h4⟩;exact kn i a ha hc.2.1 hns (.inl (by rw[hc.1];exact h3));refine kn i a ha hc.2.1 hns (.inr ⟨?_,by rw[hc.1];exact h4⟩);exact hc.2.2.1.resolve_right (by simp[h3])
 ·rcases getElem?_append_cases hi with⟨_,hi'⟩|⟨_,hiu⟩;exact h.gs i op hi';rw[(hu op hiu).1];exact hk
 ·rcases jo ha with⟨_,h1⟩|⟨_,op,hop,_,hx⟩;exact h.pl i a h1 hm hs;rcases((hu op hop).2 a hx).2 hm with⟨h1,_⟩|⟨_,h2,_⟩;exact absurd h1 hs;exact h2
 ·rcases jo ha with⟨_,h1⟩|⟨_,op,hop,_,hx⟩;exact(h.tb i a h1 b hb).imp (hT b) id;exact((hu op hop).2 a hx).1 b hb
def oy(S:cD)(t:Trace):Prop:=∀i a,touchAt t i=some a->a.loc.isMemory=true->¬vT S a.loc->Knows t 0 i
theorem oy.mute{S:cD}{t u:Trace}(h:oy S t)(hu:mute u):oy S (t++u):=λi a ha hm hs=>(h i a (eT hu ha).2 hm hs).app u
theorem oy.own{S:cD}{t u:Trace}(h:oy S t)(hu:∀op∈u,op.g=0):oy S (t++u):=λi a ha hm hs=>by rcases jo ha with⟨_,h1⟩|⟨_,op,hop,hx,_⟩;exact(h i a h1 hm hs).app u;have:=knows_own hx;rwa[hu op hop]at this
def HO(j0:Nat)(t:Trace):Prop:=∀i g,t.g? i=some g->g≠0->g<j0->t.counts i->∃j,t.g? j=some 0/\HappensBefore t i j
theorem HO.app{j0:Nat}{t u:Trace}(h:HO j0 t)(hu:∀op∈u,op.g≠0->op.g<j0->op.act.touch?=none):HO j0 (t++u):=by
 intro i g hg hne hlt hc;obtain⟨op,ho,hog⟩:=bQ.1 hg;rcases getElem?_append_cases ho with⟨hi,ho'⟩|⟨_,hou⟩
 ·obtain⟨j,hj,XG⟩:=h i g (by simp[Trace.g?,ho',hog]) hne hlt ((counts_old hi).1 hc);have hjs:j<t.size:=by obtain⟨op',ZT,_⟩:=bQ.1 hj;exact lt_size_of_getElem? ZT
  exact⟨j,by rw[g?_old hjs];exact hj,hb_app u XG⟩
 ·obtain⟨x,hx,_⟩:=hc;have:op.act.touch?=some x:=by simpa[Trace.act?,ho]using hx
  rw[hu op hou (hog▸hne) (hog▸hlt)]at this;cases this
theorem HO.handedOver{n:Nat}{t:Trace}(h:HO n t)(hg:∀(i:Nat)(op:MemOp),t[i]?=some op->op.g<n):t.HandedOver:=λi g hgi hne hc=>by obtain⟨op,ho,hog⟩:=bQ.1 hgi;exact h i g hgi hne (hog▸hg i op ho) hc
theorem AP{k:Nat}{fn:FuncId}{pos:String}{es:Array Event}(h:∀e∈es,∀m,e.loc=.mark m->pC m):∀op∈MemOp.ofEvents k fn pos es,op.act≠.mark .disable/\op.act≠.mark .enable:=by intro op hop;rw[ofEvents_eq]at hop;obtain⟨e,he,rfl⟩:=Array.mem_map.1 hop;exact⟨λe2=>h e he _ (loc_of_ofEvent e2),λe2=>h e he _ (loc_of_ofEvent e2)⟩
theorem nK{k:Nat}{fn:FuncId}{pos:String}{es:Array Event}(h:∀e∈es,(MemAct.ofEvent e).touch?=none):mute (MemOp.ofEvents k fn pos es):=by intro op hop;rw[ofEvents_eq]at hop;obtain⟨e,he,rfl⟩:=Array.mem_map.1 hop;exact h e he
theorem mm{e:Event}(h:e.mute=true):(MemAct.ofEvent e).touch?=none:=by
 obtain⟨loc,wr,sy⟩:=e;cases loc with
 |mark m=>cases m<;>simp_all [Event.mute,MemAct.ofEvent,MemAct.touch?]
 |_=>simp[Event.mute]at h
theorem abt{k:Nat}{fn:FuncId}{pos:String}{es:Array Event}(h:∀e∈es,∀a,e.loc≠.mark (.release a)){a:Addr}:∀op∈MemOp.ofEvents k fn pos es,op.act≠.mark (.release a):=by intro op hop e2;exact zdx
theorem yT{e:Event}(h:e.mute=true)(a:Addr):e.loc≠.mark (.release a):=by intro h2;obtain⟨loc,wr,sy⟩:=e;simp only at h2;subst h2;simp[Event.mute]at h
structure Calm(P:aF)(S T:cD)(n:Nat)(gs:Array aG)(w:aa)(t:Trace)(Q:Nat->Nat):Prop where
 n1:1<=n
 tr:Tr S T n t
 kn:oy S t
 ho:HO n t
 QS:∀a,NoRelease a t
 d0:Deaf t 0=0
 sz:gs.size=n
 tb:∀b,T b->b<w.heap.size
 sb:∀b,S b->b<w.heap.size
 lv:∀k,1<=k->k<n->∃g,gs[k]?=some g/\QuitsD P (Q k) (Deaf t k) g
structure CS where
 g:aG
 w:aa
 T:Nat->Prop
instance :Inhabited CS:=⟨⟨default,default,λ_=>False⟩⟩
def qE(P:aF)(S:cD)(L:CS->Prop):RT CS->CS->Prop
 |.leaf,s=>s.g.status=.running/\L s
 |.node f,s=>s.g.status=.running/\∀d,∃g' w' es T',stepG P true s.g (s.w.at d)=.go g' w' es/\(∀e∈es,H9 T' (λ_=>False) e)/\(∀b,s.T b->T' b)/\(∀b,T' b->b<w'.heap.size/\¬S b)/\s.w.heap.size<=w'.heap.size/\
  qE P S L (f ⟨g',w',T'⟩) ⟨g',w',T'⟩
theorem cW(gs:Array aG)(f:aG->aG)(a:Nat)(x:aG)(b:Nat)(hb:a≠b):((gs.map f).setIfInBounds a x)[b]?=(gs[b]?).map f:=by rw[bh hb,Array.getElem?_map]
theorem ed(gs:Array aG)(f:aG->aG)(a:Nat)(x:aG)(ha:a<gs.size):((gs.map f).setIfInBounds a x)[a]?=some x:=by simp[ha]
theorem woken_running{P:aF}{g g' b:aG}{w':aa}(h:b.status=.running):woken P g g' w' b=b:=by unfold woken;split;exact again_running _ (.inl h);rfl
theorem kT{g:aG}(h:g.status=.running):awake g:=λt=>by rw[h];simp
theorem QuitsD.awake{P:aF}{q d:Nat}{g:aG}(h:QuitsD P q d g):awake g:=λt=>by rcases h.status with e|e<;>rw[e]<;>simp
theorem ofEvents_g{k:Nat}{fn:FuncId}{pos:String}{es:Array Event}:∀op∈MemOp.ofEvents k fn pos es,op.g=k:=by intro op hop;rw[ofEvents_eq]at hop;obtain⟨e,he,rfl⟩:=Array.mem_map.1 hop;rfl
section
variable {P:aF}{S T:cD}{n:Nat}{gs:Array aG}{w:aa}{t:Trace}{Q:Nat->Nat}
theorem Calm.at(h:Calm P S T n gs w t Q)(d:Nat):Calm P S T n gs (w.at d) t Q:=⟨h.n1,h.tr,h.kn,h.ho,h.QS,h.d0,h.sz,h.tb,h.sb,h.lv⟩
theorem qb{k:Nat}{g:aG}{q d:Nat}{sl:Option (Nat×Nat)}(hk:k≠0)(hg:gs[k]?=some g)(hq:QuitsD P q d g)(hr:g.status=.running):
 ∃q' g' es,q=q'+1/\QuitsD P q' (deafBehind d es) g'/\(∀e∈es,e.mute=true)/\stepG P false g w=.go g' w es/\runT P (crowd gs w sl) k=(.next (crowd ((gs.map (woken P g g' w)).setIfInBounds k g') w sl),MemOp.ofEvents k g.frame.fn g.frame.place es):=by
 cases q with
 |zero=>rw[hq.1]at hr;cases hr
 |succ q=>rcases hq with hq|⟨_,g',es,hm,hst,hq⟩;rw[hq.1]at hr;cases hr;(have h0:(k==0)=false:=by simpa using hk);exact⟨q,g',es,rfl,hq,hm,hst w,runT_crowd_go hg (by rw[h0];exact hst w)⟩
theorem dy{k:Nat}(t:Trace)(fn:FuncId)(pos:String)(es:Array Event)(j:Nat):Deaf (t++MemOp.ofEvents k fn pos es) j=if j=k then deafBehind (Deaf t k) es else Deaf t j:=by
 split
 ·next h=>subst h;exact Deaf_own ..
 ·next h=>exact Deaf_other t (λe=>h e.symm) _ ofEvents_g
theorem AQ(L:CS->Prop)(f:CS->RT CS){a:aG}{sl:Option (Nat×Nat)}(h:Calm P S T n gs w t Q)(ha:gs[0]?=some a)(hb:qE P S L (.node f) ⟨a,w,T⟩)(hat:∀r s d,qE P S L r s->qE P S L r {s with w:=s.w.at d}):
 ∃gs' w' sl' ops T' a' Q' r',stepT P (crowd gs w sl)=(.next (crowd gs' w' sl'),ops)/\gs'[0]?=some a'/\Calm P S T' n gs' w' (t++ops) Q'/\qE P S L r' ⟨a',w',T'⟩/\(RT.Lt r' (.node f)\/(r'=.node f/\sumTo n Q'<sumTo n Q)):=by
 have hra:a.status=.running:=hb.1;have haw:∀g∈gs,awake g:=by
  intro g hg;obtain⟨i,hi⟩:=Array.mem_iff_getElem?.1 hg;cases i with
  |zero=>rw[ha]at hi;cases hi;exact kT hra
  |succ i=>have hlt:=(az.1 hi).1;obtain⟨g',h1,h2⟩:=h.lv (i+1) oM (by rw[<-h.sz];exact hlt);rw[hi]at h1;cases h1;exact QuitsD.awake h2
 obtain⟨i,g,d,sl',hg,hrun,hstep⟩:=crowd_pick (P:=P) (w:=w) (sl:=sl) haw ⟨0,a,ha,hra⟩;rw[hstep];have hn0:0<n:=h.n1;cases i with
 |zero=>rw[ha]at hg;cases hg;obtain⟨g',w',es,T',hgo,hes,hT,hT',hsz,hb'⟩:=hb.2 d;have hdl:∀e∈es,∀m,e.loc=.mark m->pC m:=λe he=>(hes e he).1;refine⟨_,w',sl',_,T',g',Q,_,runT_crowd_go ha hgo,ed _ _ _ _ zdS,?_,hb',.inl ⟨_,rfl⟩⟩;refine⟨h.n1,?_,h.kn.own ofEvents_g,h.ho.app λop hop h0=>absurd (ofEvents_g op hop) h0,λa=>(h.QS a).app (abt λe he a e2=>(hdl e he _ e2).elim),?_,zdZ,λb hb=>(hT' b hb).1,λb hb=>aT (h.sb b hb) hsz,λk k1 k2=>?_⟩;refine h.tr.app (A:=T') (B:=λ_=>False) (Ow:=λl=>∃b,blk l=some b/\T' b) hn0 hT (λop hop=>⟨ofEvents_g op hop,λx hx=>?_⟩) λi a' h1 h2 h3 _=>h.kn i a' h1 h2 h3;have hop':=hop;rw[ofEvents_eq]at hop';obtain⟨e,he,rfl⟩:=Array.mem_map.1 hop';refine⟨λb hb=>?_,λhm=>?_⟩;obtain⟨_,b',h1,h2⟩:=(hes e he).2 x hx (rh hb);rw[hb]at h1;cases h1;exact .inl (h2.resolve_right λk=>k.2);obtain⟨hp,b',h1,h2⟩:=(hes e he).2 x hx hm;have h2':=h2.resolve_right λk=>k.2;refine .inr ⟨?_,hp,.inl ⟨b',h1,h2'⟩⟩;rintro⟨b2,h3,h4⟩;rw[h1]at h3;cases h3;exact(hT' _ h2').2 h4;rw[ConcN.Deaf_still t 0 _ (AP hdl)];exact h.d0;obtain⟨g2,h1,h2⟩:=h.lv k k1 k2;refine⟨g2,by rw[cW _ _ _ _ _ oM,h1];simp[woken_quitsD h2],?_⟩;rw[ConcN.Deaf_still t k _ (AP hdl)];exact h2
 |succ i=>have hlt:=(az.1 hg).1;rw[h.sz]at hlt;obtain⟨g2,h1,h2⟩:=h.lv (i+1) oM hlt;rw[hg]at h1;cases h1;obtain⟨q',g',es,hq1,hq2,hm,_,QT⟩:=qb (w:=w.at d) (sl:=sl') oM hg h2 hrun;have hmu:mute (MemOp.ofEvents (i+1) g.frame.fn g.frame.place es):=nK λe he=>mm (hm e he);refine⟨_,_,sl',_,T,a,upd Q (i+1) q',.node f,QT,by rw[cW _ _ _ _ _ oM,ha];simp[woken_running hra],?_,hat _ _ d hb,.inr ⟨rfl,?_⟩⟩;refine⟨h.n1,h.tr.mute (aj _) hmu λop hop=>by rw[ofEvents_g op hop];exact hlt,h.kn.mute hmu,h.ho.app λop hop _ _=>hmu op hop,λa=>(h.QS a).app (abt λe he a e2=>yT (hm e he) a e2),zdN,zdZ,h.tb,h.sb,λk k1 k2=>?_⟩;by_cases hki:k=i+1;subst hki;exact⟨g',ed _ _ _ _ (by rw[h.sz];exact hlt),zdM⟩;obtain⟨g3,h3,h4⟩:=h.lv k k1 k2;exact⟨g3,by rw[cW _ _ _ _ _ (λe=>hki e.symm),h3];simp[woken_quitsD h4],by rw[dy,if_neg hki,upd_ne _ _ hki];exact h4⟩;have:sumTo n (upd Q (i+1) q')+Q (i+1)=sumTo n Q+q':=sumTo_upd Q q' id hlt;omega
theorem qE.at{L:CS->Prop}(hL:∀s d,L s->L {s with w:=s.w.at d}):∀(r:RT CS)(s:CS)(d:Nat),qE P S L r s->qE P S L r {s with w:=s.w.at d}
 |.leaf,s,d,h=>⟨h.1,hL s d h.2⟩
 |.node _,_,_,h=>⟨h.1,λd2=>h.2 d2⟩
theorem N9{L:CS->Prop}(hL:∀s d,L s->L {s with w:=s.w.at d}):∀(r:RT CS)(q:Nat){T:cD}{gs:Array aG}{w:aa}{t:Trace}{Q:Nat->Nat}{a:aG}{sl:Option (Nat×Nat)},sumTo n Q<=q->Calm P S T n gs w t Q->gs[0]?=some a->qE P S L r ⟨a,w,T⟩->
 ∃N gs' w' sl' t' T' Q' a',runNT P N (crowd gs w sl) t=(.next (crowd gs' w' sl'),t')/\gs'[0]?=some a'/\Calm P S T' n gs' w' t' Q'/\a'.status=.running/\L ⟨a',w',T'⟩:=by
 intro r
 induction r with
 |leaf=>exact λq T gs w t Q a sl _ h ha hb=>⟨0,gs,w,sl,t,T,Q,a,rfl,ha,h,hb.1,hb.2⟩
 |node f ih=>
  intro q
  induction q with
  |zero=>intro T gs w t Q a sl hq h ha hb;obtain⟨gs',w',sl',ops,T',a',Q',r',h1,h2,h3,h4,h5⟩:=AQ (sl:=sl) L f h ha hb (qE.at hL);rcases h5 with⟨s,rfl⟩|⟨_,h6⟩;exact zdr;omega
  |succ q ihq=>intro T gs w t Q a sl hq h ha hb;obtain⟨gs',w',sl',ops,T',a',Q',r',h1,h2,h3,h4,h5⟩:=AQ (sl:=sl) L f h ha hb (qE.at hL);rcases h5 with⟨s,rfl⟩|⟨rfl,h6⟩;exact zdr;obtain⟨N,g2,w2,s2,t2,T2,Q2,a2,k1,k2⟩:=ihq oM h3 h2 h4;exact⟨N+1,g2,w2,s2,t2,T2,Q2,a2,by rw[runNT_succ_next h1];exact k1,k2⟩
end
end Go.Mx
namespace Go.Mx
open Go Go.Conc
open Go.ConcN (Deaf_absent RelBy WgLive fork_knows get_map_set get_map_set_same le_sumTo sumTo sumTo_congr sumTo_upd upd upd_ne upd_same)
open Go.ConcR (KK WgAt g_of_ofEvents loc_of_ofEvent mk rd smA stA wr)
structure zP(a:Addr)(S B:cD)(Ow:Nat->Loc->Prop)(T:cD)(n j0 r0:Nat)(t:Trace):Prop where
 tr:Tr S T n t
 old:∀i x,i<r0->touchAt t i=some x->x.loc.isMemory=true->¬vT S x.loc->∀k,k=0\/j0<=k->k<n->Knows t k i
 new:∀i x,r0<=i->touchAt t i=some x->x.loc.isMemory=true->¬vT S x.loc->(x.write=false/\∃b,blk x.loc=some b/\B b)\/∃k,j0<=k/\t.g? i=some k/\Ow k x.loc
 ho:HO j0 t
 yU:∀a,NoRelease a t
structure Apart(B:cD)(Ow:Nat->Loc->Prop)(j0:Nat):Prop where
 one:∀k k' l,j0<=k->j0<=k'->Ow k l->Ow k' l->k=k'
 base:∀k l b,j0<=k->Ow k l->blk l=some b->¬B b
section
variable {a:Addr}{S B T T':cD}{Ow Ib:Nat->Loc->Prop}{n j0 r0:Nat}{t u:Trace}
theorem zP.mute(h:zP a S B Ow T n j0 r0 t)(_:r0<=t.size)(hT:∀b,T b->T' b)(hO:∀k l,j0<=k->Ow k l->Ib k l)(hu:mute u)(hg:∀op∈u,op.g<n)(hn:∀op∈u,∀a,op.act≠.mark (.release a)):zP a S B Ib T' n j0 r0 (t++u):=by have h1:=h.tr.mute (aj n) hu hg;refine⟨⟨h1.quiet,h1.nr,h1.gs,h1.pl,λi x hx b hb=>(h1.tb i x hx b hb).imp (hT b) id⟩,λi x hi hx hm hs k hk hkn=>(h.old i x hi (eT hu hx).2 hm hs k hk hkn).app u,λi x hi hx hm hs=>?_,h.ho.app λop hop _ _=>hu op hop,λa=>(h.yU a).app λop hop=>hn op hop a⟩;obtain⟨hlt,hx'⟩:=eT hu hx;rcases h.new i x hi hx' hm hs with k|⟨k,k1,k2,k3⟩;exact .inl k;exact .inr ⟨k,k1,zdE,hO k _ k1 k3⟩
theorem zP.app(h:zP a S B Ow T n j0 r0 t)(hr:r0<=t.size)(hT:∀b,T b->T' b)(hO:∀k l,j0<=k->Ow k l->Ib k l)(hA:Apart B Ib j0){k:Nat}(hk:k<n)(hlive:k=0\/j0<=k)(_:1<=j0){O:Loc->Prop}(UL:∀l,O l->j0<=k/\Ib k l){A:cD}
 (hu:∀op∈u,Lr S T' A B O k op)(hn:∀op∈u,∀a,op.act≠.mark (.release a)):zP a S B Ib T' n j0 r0 (t++u):=by
 have know:∀i x,touchAt t i=some x->x.loc.isMemory=true->¬vT S x.loc->(O x.loc\/(x.write=true/\∃b,blk x.loc=some b/\B b))->Knows t k i:=by intro i x hx hm hs hc;rcases cp i r0 with hi|hi;exact h.old i x hi hx hm hs k hlive hk;rcases h.new i x hi hx hm hs with⟨e1,b,e2,e3⟩|⟨k',k1,k2,k3⟩;rcases hc with hc|⟨hc,_⟩;obtain⟨c1,c2⟩:=UL _ hc;exact absurd e3 (hA.base k _ b c1 c2 e2);rw[e1]at hc;cases hc;rcases hc with hc|⟨_,b,hb,hB⟩;obtain⟨c1,c2⟩:=UL _ hc;have:=hA.one k k' _ c1 k1 c2 (hO k' _ k1 k3);subst this;obtain⟨op,ho,hog⟩:=bQ.1 k2;have:=knows_own ho;rwa[hog]at this;exact absurd hB (hA.base k' _ b k1 (hO k' _ k1 k3) hb)
 refine⟨h.tr.app hk hT hu know,λi x hi hx hm hs k' hk' hkn=>?_,λi x hi hx hm hs=>?_,h.ho.app λop hop h0 hlt=>?_,λa=>(h.yU a).app λop hop=>hn op hop a⟩;rcases jo hx with⟨_,hx'⟩|⟨hge,_⟩;exact(h.old i x hi hx' hm hs k' hk' hkn).app u;omega;rcases jo hx with⟨hlt,hx'⟩|⟨_,op,hop,hgo,hxa⟩;rcases h.new i x hi hx' hm hs with e|⟨k',k1,k2,k3⟩;exact .inl e;exact .inr ⟨k',k1,zdE,hO k' _ k1 k3⟩;rcases((hu op hop).2 x hxa).2 hm with⟨e,_⟩|⟨_,_,e|e⟩;exact absurd e hs;exact .inr ⟨k,(UL _ e).1,by simp[Trace.g?,hgo,(hu op hop).1],(UL _ e).2⟩;exact .inl e;have:=(hu op hop).1;rcases hlive with e|e;exact absurd (this.trans e) h0;omega
theorem zP.fork(h:zP a S B Ow T n j0 r0 t)(_:r0<=t.size)(h0:0<n)(hj:j0<=n){x y:MemOp}(hx:x.g=0/\x.act=.go n)(hy:y.g=n/\y.act=.start)(hd:Deaf t 0=0):zP a S B Ow T (n+1) j0 r0 (t++ #[x,y]):=by
 have hk:Deaf t n=0:=Deaf_absent λi op hi e=>by have:=h.tr.gs i op hi;omega
 have hm:Mx.mute #[x,y]:=by intro op hop;simp only[List.mem_toArray,List.mem_cons,List.not_mem_nil,or_false]at hop;rcases hop with rfl|rfl;rw[hx.2];rfl;rw[hy.2];rfl
 have hg:∀op∈#[x,y],op.g<n+1:=by intro op hop;simp only[List.mem_toArray,List.mem_cons,List.not_mem_nil,or_false]at hop;rcases hop with rfl|rfl;rw[hx.1];omega;rw[hy.1];omega
 refine⟨h.tr.mute (Nat.le_succ n) hm hg,λi z hi hz hm' hs k hk' hkn=>?_,λi z hi hz hm' hs=>?_,h.ho.app λop hop _ _=>hm op hop,λa=>(h.yU a).app λop hop e=>?_⟩;obtain⟨_,hz'⟩:=eT hm hz;rcases cp k n with hlt|hge;exact(h.old i z hi hz' hm' hs k hk' hlt).app _;(obtain rfl:k=n:=by omega);exact fork_knows hx hy hd hk (h.old i z hi hz' hm' hs 0 (.inl rfl) h0);obtain⟨hlt,hz'⟩:=eT hm hz;rcases h.new i z hi hz' hm' hs with e|⟨k,k1,k2,k3⟩;exact .inl e;exact .inr ⟨k,k1,zdE,k3⟩;simp only[List.mem_toArray,List.mem_cons,List.not_mem_nil,or_false]at hop;rcases hop with rfl|rfl;rw[hx.2]at e;cases e;rw[hy.2]at e;cases e
theorem zP.done(h:zP a S B Ow T n j0 r0 t)(_:0<n){q:Nat}(hq:t.act? q=some (.mark (.acquire a)))(hg:t.g? q=some 0)(hh:t.heard q)(hrel:∀k,j0<=k->k<n->∃r,RelBy a t k r/\r<q):HO n t/\oy S t:=by
 have ho:HO n t:=by intro i g hgi hne hlt hc;rcases cp g j0 with hj|hj;exact h.ho i g hgi hne hj hc;obtain⟨r,hr,hrq⟩:=hrel g hj hlt;have edge:HappensBefore t r q:=.single (.inr ⟨.marked hrq (.inr hr.act) hq (λk _ _=>h.yU a k),hr.heard,hh⟩);have hle:i<=r:=Nat.le_of_not_lt λhlt=>hr.after i hlt hgi hc;rcases cp i r with hlt|hge;exact⟨q,hg,.trans (.single (.inl ⟨hlt,g,hgi,hr.g⟩)) edge⟩;(obtain rfl:i=r:=by omega);exact⟨q,hg,edge⟩
 refine⟨ho,λi x hx hm hs=>?_⟩;obtain⟨op,hop,hxa⟩:=touch_of hx;have hgi:t.g? i=some op.g:=by simp[Trace.g?,hop]
 by_cases hz:op.g=0;have:=knows_own hop;rwa[hz]at this;obtain⟨j,hj,XG⟩:=ho i op.g hgi hz (h.tr.gs i op hop) ⟨x,hx,hm,.inl (by rw[h.tr.pl i x hx hm hs];simp)⟩;obtain⟨z,hz1,hz2⟩:=bQ.1 hj;exact⟨j,z,hz1,hz2,.inr XG⟩
end
section
variable {G:Geo}{w w' w1:aa}{M M':cD}
structure One(b0:Nat)(w w':aa):Prop where
 block:∀b,b≠b0->w'.heap[b]?=w.heap[b]?
 os:w'.os=w.os
 tape:w'.tape=w.tape
 output:w'.output=w.output
 size:w'.heap.size=w.heap.size
theorem One.setCell(w:aa)(a:Addr)(v:ae):One a.block w (w.setCell a v):=⟨λb hb=>by simp[World.setCell,Array.getElem?_modify,Ne.symm hb],rfl,rfl,rfl,by simp[World.setCell]⟩
theorem WgAt.live{ty:aw}{Wg:Nat}{w:aa}{st sm:Int}(h:WgAt ty Wg w st sm):WgLive ty Wg w:=⟨st,sm,h⟩
theorem Rel.one{b0:Nat}(h:One b0 w w')(hb:¬G.base b0)(hM:¬M b0)(hl:b0=G.Wg->WgLive G.ty G.Wg w->WgLive G.ty G.Wg w')(hr:b0=G.O->fA G w->fA G w'):Rel G M w w':=by refine⟨λb UM=>h.block b λe=>?_,λ⟨st,sm,k⟩=>?_,λ⟨cs,k1,k2⟩=>?_,h.os,h.tape,h.output,Nat.le_of_eq h.size.symm⟩;subst e;exact UM.elim hb hM;by_cases e:b0=G.Wg;exact hl e ⟨st,sm,k⟩;exact⟨st,sm,(h.block _ λe2=>e e2.symm).trans k⟩;by_cases e:b0=G.O;exact hr e ⟨cs,k1,k2⟩;exact⟨cs,(h.block _ λe2=>e e2.symm).trans k1,k2⟩
theorem Rel.same(h:Same w w'):Rel G M w w':=by refine⟨λb _=>by rw[h.heap],λ⟨st,sm,k⟩=>⟨st,sm,?_⟩,λ⟨cs,k1,k2⟩=>⟨cs,by rw[h.heap];exact k1,k2⟩,h.os,h.tape,h.output,by rw[h.heap];exact aj _⟩;unfold WgAt at*;rw[h.heap];exact k
theorem Rel.gu(h:Gu M w w')(hb:∀b,G.base b\/M' b->b<w.heap.size/\¬M b)(hW:¬M G.Wg)(hO:¬M G.O):Rel G M' w w':=by refine⟨λb UM=>h.old b (hb b UM).1 (hb b UM).2,λ⟨st,sm,k⟩=>⟨st,sm,?_⟩,λ⟨cs,k1,k2⟩=>⟨cs,?_,k2⟩,h.os,h.tape,h.output,h.size⟩;exact(h.old _ (AU k) hW).trans k;exact(h.old _ (AU k1) hO).trans k1
where AU {w:aa} {b:Nat} {o:Obj} (h:w.heap[b]?=some o):b<w.heap.size:=(az.1 h).1
theorem fA.set(h:fA G w)(i:Nat)(v:ae):fA G (w.setCell (dE G i) v):=by obtain⟨cs,h1,h2⟩:=h;refine⟨cs.setIfInBounds i v,?_,by simp[h2]⟩;unfold World.setCell dE;rw[Array.getElem?_modify,if_pos rfl,h1];rfl
theorem fA.D2(h:fA G w){i:Nat}(hi:i<G.N)(v:ae):(w.setCell (dE G i) v).cell? (dE G i)=some v:=by obtain⟨cs,h1,h2⟩:=h;unfold World.setCell dE World.cell?;simp only;rw[Array.getElem?_modify,if_pos rfl,h1];simp[h2,hi]
theorem Fe{i j:Nat}(hij:i≠j)(v:ae):(w.setCell (dE G i) v).cell? (dE G j)=w.cell? (dE G j):=by
 unfold World.setCell dE World.cell?;simp only;rw[Array.getElem?_modify,if_pos rfl];cases hb:w.heap[G.O]? with
 |none=>rfl
 |some o=>cases o<;>simp[bh hij]
theorem oz{w w':aa}{a:Addr}(e:w'.heap[a.block]?=w.heap[a.block]?):w'.cell? a=w.cell? a:=by unfold World.cell?;rw[e]
end
structure WD where
 st:WS
 rk:RT WS
 pk:Bool
 q:Nat
def WD.mu(d:WD):Nat×RT WS×Nat:=if d.st.ph=.out then(0,.leaf,d.q)else(1,d.rk,if d.pk then 0 else 1)
def CP:Nat×RT WS×Nat->Nat×RT WS×Nat->Prop:=Prod.Lex (·<·) (Prod.Lex RT.Lt (·<·))
theorem CP.wf:WellFounded CP:=(Prod.lex Nat.lt_wfRel (Prod.lex ⟨RT.Lt,RT.wf⟩ Nat.lt_wfRel)).wf
def Ic:RT MS×List (Nat×RT WS×Nat)×Nat->RT MS×List (Nat×RT WS×Nat)×Nat->Prop:=Prod.Lex RT.Lt (Prod.Lex (AO CP) (·<·))
theorem Ic.wf:WellFounded Ic:=(Prod.lex ⟨RT.Lt,RT.wf⟩ (Prod.lex ⟨AO CP,AO.wf CP.wf⟩ Nat.lt_wfRel)).wf
def Ff:Ph->Nat
 |.run|.shut|.rel=>0
 |_=>1
inductive pD(G:Geo)(P:aF)(d:WD)(dd:Nat)(g:aG)(w:aa):Prop
 |run:d.st.ph≠.out->d.pk=false->g.status=.running->(∀w,stepG P false g w=stepG P false d.st.g w)->mayWake P g=mayWake P d.st.g->kp G P d.rk {d.st with w:=w}->dd=Ff d.st.ph->pD G P d dd g w
 |eH (f:WS->RT WS):d.st.ph=.run->d.pk=true->g=parked {d.st.g with status:=.running,offers:=none} #[rcase G.Ch G.z] (.recv true)->d.rk=.node f->d.st.g.status=.running->(∀w1,Rel G d.st.M w w1->qZ G P (λs1=>kp G P (f s1) s1) {d.st with w:=w1})->dd=0->pD G P d dd g w
 |out:d.st.ph=.out->d.pk=false->QuitsD P d.q dd g->pD G P d dd g w
theorem pD.rely{G:Geo}{P:aF}{d:WD}{dd:Nat}{g:aG}{w w1:aa}(h:pD G P d dd g w)(hr:Rel G d.st.M w w1):pD G P d dd g w1:=by
 cases h with
 |run h1 h2 h3 h4 h5 h6 h7=>exact .run h1 h2 h3 h4 h5 (h6.rely hr) h7
 |eH f h1 h2 h3 h4 h5 h6 h7=>exact .eH f h1 h2 h3 h4 h5 (λw2 k=>h6 w2 (hr.trans k)) h7
 |out h1 h2 h3=>exact .out h1 h2 h3
theorem pD.awake{G:Geo}{P:aF}{d:WD}{dd:Nat}{g:aG}{w:aa}(h:pD G P d dd g w):awake g:=by
 cases h with
 |run h1 h2 h3 h4 h5 h6 h7=>exact kT h3
 |eH f h1 h2 h3 h4 h5 h6 h7=>subst h3;intro t;simp[parked]
 |out h1 h2 h3=>exact QuitsD.awake h3
theorem pD.woken{G:Geo}{P:aF}{d:WD}{dd:Nat}{g a a':aG}{w w':aa}(h:pD G P d dd g w)(hc:d.pk=true->∃s r tm,w'.heap[G.Ch]?=some (.chan 0 #[] false s r tm)):woken P a a' w' g=g:=by
 cases h with
 |run h1 h2 h3 h4 h5 h6 h7=>exact woken_running h3
 |eH f h1 h2 h3 h4 h5 h6 h7=>obtain⟨s,r,tm,hc⟩:=hc h2;subst h3;exact woken_recv_open a a' hc
 |out h1 h2 h3=>exact woken_quitsD h3
inductive qL where
 |run|eH|blk
 deriving DecidableEq
def qL.num:qL->Nat
 |.run=>1
 |_=>0
inductive ug(G:Geo)(P:aF)(Fin:aG->Prop)(fl:qL)(s:MS)(rk:RT MS)(a:aG)(w:aa):Prop
 |run:fl=.run->a=s.g->jP G P Fin rk {s with w:=w}->ug G P Fin fl s rk a w
 |eH (f:MS->RT MS) (i:Nat):fl=.eH->a=parked {s.g with status:=.running,offers:=none} #[scase G.Ch (.int .i64 i) G.zs] .send->rk=.node f->s.g.status=.running->(∀w1,Rel G (λ_=>False) w w1->rf G P (λs1=>jP G P Fin (f s1) s1) {s with w:=w1} i)->ug G P Fin fl s rk a w
 |blk (f:MS->RT MS):fl=.blk->a={s.g with status:=.blocked}->rk=.node f->s.g.status=.running->(∀w1,Rel G (λ_=>False) w w1->xR G P (λs1=>jP G P Fin (f s1) s1) {s with w:=w1})->ug G P Fin fl s rk a w
theorem ug.rely{G:Geo}{P:aF}{Fin:aG->Prop}{fl:qL}{s:MS}{rk:RT MS}{a:aG}{w w1:aa}(h:ug G P Fin fl s rk a w)(hr:Rel G (λ_=>False) w w1):ug G P Fin fl s rk a w1:=by
 cases h with
 |run h1 h2 h3=>exact .run h1 h2 (h3.rely hr)
 |eH f i h1 h2 h3 h4 h5=>exact .eH f i h1 h2 h3 h4 λw2 k=>h5 w2 (hr.trans k)
 |blk f h1 h2 h3 h4 h5=>exact .blk f h1 h2 h3 h4 λw2 k=>h5 w2 (hr.trans k)
theorem jP.running{G:Geo}{P:aF}{Fin:aG->Prop}{r:RT MS}{s:MS}(h:jP G P Fin r s):s.g.status=.running:=by
 cases r with
 |leaf=>exact h.elim
 |node f=>exact h.1
theorem kp.running{G:Geo}{P:aF}{r:RT WS}{s:WS}(h:kp G P r s):s.g.status=.running:=by
 cases r with
 |leaf=>exact h.elim
 |node f=>exact h.1
theorem ug.awake{G:Geo}{P:aF}{Fin:aG->Prop}{fl:qL}{s:MS}{rk:RT MS}{a:aG}{w:aa}(h:ug G P Fin fl s rk a w):awake a:=by
 cases h with
 |run h1 h2 h3=>subst h2;exact kT h3.running
 |eH f i h1 h2 h3 h4 h5=>subst h2;intro t;simp[parked]
 |blk f h1 h2 h3 h4 h5=>subst h2;intro t;simp
theorem AV{g:aG}{st:GoStatus}(h:g.status=st):{g with status:=st}=g:=by cases g;simp only at h;subst h;rfl
theorem ug.woken{G:Geo}{P:aF}{Fin:aG->Prop}{fl:qL}{s:MS}{rk:RT MS}{a:aG}{w:aa}(h:ug G P Fin fl s rk a w)(g g':aG)(hc:fl=.eH->∃s r tm,w.heap[G.Ch]?=some (.chan 0 #[] false s r tm)):
 ∃mQ,ug G P Fin mQ s rk (woken P g g' w a) w/\(mQ=fl\/(fl=.blk/\mQ=.run))/\((mayWake P g=true/\g'.status=.running)->fl=.blk->mQ=.run):=by
 cases h with
 |run h1 h2 h3=>subst h2;exact⟨fl,by rw[woken_running h3.running];exact .run h1 rfl h3,.inl rfl,λ_ e=>by rw[h1]at e;cases e⟩
 |eH f i h1 h2 h3 h4 h5=>
  obtain⟨s',r,tm,hc⟩:=hc h1;refine⟨fl,?_,.inl rfl,λ_ e=>by rw[h1]at e;cases e⟩;have:Conc.woken P g g' w a=a:=by rw[h2];exact woken_send_open g g' hc
  rw[this];exact .eH f i h1 h2 h3 h4 h5
 |blk f h1 h2 h3 h4 h5=>have ho:=(h5 w (Rel.refl ..)).off;by_cases hw:(mayWake P g&&g'.status !=.blocked&&g'.status !=.waiting)=true;refine⟨.run,?_,.inr ⟨h1,rfl⟩,λ_ _=>rfl⟩;(have e:Conc.woken P g g' w a=s.g:=by unfold Conc.woken;rw[if_pos hw,h2];(have e2:({s.g with status:=.blocked}:aG).again w={s.g with status:=.running}:=by unfold Goroutine.again;simp only at ho;simp only[ho]);rw[e2];exact AV h4);rw[e];exact .run rfl rfl (by rw[h3];exact⟨h4,.inr (.inr h5)⟩);refine⟨fl,?_,.inl rfl,λ⟨e1,e2⟩ _=>absurd (by simp[e1,e2]) hw⟩;(have e:Conc.woken P g g' w a=a:=by unfold Conc.woken;rw[if_neg hw]);rw[e];exact .blk f h1 h2 h3 h4 h5
def lH:Ph->Nat
 |.run|.shut|.rel|.kF=>1
 |_=>0
def jY(p:Ph):Prop:=p=.run\/p=.shut\/p=.rel\/p=.kF\/p=.out
def cnt(m:Nat)(F:Nat->Ph):Nat:=sumTo m λi=>lH (F i)
def pend:jm->Nat
 |.sp _ true=>1
 |_=>0
def isOpen:jm->Prop
 |.sp _ _|.sd _|.wa _|.Lp _=>True
 |_=>False
def lI:jm->Bool
 |.sp _ _|.sd _=>false
 |_=>true
def sent(G:Geo):jm->Nat
 |.sp _ _=>0
 |.sd i=>i
 |_=>G.N
def left:jm->Nat
 |.sp r _=>r
 |_=>0
inductive Mode(m:Nat)(F:Nat->Ph):jm->Int->Int->Prop
 |opn {tag:jm}:isOpen tag->(∀i,i<m->jY (F i))->(∀V,tag=.wa V->cnt m F<=V)->(∀V,tag=.Lp V->cnt m F<=V/\1<=V)->Mode m F tag (((cnt m F+pend tag:Nat):Int)*KK) 0
 |reg:(∀i,i<m->jY (F i))->1<=cnt m F->Mode m F .w3 (((cnt m F:Nat):Int)*KK+1) 0
 |last (L:Nat):L<m->(F L=.d2\/F L=.d3\/F L=.d4)->(∀i,i<m->i≠L->F i=.out)->Mode m F .w3 (if F L=.d4 then 0 else 1) 0
 |sema:(∀i,i<m->F i=.out)->Mode m F .w3 0 1
 |fin {tag:jm}:tag=.w4\/tag=.ke->(∀i,i<m->F i=.out)->Mode m F tag 0 0
structure ri(G:Geo)(S:cD):Prop where
 sW:S G.Wg
 sC:S G.Ch
 wc:G.Wg≠G.Ch
 so:¬S G.O
 bo:¬G.base G.O
 bs:∀b,G.base b->¬S b
structure lr(G:Geo)(S:cD)(W0:aa)(m:Nat)(M H X:Nat->Nat->Prop)(cl:Bool)(sn:Nat)(w:aa):Prop where
 row:fA G w
 ch:∃s r,w.heap[G.Ch]?=some (.chan 0 #[] cl s r false)
 base:∀b,G.base b->b<w.heap.size
 sb:∀b,S b->b<w.heap.size
 own:∀i b,i<m->M i b->b<w.heap.size/\¬G.base b/\¬S b/\b≠G.O
 kF:∀i j b,i<m->j<m->M i b->M j b->i=j
 hd:∀i x,i<m->H i x->x<sn
 vU:∀i j x,i<m->j<m->H i x->H j x->i=j
 hall:∀x,x<sn->∃i,i<m/\H i x
 Fg:∀i x,i<m->X i x->w.cell? (dE G x)=some (G.ans x)
 w0:Rel G (λ_=>False) W0 w
section
variable {G:Geo}{S:cD}{W0 w w':aa}{m:Nat}{M H X:Nat->Nat->Prop}{cl:Bool}{sn:Nat}
theorem lr.XH(h:lr G S W0 m M H X cl sn w):G.O<w.heap.size:=let⟨_,h1,_⟩:=h.row;(az.1 h1).1
theorem lr.one(h:lr G S W0 m M H X cl sn w)(g:ri G S)(ho:One G.Wg w w')(hr:Rel G (λ_=>False) w w'):lr G S W0 m M H X cl sn w':=by have hO:G.O≠G.Wg:=λe=>g.so (e▸g.sW);refine⟨hr.row h.row,?_,λb hb=>by rw[ho.size];exact h.base b hb,λb hb=>by rw[ho.size];exact h.sb b hb,λi b hi hb=>zdQ,h.kF,h.hd,h.vU,h.hall,λi x hi hx=>?_,h.w0.trans hr⟩;obtain⟨s,r,hc⟩:=h.ch;exact⟨s,r,(ho.block _ (Ne.symm g.wc)).trans hc⟩;rw[<-h.Fg i x hi hx];exact oz (ho.block _ hO)
theorem lr.gu(h:lr G S W0 m M H X cl sn w)(g:ri G S){i:Nat}(hi:i<m)(hg:Gu (M i) w w')(hr:Rel G (λ_=>False) w w'):lr G S W0 m (upd M i (abC (M i) w w')) H X cl sn w':=by
 have keep:∀b,b<w.heap.size->¬M i b->w'.heap[b]?=w.heap[b]?:=hg.old;have nS:∀b,S b->¬M i b:=λb hb hm=>(h.own i b hi hm).2.2.1 hb;have nO:¬M i G.O:=λhm=>(h.own i _ hi hm).2.2.2 rfl;refine⟨hr.row h.row,?_,λb hb=>aT (h.base b hb) hg.size,λb hb=>aT (h.sb b hb) hg.size,λj b hj hb=>?_,λj k b hj hk hb hb'=>?_,h.hd,h.vU,h.hall,λj x hj hx=>?_,h.w0.trans hr⟩;obtain⟨s,r,hc⟩:=h.ch;exact⟨s,r,(keep _ (h.sb _ g.sC) (nS _ g.sC)).trans hc⟩;by_cases e:j=i;subst e;rw[upd_same]at hb;rcases hb with hb|⟨h1,h2⟩;exact zdG;exact⟨h2,λk=>by have:=h.base b k;omega,λk=>by have:=h.sb b k;omega,λk=>by have:=h.XH;omega⟩;rw[upd_ne _ _ e]at hb;exact zdG
 ·have key:∀l b,l<m->l≠i->M l b->¬abC (M i) w w' b:=λl b hl hne h1 h2=>by rcases h2 with h2|⟨h2,_⟩;exact hne (h.kF l i b hl hi h1 h2);have:=(h.own l b hl h1).1;omega
  by_cases e:j=i;by_cases e2:k=i;omega;subst e;rw[upd_same]at hb;rw[upd_ne _ _ e2]at hb';exact absurd hb (key k b hk e2 hb');rw[upd_ne _ _ e]at hb;by_cases e2:k=i;subst e2;rw[upd_same]at hb';exact absurd hb' (key j b hj e hb);rw[upd_ne _ _ e2]at hb';exact h.kF j k b hj hk hb hb'
 ·rw[<-h.Fg j x hj hx];exact oz (keep _ h.XH nO)
theorem lr.store(h:lr G S W0 m M H X cl sn w)(g:ri G S){i x:Nat}(hi:i<m)(hx:x<G.N)(hr:Rel G (λ_=>False) w (w.setCell (dE G x) (G.ans x))):lr G S W0 m M H (upd X i λj=>X i j\/j=x) cl sn (w.setCell (dE G x) (G.ans x)):=by
 have ho:=One.setCell w (dE G x) (G.ans x);have cell:∀y,(w.cell? (dE G y)=some (G.ans y))->(w.setCell (dE G x) (G.ans x)).cell? (dE G y)=some (G.ans y):=λy hy=>by by_cases e:x=y;subst e;exact h.row.D2 hx _;rw[Fe e];exact hy
 refine⟨hr.row h.row,?_,λb hb=>by rw[ho.size];exact h.base b hb,λb hb=>by rw[ho.size];exact h.sb b hb,λi b hi hb=>zdQ,h.kF,h.hd,h.vU,h.hall,λj y hj hy=>?_,h.w0.trans hr⟩;obtain⟨s,r,hc⟩:=h.ch;exact⟨s,r,(ho.block _ λe=>g.so (by have:G.Ch=G.O:=e;rw[<-this];exact g.sC)).trans hc⟩;by_cases e:j=i;subst e;rw[upd_same]at hy;rcases hy with hy|rfl;exact cell y (h.Fg j y hj hy);exact h.row.D2 hx _;rw[upd_ne _ _ e]at hy;exact cell y (h.Fg j y hj hy)
end
def UN(G:Geo)(j0 m:Nat)(M H:Nat->Nat->Prop)(k:Nat)(l:Loc):Prop:=k<j0+m/\((∃b,blk l=some b/\M (k-j0) b)\/∃x,l=.cell (dE G x)/\H (k-j0) x)
theorem lr.apart{G:Geo}{S:cD}{W0 w:aa}{m:Nat}{M H X:Nat->Nat->Prop}{cl:Bool}{sn j0:Nat}(h:lr G S W0 m M H X cl sn w)(g:ri G S):Apart G.base (UN G j0 m M H) j0:=by
 have QU:∀x,blk (.cell (dE G x))=some G.O:=λ_=>rfl;refine⟨λk k' l hk hk' h1 h2=>?_,λk l b hk h1 hb hB=>?_⟩
 ·obtain⟨a1,h1⟩:=h1;obtain⟨a2,h2⟩:=h2;have key:k-j0=k'-j0:=by rcases h1 with⟨b,hb,h1⟩|⟨x,rfl,h1⟩;rcases h2 with⟨b',hb',h2⟩|⟨x',rfl,h2⟩;rw[hb]at hb';cases hb';exact h.kF _ _ _ oM oM h1 h2;rw[QU]at hb;cases hb;exact absurd rfl (h.own _ _ oM h1).2.2.2;rcases h2 with⟨b',hb',h2⟩|⟨x',e,h2⟩;rw[QU]at hb';cases hb';exact absurd rfl (h.own _ _ oM h2).2.2.2;(have:x=x':=by simpa[dE]using e);subst this;exact h.vU _ _ _ oM oM h1 h2
  omega
 ·obtain⟨a1,h1⟩:=h1;rcases h1 with⟨b',hb',h1⟩|⟨x,rfl,h1⟩;rw[hb]at hb';cases hb';exact(h.own _ _ oM h1).2.1 hB;rw[QU]at hb;cases hb;exact g.bo hB
def dM(D:Nat->WD)(i:Nat):Nat->Prop:=(D i).st.M
def dH(D:Nat->WD)(i:Nat):Nat->Prop:=(D i).st.H
def dX(D:Nat->WD)(i:Nat):Nat->Prop:=(D i).st.S
def dP(D:Nat->WD)(i:Nat):Ph:=(D i).st.ph
theorem sX{α β:Type}(φ:α->β)(D:Nat->α)(i:Nat)(x:α):(λa=>φ (upd D i x a))=upd (λa=>φ (D a)) i (φ x):=by funext a;by_cases e:a=i;subst e;simp[upd_same];simp[upd_ne _ _ e]
theorem vV(D:Nat->WD)(i:Nat)(x:WD):dM (upd D i x)=upd (dM D) i x.st.M:=sX (λd=>d.st.M) D i x
theorem vW(D:Nat->WD)(i:Nat)(x:WD):dH (upd D i x)=upd (dH D) i x.st.H:=sX (λd=>d.st.H) D i x
theorem Fh(D:Nat->WD)(i:Nat)(x:WD):dX (upd D i x)=upd (dX D) i x.st.S:=sX (λd=>d.st.S) D i x
theorem Fi(D:Nat->WD)(i:Nat)(x:WD):dP (upd D i x)=upd (dP D) i x.st.ph:=sX (λd=>d.st.ph) D i x
theorem eY{α:Type}(f:Nat->α)(i:Nat):upd f i (f i)=f:=by funext a;by_cases e:a=i;subst e;simp[upd_same];simp[upd_ne _ _ e]
structure RInv(G:Geo)(P:aF)(Fin:aG->Prop)(S:cD)(W0:aa)(j0 r0:Nat)(m:Nat)(gs:Array aG)(w:aa)(t:Trace)(s:MS)(rm:RT MS)(fl:qL)(D:Nat->WD)(st sm:Int)(Q:Nat->Nat):Prop where
 gk:ri G S
 j1:1<=j0
 sz:gs.size=j0+m
 rt:r0<=t.size
 mn:∃a,gs[0]?=some a/\ug G P Fin fl s rm a w
 wk:∀i,i<m->∃g,gs[j0+i]?=some g/\pD G P (D i) (Deaf t (j0+i)) g w
 lv:∀k,1<=k->k<j0->∃g,gs[k]?=some g/\QuitsD P (Q k) (Deaf t k) g
 tr:zP (stA G.Wg) S G.base (UN G j0 m (dM D) (dH D)) (λb=>b<w.heap.size/\¬S b) (j0+m) j0 r0 t
 d0:Deaf t 0=s.d
 wg:WgAt G.ty G.Wg w st sm
 mode:Mode m (dP D) s.tag st sm
 sem:sm=1->fl=.run
 hp:lr G S W0 m (dM D) (dH D) (dX D) (lI s.tag) (sent G s.tag) w
 vX:∀i,i<m->(D i).st.ph=.run->G.N<=sent G s.tag+(D i).st.k
 rl:∀i,i<m->(D i).st.ph≠.run->(D i).st.ph≠.shut->(∃r,RelBy (stA G.Wg) t (j0+i) r)/\∀x,(D i).st.H x->(D i).st.S x
 opn:lI s.tag=false->∀i,i<m->(D i).st.ph=.run
 AW:(lI s.tag=true\/fl=.eH)->∀i,i<m->(D i).pk=false
 Ie:fl=.eH->lI s.tag=false
 m1:(∀r p,s.tag≠.sp r p)->1<=m
 big:m+left s.tag<2147483647
def iw(j0 m:Nat)(D:Nat->WD)(rm:RT MS)(fl:qL)(Q:Nat->Nat):RT MS×List (Nat×RT WS×Nat)×Nat:=(rm,(List.range m).map λi=>(D i).mu,fl.num+2*sumTo j0 Q)
def RI(G:Geo)(P:aF)(Fin:aG->Prop)(S:cD)(W0:aa)(j0 r0:Nat)(μ:RT MS×List (Nat×RT WS×Nat)×Nat)(mc:Machine)(t:Trace):Prop:=
 ∃m gs w sl s rm fl D st sm Q,mc=crowd gs w sl/\RInv G P Fin S W0 j0 r0 m gs w t s rm fl D st sm Q/\μ=iw j0 m D rm fl Q
theorem Fj{j0 m:Nat}{D:Nat->WD}{rm:RT MS}{fl mQ:qL}{Q Q':Nat->Nat}{i:Nat}{d':WD}(hi:i<m)(h:CP d'.mu (D i).mu):Ic (iw j0 m (upd D i d') rm mQ Q') (iw j0 m D rm fl Q):=by
 refine Prod.Lex.right _ (Prod.Lex.left _ _ ?_);have e:((List.range m).map λa=>(upd D i d' a).mu)=((List.range m).map λa=>(D a).mu).set i d'.mu:=by apply List.ext_getElem;simp;intro a h1 h2;simp only[List.length_map,List.length_range]at h1;by_cases e:i=a;subst e;simp[upd_same];simp[List.getElem_set_ne e,upd_ne _ _ (Ne.symm e)]
 rw[e];exact AO.set (x:=(D i).mu) (by simp[hi]) h
section
variable {G:Geo}{P:aF}{Fin:aG->Prop}{S:cD}{W0:aa}{j0 r0 m:Nat}{gs:Array aG}{w w':aa}{t:Trace}{s:MS}{rm:RT MS}{fl:qL}{D:Nat->WD}{st sm:Int}{Q:Nat->Nat}{sl:Option (Nat×Nat)}
theorem Mode.w3{F:Nat->Ph}{tag:jm}{st:Int}(h:Mode m F tag st 1):tag=.w3:=by generalize e:(1:Int)=sm at h;cases h<;>first|rfl|cases e
theorem Ls(h:RInv G P Fin S W0 j0 r0 m gs w t s rm fl D st sm Q){i:Nat}(hi:i<m){g g':aG}{es:Array Event}(hg:gs[j0+i]?=some g)(hgo:stepG P false g w=.go g' w' es){d':WD}{st' sm':Int}
 (hpk:d'.pk=false)(hw:pD G P d' (deafBehind (Deaf t (j0+i)) es) g' w')
 (hr:∀j,j<m->j≠i->Rel G (D j).st.M w w')(hr0:Rel G (λ_=>False) w w')(hmu:CP d'.mu (D i).mu)
 (hwg:WgAt G.ty G.Wg w' st' sm')(hmode:Mode m (upd (dP D) i d'.st.ph) s.tag st' sm')(hsm:sm'=1->sm=1\/(mayWake P g=true/\g'.status=.running))
 (hp:lr G S W0 m (upd (dM D) i d'.st.M) (upd (dH D) i d'.st.H) (upd (dX D) i d'.st.S) (lI s.tag) (sent G s.tag) w')
 (hM:∀b,(D i).st.M b->d'.st.M b)(hH:∀x,(D i).st.H x->d'.st.H x)
 (Ig:d'.st.ph=.run->G.N<=sent G s.tag+d'.st.k)
 (hrl:d'.st.ph≠.run->d'.st.ph≠.shut->(∃r,RelBy (stA G.Wg) (t++MemOp.ofEvents (j0+i) g.frame.fn g.frame.place es) (j0+i) r)/\∀x,d'.st.H x->d'.st.S x)
 (Ih:lI s.tag=false->d'.st.ph=.run)
 (htk:∀op∈MemOp.ofEvents (j0+i) g.frame.fn g.frame.place es,Lr S (λb=>b<w'.heap.size/\¬S b) (λ_=>False) G.base (λl=>(∃b,blk l=some b/\d'.st.M b)\/∃x,l=.cell (dE G x)/\d'.st.H x) (j0+i) op)
 (hnr:∀op∈MemOp.ofEvents (j0+i) g.frame.fn g.frame.place es,∀a,op.act≠.mark (.release a)):
 ∃m1 ops μ',runT P (crowd gs w sl) (j0+i)=(.next m1,ops)/\Ic μ' (iw j0 m D rm fl Q)/\RI G P Fin S W0 j0 r0 μ' m1 (t++ops):=by
 have hne:j0+i≠0:=by have:=h.j1;omega
 have h0:((j0+i)==0)=false:=by simpa using hne
 have hrun:=runT_crowd_go (P:=P) (sl:=sl) (i:=j0+i) hg (by rw[h0];exact hgo);obtain⟨a,ha,hma⟩:=h.mn;have hopen:lI s.tag=false->∃s r tm,w'.heap[G.Ch]?=some (.chan 0 #[] false s r tm):=λe=>by exact zdH
 obtain⟨mQ,QV,hfl,hwake⟩:=(hma.rely hr0).woken g g' λe=>hopen (h.Ie e);have AX:mQ=.eH->fl=.eH:=λe=>by rcases hfl with e2|⟨_,e2⟩;exact e2▸e;rw[e2]at e;cases e
 refine⟨_,_,iw j0 m (upd D i d') rm mQ Q,hrun,Fj hi hmu,m,_,w',sl,s,rm,mQ,upd D i d',st',sm',Q,rfl,?_,rfl⟩;refine⟨h.gk,h.j1,zdZ,zdn,⟨_,by rw[cW _ _ _ _ _ hne,ha];rfl,QV⟩,λj hj=>?_,λk k1 k2=>?_,?_,?_,hwg,by rw[Fi];exact hmode,λe=>?_,by rw[vV,vW,Fh];exact hp,λj hj he=>?_,λj hj he hes=>?_,λe j hj=>?_,λe j hj=>?_,λe=>h.Ie (AX e),h.m1,h.big⟩
 ·by_cases e:j=i;subst e;exact⟨g',ed _ _ _ _ zdS,by rw[dy,if_pos rfl,upd_same];exact hw⟩
  ·obtain⟨g2,hg2,hw2⟩:=h.wk j hj;have hw3:=hw2.rely (hr j hj e);refine⟨g2,?_,by rw[dy,if_neg oM,upd_ne _ _ e];exact hw3⟩;rw[cW _ _ _ _ _ oM,hg2];simp only[cH,bq];refine hw3.woken λyV=>hopen ?_;cases hcl:lI s.tag with
   |false=>rfl
   |true=>exact zdD
 ·exact zds
 ·have hA:=hp.apart (j0:=j0) h.gk;rw[vV,vW];refine h.tr.app h.rt (λb hb=>⟨aT hb.1 hr0.size,hb.2⟩) (λk l hk hl=>?_) hA oM (.inr oM) h.j1 (λl hl=>⟨oM,oM,?_⟩) htk hnr;obtain⟨hk2,hl⟩:=hl;refine⟨hk2,?_⟩;by_cases e:k-j0=i;rw[e]at hl⊢;rw[upd_same,upd_same];exact hl.imp (λ⟨b,hb,hb2⟩=>⟨b,hb,hM b hb2⟩) λ⟨x,hx,hx2⟩=>⟨x,hx,hH x hx2⟩;rw[upd_ne _ _ e,upd_ne _ _ e];exact hl;rw[show j0+i-j0=i by omega,upd_same,upd_same];exact hl
 ·exact zdN
 ·have hw3:s.tag=.w3:=by subst e;exact hmode.w3
  have hf:fl=.run\/fl=.blk:=by
   cases ZU:fl with
   |run=>exact .inl rfl
   |blk=>exact .inr rfl
   |eH=>have:=h.Ie ZU;rw[hw3]at this;cases this
  have hres:fl=.run->mQ=.run:=λe2=>by rcases hfl with e3|⟨e3,_⟩;exact e3.trans e2;rw[e2]at e3;cases e3
  rcases hsm e with e2|e2;exact hres (h.sem e2);exact hf.elim hres λe3=>hwake e2 e3
 ·by_cases e:j=i;subst e;rw[upd_same]at he⊢;exact Ig he;rw[upd_ne _ _ e]at he⊢;exact h.vX j hj he
 ·by_cases e:j=i;subst e;rw[upd_same]at he hes⊢;exact hrl he hes;rw[upd_ne _ _ e]at he hes⊢;obtain⟨⟨r,hr1⟩,hr2⟩:=h.rl j hj he hes;exact⟨⟨r,ConcN.RelBy.appOther hr1 ofEvents_g oM⟩,hr2⟩
 ·by_cases e2:j=i;subst e2;rw[upd_same];exact Ih e;rw[upd_ne _ _ e2];exact h.opn e j hj
 ·by_cases e2:j=i;subst e2;rw[upd_same];exact hpk;rw[upd_ne _ _ e2];exact h.AW (e.imp id AX) j hj
theorem abD(h:RInv G P Fin S W0 j0 r0 m gs w t s rm fl D st sm Q){a a':aG}{es:Array Event}(ha:gs[0]?=some a)(hgo:stepG P true a w=.go a' w' es){s':MS}{rm':RT MS}{st' sm':Int}
 (_:fl=.run)(hag:a'=s'.g)(hws:s'.w=w')(hb:jP G P Fin rm' s')(hlt:RT.Lt rm' rm)(hone:One G.Wg w w')(hlive:WgLive G.ty G.Wg w->WgLive G.ty G.Wg w')
 (hwg:WgAt G.ty G.Wg w' st' sm')(hmode:Mode m (dP D) s'.tag st' sm')(D3:lI s'.tag=lI s.tag)(AY:sent G s'.tag=sent G s.tag)(hm1:(∀r p,s'.tag≠.sp r p)->1<=m)(hbig:left s'.tag<=left s.tag)(hd:deafBehind s.d es=s'.d)
 (htk:∀op∈MemOp.ofEvents 0 a.frame.fn a.frame.place es,Lr S (λb=>b<w'.heap.size/\¬S b) (λ_=>False) G.base (λ_=>False) 0 op)
 (hnr:∀op∈MemOp.ofEvents 0 a.frame.fn a.frame.place es,∀a,op.act≠.mark (.release a)):
 ∃m1 ops μ',runT P (crowd gs w sl) 0=(.next m1,ops)/\Ic μ' (iw j0 m D rm fl Q)/\RI G P Fin S W0 j0 r0 μ' m1 (t++ops):=by
 have hrun:=runT_crowd_go (P:=P) (sl:=sl) (i:=0) ha zdL;have QW:¬G.base G.Wg:=λe=>h.gk.bs _ e h.gk.sW;have nO:G.Wg≠G.O:=λe=>h.gk.so (e▸h.gk.sW);have hr0:Rel G (λ_=>False) w w':=Rel.one hone QW id (λ_=>hlive) λe=>absurd e nO;have hrw:∀j,j<m->Rel G (D j).st.M w w':=λj hj=>Rel.one hone QW (λe=>(h.hp.own j _ hj e).2.2.1 h.gk.sW) (λ_=>hlive) λe=>absurd e nO;have hp:=h.hp.one h.gk hone hr0;have hopen:lI s.tag=false->∃s r tm,w'.heap[G.Ch]?=some (.chan 0 #[] false s r tm):=λe=>by exact zdH
 refine⟨_,_,iw j0 m D rm' .run Q,hrun,Prod.Lex.left _ _ hlt,m,_,w',sl,s',rm',.run,D,st',sm',Q,rfl,?_,rfl⟩;refine⟨h.gk,h.j1,zdZ,zdn,⟨a',ed _ _ _ _ (by rw[h.sz];have:=h.j1;omega),.run rfl hag (by subst hws;exact hb)⟩,λj hj=>?_,λk k1 k2=>?_,?_,?_,hwg,hmode,λ_=>rfl,by rw[D3,AY];exact hp,λj hj he=>by rw[AY];exact h.vX j hj he,λj hj he hes=>?_,λe=>h.opn (D3▸e),λe=>?_,λe=>zd1,hm1,by have:=h.big;omega⟩
 ·obtain⟨g2,hg2,hw2⟩:=h.wk j hj;have hw3:=hw2.rely (hrw j hj);refine⟨g2,?_,by rw[dy,if_neg zdA];exact hw3⟩;rw[cW _ _ _ _ _ zdA,hg2];simp only[cH,bq];refine hw3.woken λyV=>hopen ?_;cases hcl:lI s.tag with
  |false=>rfl
  |true=>exact zdD
 ·exact zds
 ·exact h.tr.app h.rt (λb hb=>⟨aT hb.1 hr0.size,hb.2⟩) (λk l _ hl=>hl) (hp.apart (j0:=j0) h.gk) zdA (.inl rfl) h.j1 (λl hl=>hl.elim) htk hnr
 ·rw[dy,if_pos rfl,h.d0];exact hd
 ·obtain⟨⟨r,hr1⟩,hr2⟩:=h.rl j hj he hes;exact⟨⟨r,ConcN.RelBy.appOther hr1 ofEvents_g zdA⟩,hr2⟩
 ·rcases e with e|e;exact h.AW (.inl (D3▸e));cases e
end
open Go.ConcN (sumTo_le)
theorem xS{es:Array Event}(h:∀e∈es,∀m,e.loc=.mark m->pC m)(d:Nat):deafBehind d es=d:=by
 unfold deafBehind;refine Array.foldl_induction (motive:=λ_ x=>x=d) rfl λi x hx=>?_;have:=h es[i] (Array.getElem_mem _);split
 ·next e=>exact(this _ e).elim
 ·next e=>exact(this _ e).elim
 ·exact hx
theorem Ii{S A B:cD}{A':cD}{O:Loc->Prop}{sz k:Nat}{fn:FuncId}{pos:String}{es:Array Event}(h:∀e∈es,H9 A B e)(hA:∀b,A b->b<sz/\¬S b)(hB:∀b,B b->b<sz/\¬S b)(hO:∀l b,blk l=some b->A b->O l):
 ∀op∈MemOp.ofEvents k fn pos es,Lr S (λb=>b<sz/\¬S b) A' B O k op:=by
 intro op hop;refine⟨ofEvents_g op hop,λx hx=>?_⟩;rw[ofEvents_eq]at hop;obtain⟨e,he,rfl⟩:=Array.mem_map.1 hop;refine⟨λb hb=>?_,λhm=>?_⟩;obtain⟨_,b',h1,h2⟩:=(h e he).2 x hx (rh hb);rw[hb]at h1;cases h1;exact .inl (h2.elim (hA b) λk=>hB b k.2);obtain⟨hp,b',h1,h2⟩:=(h e he).2 x hx hm;refine .inr ⟨?_,hp,?_⟩;rintro⟨b2,h3,h4⟩;rw[h1]at h3;cases h3;exact h2.elim (λk=>(hA _ k).2 h4) λk=>(hB _ k.2).2 h4;exact h2.imp (hO _ _ h1) λk=>⟨k.1,b',h1,k.2⟩
theorem Oa{A B:cD}{k:Nat}{fn:FuncId}{pos:String}{es:Array Event}(h:∀e∈es,H9 A B e):∀op∈MemOp.ofEvents k fn pos es,∀a,op.act≠.mark (.release a):=by intro op hop a e2;rw[ofEvents_eq]at hop;obtain⟨e,he,rfl⟩:=Array.mem_map.1 hop;exact(h e he).1 _ (loc_of_ofEvent e2)
def yX(S:cD)(e:Event):Prop:=(MemAct.ofEvent e).touch?=none\/(∃a wr,e=⟨.cell a,wr,true⟩/\S a.block)\/∃c,e=⟨.obj c,false,true⟩/\S c
theorem kU{S A B:cD}{O:Loc->Prop}{T':cD}{k:Nat}{fn:FuncId}{pos:String}{es:Array Event}(h:∀e∈es,yX S e):∀op∈MemOp.ofEvents k fn pos es,Lr S T' A B O k op:=by
 intro op hop;refine⟨ofEvents_g op hop,λx hx=>?_⟩;rw[ofEvents_eq]at hop;obtain⟨e,he,rfl⟩:=Array.mem_map.1 hop;rcases h e he with h1|⟨a,wr,rfl,h2⟩|⟨c,rfl,h2⟩;simp only at hx;rw[h1]at hx;cases hx
 ·have hx':x=⟨.cell a,wr,.atomic⟩:=by cases wr<;>simp[MemAct.ofEvent,MemAct.touch?]at hx<;>exact hx.symm
  subst hx';refine⟨λb hb=>?_,λ_=>.inl ⟨⟨a.block,rfl,h2⟩,sM,sM⟩⟩;simp only[blk,bq]at hb;subst hb;exact .inr h2
 ·have hx':x=⟨.obj c,false,.atomic⟩:=by simp[MemAct.ofEvent,MemAct.touch?]at hx;exact hx.symm
  subst hx';refine⟨λb hb=>?_,λ_=>.inl ⟨⟨c,rfl,h2⟩,sM,sM⟩⟩;simp only[blk,bq]at hb;subst hb;exact .inr h2
theorem gV{k:Nat}{fn:FuncId}{pos:String}{es:Array Event}(h:∀e∈es,∀a,e.loc≠.mark (.release a)):∀op∈MemOp.ofEvents k fn pos es,∀a,op.act≠.mark (.release a):=by intro op hop a e2;exact zdx
theorem Ij{m i:Nat}(F:Nat->Ph)(p:Ph)(hi:i<m):cnt m (upd F i p)+lH (F i)=cnt m F+lH p:=sumTo_upd F p lH hi
theorem M9(p:Ph):lH p<=1:=by cases p<;>simp[lH]
theorem vY(m:Nat)(F:Nat->Ph):cnt m F<=m:=by have:=sumTo_le (f:=λi=>lH (F i)) (c:=1) (j:=m) λi _=>M9 (F i);simpa[cnt]using this
theorem yY{m i:Nat}(F:Nat->Ph)(hi:i<m):lH (F i)<=cnt m F:=le_sumTo (f:=λi=>lH (F i)) hi
theorem Fl{α:Type}(f:Nat->α)(i:Nat)(x:α)(j:Nat):upd f i x j=if j=i then x else f j:=rfl
theorem Mode.shift{m:Nat}{F:Nat->Ph}{tag:jm}{st sm:Int}(h:Mode m F tag st sm){i:Nat}(hi:i<m){p:Ph}(h1:lH (F i)=1)(h2:lH p=1):Mode m (upd F i p) tag st sm:=by
 have ho:jY p:=by cases p<;>simp_all [lH,jY]
 have hc:cnt m (upd F i p)=cnt m F:=by have:=Ij F p hi;omega
 have hop:(∀j,j<m->jY (F j))->∀j,j<m->jY (upd F i p j):=λk j hj=>by rw[Fl];split;exact ho;exact k j hj
 cases h with
 |opn a b c d=>rw[<-hc];exact .opn a (hop b) (λV e=>by rw[hc];exact c V e) λV e=>by rw[hc];exact d V e
 |reg a b=>rw[<-hc];exact .reg (hop a) (by rw[hc];exact b)
 |last L a b c=>
  by_cases e:i=L;subst e;rcases b with b|b|b<;>rw[b]at h1<;>simp[lH]at h1
  ·rw[c i hi e]at h1;simp[lH]at h1
 |sema a=>rw[a i hi]at h1;simp[lH]at h1
 |fin _ a=>rw[a i hi]at h1;simp[lH]at h1
theorem vZ{m:Nat}{F:Nat->Ph}(h:∀j,j<m->jY (F j))(hc:cnt m F=0):∀j,j<m->F j=.out:=λj hj=>by have:=yY F hj;rcases h j hj with e|e|e|e|e;exact zdz;exact zdz;exact zdz;exact zdz;exact e
theorem Mode.d1{m:Nat}{F:Nat->Ph}{tag:jm}{st sm:Int}(h:Mode m F tag st sm){i:Nat}(hi:i<m)(h1:F i=.kF):
 ∃v wt:Nat,wt<=1/\st=((v+1:Nat):Int)*KK+(wt:Nat)/\sm=0/\v<=m/\((v=0/\wt=1)->Mode m (upd F i .d2) tag ((v:Nat)*KK+(wt:Nat)) 0)/\(¬(v=0/\wt=1)->Mode m (upd F i .out) tag ((v:Nat)*KK+(wt:Nat)) 0):=by
 have h2:lH (F i)=1:=by rw[h1];rfl
 have hc1:=yY F hi;have hcm:=vY m F;have hco:cnt m (upd F i .out)+1=cnt m F:=by have:=Ij F .out hi;rw[h2]at this;simpa[lH]using this
 have hop:(∀j,j<m->jY (F j))->∀j,j<m->jY (upd F i .out j):=λk j hj=>by rw[Fl];split;exact .inr (.inr (.inr (.inr rfl)));exact k j hj
 cases h with
 |opn a b c d=>
  have hp:pend tag<=1:=by cases tag with
   |sp r p=>cases p<;>simp[pend]
   |_=>simp[pend]
  refine⟨cnt m F+pend tag-1,0,oM,?_,rfl,oM,λe=>oM,λ_=>?_⟩;rw[show cnt m F+pend tag-1+1=cnt m F+pend tag by omega];simp;have:=Mode.opn (m:=m) (F:=upd F i .out) a (hop b) (λV e=>by have:=c V e;omega) (λV e=>by have:=d V e;omega);rw[show cnt m F+pend tag-1=cnt m (upd F i .out)+pend tag by omega];simpa using this
 |reg a b=>refine⟨cnt m F-1,1,oM,?_,rfl,oM,λe=>?_,λe=>?_⟩;rw[show cnt m F-1+1=cnt m F by omega];rfl;have hall:=vZ (hop a) oM;(have:=Mode.last (m:=m) (F:=upd F i .d2) i hi (.inl (upd_same ..)) λj hj hne=>by have:=hall j hj;rw[upd_ne _ _ hne]at this⊢;exact this);rw[upd_same,if_neg sM]at this;simpa[e.1]using this;have:=Mode.reg (m:=m) (F:=upd F i .out) (hop a) oM;rw[show cnt m F-1=cnt m (upd F i .out)by omega];exact this
 |last L a b c=>by_cases e:i=L;subst e;rw[h1]at b;simp at b;rw[c i hi e]at h1;simp at h1
 |sema a=>rw[a i hi]at h1;simp at h1
 |fin _ a=>rw[a i hi]at h1;simp at h1
theorem Mode.rj{m:Nat}{F:Nat->Ph}{tag:jm}{st sm:Int}(h:Mode m F tag st sm){i:Nat}(hi:i<m)(h1:F i=.d2\/F i=.d3\/F i=.d4):
 tag=.w3/\sm=0/\(st=if F i=.d4 then 0 else 1)/\∀j,j<m->j≠i->F j=.out:=by
 have no:¬jY (F i):=by rcases h1 with e|e|e<;>rw[e]<;>simp[jY]
 cases h with
 |opn a b c d=>exact absurd (b i hi) no
 |reg a b=>exact absurd (a i hi) no
 |last L a b c=>by_cases e:i=L;subst e;exact⟨rfl,rfl,rfl,c⟩;exact absurd (.inr (.inr (.inr (.inr (c i hi e))))) no
 |sema a=>exact zdO
 |fin _ a=>exact zdO
theorem Mode.next{m:Nat}{F:Nat->Ph}{tag:jm}{st sm:Int}(h:Mode m F tag st sm){i:Nat}(hi:i<m)(h1:F i=.d2\/F i=.d3\/F i=.d4){p:Ph}(h2:p=.d2\/p=.d3\/p=.d4):
 Mode m (upd F i p) tag (if p=.d4 then 0 else 1) 0:=by
 obtain⟨rfl,_,_,h5⟩:=h.rj hi h1;have:=Mode.last (m:=m) (F:=upd F i p) i hi (by rw[upd_same];exact h2) λj hj hne=>by rw[upd_ne _ _ hne];exact h5 j hj hne
 rwa[upd_same]at this
theorem Mode.raise{m:Nat}{F:Nat->Ph}{tag:jm}{st sm:Int}(h:Mode m F tag st sm){i:Nat}(hi:i<m)(h1:F i=.d4):Mode m (upd F i .out) tag 0 1:=by
 obtain⟨rfl,_,_,h5⟩:=h.rj hi (.inr (.inr h1));refine .sema λj hj=>?_;rw[Fl];split;rfl
 ·next e=>exact h5 j hj e
theorem RelBy.deaf{a:Addr}{t:Trace}{k r:Nat}(h:RelBy a t k r)(fn:FuncId)(pos:String){es:Array Event}(hes:∀e∈es,(MemAct.ofEvent e).touch?=none):RelBy a (t++MemOp.ofEvents k fn pos es) k r:=
 ConcN.RelBy.appOwn h fn pos es λ_ e he=>.inl (hes e (Array.mem_of_getElem? he))
theorem RelBy.Ik{a x:Addr}{t:Trace}{k r:Nat}(h:RelBy a t k r)(hd:Deaf t k=1)(fn:FuncId)(pos:String){es:Array Event}(hes:es= #[rd x,wr x]\/es= #[rd x]\/es= #[wr x]\/es=semEvents x):RelBy a (t++MemOp.ofEvents k fn pos es) k r:=by
 refine ConcN.RelBy.appOwn h fn pos es λj e he=>?_;rw[hd];rcases hes with rfl|rfl|rfl|rfl
 ·match j,he with
  |0,he=>exact zdv
  |1,he=>cases he;exact .inr ⟨⟨x,_,rfl⟩,by simp[deafBehind,rd]⟩
  |j+2,he=>simp at he
 ·match j,he with
  |0,he=>exact zdv
  |j+1,he=>simp at he
 ·match j,he with
  |0,he=>exact zdv
  |j+1,he=>simp at he
 ·match j,he with
  |0,he=>simp[semEvents]at he;exact zdP
  |1,he=>exact zdy
  |2,he=>exact zdy
  |3,he=>simp[semEvents]at he;exact zdP
  |j+4,he=>simp[semEvents]at he
theorem WD.AZ{d:WD}(h:d.st.ph≠.out):d.mu=(1,d.rk,if d.pk then 0 else 1):=by unfold WD.mu;rw[if_neg h]
theorem WD.Fo{d:WD}(h:d.st.ph=.out):d.mu=(0,.leaf,d.q):=by unfold WD.mu;rw[if_pos h]
theorem jE{d d':WD}(h:d.st.ph≠.out)(h':d'.st.ph≠.out)(hl:RT.Lt d'.rk d.rk):CP d'.mu d.mu:=by rw[WD.AZ h,WD.AZ h'];exact Prod.Lex.right _ (Prod.Lex.left _ _ hl)
theorem Il{d d':WD}(h:d.st.ph≠.out)(h':d'.st.ph=.out):CP d'.mu d.mu:=by rw[WD.AZ h,WD.Fo h'];exact Prod.Lex.left _ _ oM
section
variable {G:Geo}{P:aF}{Fin:aG->Prop}{S:cD}{W0:aa}{j0 r0 m:Nat}{gs:Array aG}{w w':aa}{t:Trace}{s:MS}{rm:RT MS}{fl:qL}{D:Nat->WD}{st sm:Int}{Q:Nat->Nat}{sl:Option (Nat×Nat)}
def ur(G:Geo)(P:aF)(Fin:aG->Prop)(S:cD)(W0:aa)(j0 r0:Nat)(gs:Array aG)(w:aa)(sl:Option (Nat×Nat))(t:Trace)(μ:RT MS×List (Nat×RT WS×Nat)×Nat)(i:Nat):Prop:=
 ∃m1 ops μ',runT P (crowd gs w sl) i=(.next m1,ops)/\Ic μ' μ/\RI G P Fin S W0 j0 r0 μ' m1 (t++ops)
theorem pE{ty:aw}{Wg:Nat}{w w':aa}{st sm:Int}(h:WgAt ty Wg w st sm)(e:w'.heap[Wg]?=w.heap[Wg]?):WgAt ty Wg w' st sm:=e.trans h
theorem mR(h:RInv G P Fin S W0 j0 r0 m gs w t s rm fl D st sm Q){i:Nat}(hi:i<m){g g':aG}{es:Array Event}(hg:gs[j0+i]?=some g)(hgo:stepG P false g w=.go g' w' es){d':WD}{st' sm':Int}
 (hpk:d'.pk=false)(hw:pD G P d' (deafBehind (Deaf t (j0+i)) es) g' w')(hone:One G.Wg w w')(hlive:WgLive G.ty G.Wg w->WgLive G.ty G.Wg w')(hmu:CP d'.mu (D i).mu)
 (hwg:WgAt G.ty G.Wg w' st' sm')(hmode:Mode m (upd (dP D) i d'.st.ph) s.tag st' sm')(hsm:sm'=1->sm=1\/(mayWake P g=true/\g'.status=.running))
 (hM:d'.st.M=(D i).st.M)(hH:d'.st.H=(D i).st.H)(hX:d'.st.S=(D i).st.S)
 (Ig:d'.st.ph=.run->G.N<=sent G s.tag+d'.st.k)
 (hrl:d'.st.ph≠.run->d'.st.ph≠.shut->(∃r,RelBy (stA G.Wg) (t++MemOp.ofEvents (j0+i) g.frame.fn g.frame.place es) (j0+i) r)/\∀x,d'.st.H x->d'.st.S x)
 (Ih:lI s.tag=false->d'.st.ph=.run)
 (hes:∀e∈es,yX S e)(hnr:∀e∈es,∀a,e.loc≠.mark (.release a)):ur G P Fin S W0 j0 r0 gs w sl t (iw j0 m D rm fl Q) (j0+i):=by
 have QW:¬G.base G.Wg:=λe=>h.gk.bs _ e h.gk.sW;have nO:G.Wg≠G.O:=λe=>h.gk.so (e▸h.gk.sW);have hr0:Rel G (λ_=>False) w w':=Rel.one hone QW id (λ_=>hlive) λe=>absurd e nO;have hrw:∀j,j<m->j≠i->Rel G (D j).st.M w w':=λj hj _=>Rel.one hone QW (λe=>(h.hp.own j _ hj e).2.2.1 h.gk.sW) (λ_=>hlive) λe=>absurd e nO;have hp:=h.hp.one h.gk hone hr0;refine Ls h hi hg hgo hpk hw hrw hr0 hmu hwg hmode hsm ?_ (λb hb=>by rw[hM];exact hb) (λb hb=>by rw[hH];exact hb) Ig hrl Ih (kU hes) (gV hnr);rw[hM,hH,hX];have e1:upd (dM D) i (D i).st.M=dM D:=eY (dM D) i;have e2:upd (dH D) i (D i).st.H=dH D:=eY (dH D) i;have e3:upd (dX D) i (D i).st.S=dX D:=eY (dX D) i;rw[e1,e2,e3];exact hp
theorem One.refl(b0:Nat)(w:aa):One b0 w w:=⟨λ_ _=>rfl,rfl,rfl,rfl,rfl⟩
theorem Im(h:RInv G P Fin S W0 j0 r0 m gs w t s rm fl D st sm Q){i:Nat}(hi:i<m){g:aG}(hg:gs[j0+i]?=some g){f:WS->RT WS}(pc:(D i).rk=.node f)(hout:(D i).st.ph≠.out)(_:(D i).pk=false)
 (hs:∀w,stepG P false g w=stepG P false (D i).st.g w)(hmw:mayWake P g=mayWake P (D i).st.g)(hdf:Deaf t (j0+i)=Ff (D i).st.ph)(ha:nJ G P (λs1=>kp G P (f s1) s1) {(D i).st with w:=w}):ur G P Fin S W0 j0 r0 gs w sl t (iw j0 m D rm fl Q) (j0+i):=by
 have Lu:∀{p},(D i).st.ph=p->upd (dP D) i p=dP D:=λ{p} e=>by have:=eY (dP D) i;rwa[show dP D i=p from e]at this
 have bM:∀b,(D i).st.M b->b<w.heap.size/\¬G.base b/\¬S b/\b≠G.O:=λb hb=>h.hp.own i b hi hb;have rt:∀s1:WS,RT.Lt (f s1) (.node f):=λs1=>⟨s1,rfl⟩;cases ha with
 | @quiet g' w' es h1 h2 h3 h4 h5 h6=>
  simp only at h1 h2 h3 h4 h5 h6;have nW:¬(D i).st.M G.Wg:=λe=>(bM _ e).2.2.1 h.gk.sW;have nO:¬(D i).st.M G.O:=λe=>(bM _ e).2.2.2 rfl;have hrel:∀M:Nat->Prop,(∀b,M b->b<w.heap.size/\¬(D i).st.M b)->Rel G M w w':=λM hM=>Rel.gu h4 (λb hb=>hb.elim (λk=>⟨h.hp.base b k,λe=>(bM b e).2.1 k⟩) (hM b)) nW nO;have hr0:=hrel (λ_=>False) λb hb=>hb.elim;have hdl:∀e∈es,∀mk,e.loc=.mark mk->pC mk:=λe he=>(h5 e he).1;refine Ls h hi hg ((hs w).trans h2) (d':=⟨{(D i).st with g:=g',w:=w',M:=abC (D i).st.M w w'},f {(D i).st with g:=g',w:=w',M:=abC (D i).st.M w w'},false,(D i).q⟩)
   rfl (.run hout rfl h3 (λ_=>rfl) rfl h6 (by rw[xS hdl,hdf])) (λj hj hne=>hrel _ λb hb=>⟨(h.hp.own j b hj hb).1,λe=>hne (h.hp.kF j i b hj hi hb e)⟩) hr0 (jE hout hout zdX)
   (pE h.wg (h4.old _ (h.hp.sb _ h.gk.sW) nW)) zdt (λe=>.inl e) ?_ (λb hb=>.inl hb) (λx hx=>hx) (λe=>h.vX i hi e) (λe e2=>(h1.elim e e2).elim) (λe=>h.opn e i hi) ?_ (Oa h5)
  ·have:=h.hp.gu h.gk hi h4 hr0;have e2:upd (dH D) i (D i).st.H=dH D:=eY (dH D) i;have e3:upd (dX D) i (D i).st.S=dX D:=eY (dX D) i;simp only;rw[e2,e3];exact this
  ·refine Ii h5 (λb hb=>?_) (λb hb=>⟨aT (h.hp.base b hb) h4.size,h.gk.bs b hb⟩) λl b hl hb=>.inl ⟨b,hl,hb⟩;rcases hb with hb|⟨k1,k2⟩;exact⟨aT (bM b hb).1 h4.size,(bM b hb).2.2.1⟩;exact⟨k2,λk=>by have:=h.hp.sb b k;omega⟩
 | @idle g' h1 h2 h3 h4=>
  simp only at h1 h2 h3 h4;refine mR h hi hg ((hs w).trans h2) (d':=⟨{(D i).st with g:=g',w:=w},f {(D i).st with g:=g',w:=w},false,(D i).q⟩)
   rfl (.run h1 rfl h3 (λ_=>rfl) rfl h4 (by rw[<-hdf];rfl)) (One.refl ..) id (jE h1 h1 zdX) h.wg zdt (λe=>.inl e) rfl rfl rfl (λe=>h.vX i hi e) (λe e2=>?_) (λe=>h.opn e i hi) sM sM
  obtain⟨⟨r,hr⟩,hx⟩:=h.rl i hi e e2;exact⟨⟨r,RelBy.deaf hr _ _ sM⟩,hx⟩
 | @store g' x h1 h2 h3 h4 h5 h6=>
  simp only at h1 h2 h3 h4 h5 h6;have ho:=One.setCell w (dE G x) (G.ans x);have hrel:∀M:Nat->Prop,¬M G.O->Rel G M w (w.setCell (dE G x) (G.ans x)):=λM hM=>Rel.one ho h.gk.bo hM (λe=>absurd (show G.O=G.Wg from e) λe=>h.gk.so (e▸h.gk.sW)) λ_ k=>k.set x _;have nO:G.Wg≠G.O:=λe=>h.gk.so (e▸h.gk.sW);refine Ls h hi hg ((hs w).trans h4) (d':=⟨{(D i).st with g:=g',w:=w.setCell (dE G x) (G.ans x),S:=λj=>(D i).st.S j\/j=x},f {(D i).st with g:=g',w:=w.setCell (dE G x) (G.ans x),S:=λj=>(D i).st.S j\/j=x},false,(D i).q⟩)
   rfl (.run zdR rfl h5 (λ_=>rfl) rfl h6 (by rw[hdf];simp[deafBehind])) (λj hj hne=>hrel _ λe=>(h.hp.own j _ hj e).2.2.2 rfl) (hrel _ id) (jE zdR zdR zdX)
   (pE h.wg (ho.block _ nO)) zdt (λe=>.inl e) ?_ (λb hb=>hb) (λx hx=>hx) (λ_=>h.vX i hi h1) (λe _=>absurd h1 e) (λ_=>h1) ?_ (gV sM)
  ·have:=h.hp.store h.gk hi h3 (hrel _ id);have e1:upd (dM D) i (D i).st.M=dM D:=eY (dM D) i;have e2:upd (dH D) i (D i).st.H=dH D:=eY (dH D) i;simp only;rw[e1,e2];exact this
  ·intro op hop;refine⟨ofEvents_g op hop,λz hz=>?_⟩;rw[ofEvents_eq]at hop;obtain⟨e,he,rfl⟩:=Array.mem_map.1 hop;(have:e=⟨.cell (dE G x),true,false⟩:=by simpa using he);subst this;(have hz':z=⟨.cell (dE G x),true,.plain⟩:=by simp[MemAct.ofEvent,MemAct.touch?]at hz;exact hz.symm);subst hz';refine⟨λb hb=>?_,λ_=>.inr ⟨?_,rfl,.inl (.inr ⟨x,rfl,h2⟩)⟩⟩;(have:b=G.O:=by simpa[blk,dE]using hb.symm);subst this;exact .inl ⟨by rw[ho.size];exact h.hp.XH,h.gk.so⟩;rintro⟨b,hb,hS⟩;(have:b=G.O:=by simpa[blk,dE]using hb.symm);subst this;exact h.gk.so hS
 | @rel g' h1 h2 h3 h4 h5=>
  simp only at h1 h2 h3 h4 h5;have hd0:Deaf t (j0+i)=0:=by rw[hdf,h1];rfl
  refine mR h hi hg ((hs w).trans h3) (d':=⟨{(D i).st with ph:=.rel,g:=g',w:=w},f {(D i).st with ph:=.rel,g:=g',w:=w},false,(D i).q⟩)
   rfl (.run sM rfl h4 (λ_=>rfl) rfl h5 (by rw[hd0];simp[deafBehind,mk,Ff])) (One.refl ..) id (jE zdR sM zdX) h.wg (h.mode.shift hi (by rw[show dP D i=.shut from h1];rfl) rfl) (λe=>.inl e) rfl rfl rfl (λe=>zd1) (λ_ _=>⟨⟨_,ConcN.RelBy.new hd0 _ _⟩,h2⟩) (λe=>zdo) ?_ ?_
  ·intro e he;simp at he;exact zdP
  ·intro e he a;simp at he;subst he;simp[mk]
 | @kF g' h1 h2 h3 h4=>
  simp only at h1 h2 h3 h4;obtain⟨⟨r,hr⟩,hx⟩:=h.rl i hi zdR zdR;refine mR h hi hg ((hs w).trans h2) (d':=⟨{(D i).st with ph:=.kF,g:=g',w:=w},f {(D i).st with ph:=.kF,g:=g',w:=w},false,(D i).q⟩)
   rfl (.run sM rfl h3 (λ_=>rfl) rfl h4 (by rw[hdf,h1];simp[deafBehind,mk,Ff])) (One.refl ..) id (jE zdR sM zdX) h.wg (h.mode.shift hi (by rw[show dP D i=.rel from h1];rfl) rfl) (λe=>.inl e) rfl rfl rfl (λe=>zd1) (λ_ _=>⟨⟨r,RelBy.deaf hr _ _ (by simp[mk,MemAct.ofEvent,MemAct.touch?])⟩,hx⟩) (λe=>zdo) ?_ ?_
  ·intro e he;simp at he;exact zdP
  ·intro e he a;simp at he;subst he;simp[mk]
 |d1 h1 h2=>
  simp only at h1 h2;obtain⟨⟨r,hr⟩,hx⟩:=h.rl i hi zdR zdR;obtain⟨v,wt,k1,k2,k3,k4,k5,k6⟩:=h.mode.d1 hi (show dP D i=.kF from h1);have hwg:=h.wg;rw[k2,k3]at hwg;have hd1:Deaf t (j0+i)=1:=by rw[hdf,h1];rfl
  obtain⟨g',c1,c2,c3⟩:=h2 v wt k1 (by have:=h.big;omega) hwg;have hone:=One.setCell w (stA G.Wg) (.int .u64 ((v:Nat)*KK+(wt:Nat)));have hwg':WgAt G.ty G.Wg (w.setCell (stA G.Wg) (.int .u64 ((v:Nat)*KK+(wt:Nat)))) ((v:Nat)*KK+(wt:Nat)) 0:=ConcR.WgAt.setSt hwg _;have hev:∀e∈#[rd (stA G.Wg),wr (stA G.Wg)],yX S e:=by intro e he;simp at he;rcases he with rfl|rfl<;>exact .inr (.inl ⟨_,_,rfl,h.gk.sW⟩)
  have hnr:∀e∈#[rd (stA G.Wg),wr (stA G.Wg)],∀a,e.loc≠.mark (.release a):=by intro e he a;simp at he;rcases he with rfl|rfl<;>simp[rd,wr]
  by_cases hv:v=0/\wt=1
  ·obtain⟨c4,c5⟩:=c2 hv;exact mR h hi hg ((hs w).trans c1) (d':=⟨{(D i).st with ph:=.d2,g:=g',w:=w.setCell (stA G.Wg) (.int .u64 ((v:Nat)*KK+(wt:Nat)))},f {(D i).st with ph:=.d2,g:=g',w:=w.setCell (stA G.Wg) (.int .u64 ((v:Nat)*KK+(wt:Nat)))},false,(D i).q⟩)
    rfl (.run sM rfl c4 (λ_=>rfl) rfl c5 (by rw[hd1];simp[deafBehind,rd,wr,Ff])) hone (λ_=>WgAt.live hwg') (jE zdR sM zdX) hwg' (k5 hv) (λe=>zd1) rfl rfl rfl (λe=>zd1) (λ_ _=>⟨⟨r,RelBy.Ik hr hd1 _ _ (.inl rfl)⟩,hx⟩) (λe=>zdo) hev hnr
  ·obtain⟨q,c4⟩:=c3 hv;exact mR h hi hg ((hs w).trans c1) (d':=⟨{(D i).st with ph:=.out,g:=g',w:=w.setCell (stA G.Wg) (.int .u64 ((v:Nat)*KK+(wt:Nat)))},.leaf,false,q⟩)
    rfl (.out rfl rfl (by rw[hd1];simp[deafBehind,rd,wr];exact c4)) hone (λ_=>WgAt.live hwg') (Il zdR sM) hwg' (k6 hv) (λe=>zd1) rfl rfl rfl (λe=>zd1) (λ_ _=>⟨⟨r,RelBy.Ik hr hd1 _ _ (.inl rfl)⟩,hx⟩) (λe=>zdo) hev hnr
 |d2 h1 h2=>
  simp only at h1 h2;obtain⟨⟨r,hr⟩,hx⟩:=h.rl i hi zdR zdR;have hd1:Deaf t (j0+i)=1:=by rw[hdf,h1];rfl
  obtain⟨_,k2,k3,_⟩:=h.mode.rj hi (.inl (show dP D i=.d2 from h1));have hwg:=h.wg;rw[k2,k3,show dP D i=.d2 from h1,if_neg sM]at hwg;obtain⟨g',c1,c2,c3⟩:=h2 hwg;have hmode:=h.mode.next hi (.inl (show dP D i=.d2 from h1)) (p:=.d3) sM;rw[if_neg sM]at hmode;refine mR h hi hg ((hs w).trans c1) (d':=⟨{(D i).st with ph:=.d3,g:=g',w:=w},f {(D i).st with ph:=.d3,g:=g',w:=w},false,(D i).q⟩)
   rfl (.run sM rfl c2 (λ_=>rfl) rfl c3 (by rw[hd1];simp[deafBehind,rd,Ff])) (One.refl ..) id (jE zdR sM zdX) hwg hmode (λe=>zd1) rfl rfl rfl (λe=>zd1) (λ_ _=>⟨⟨r,RelBy.Ik hr hd1 _ _ (.inr (.inl rfl))⟩,hx⟩) (λe=>zdo) ?_ ?_
  ·intro e he;simp at he;subst he;exact zdw
  ·intro e he a;simp at he;subst he;simp[rd]
 |d3 h1 h2=>
  simp only at h1 h2;obtain⟨⟨r,hr⟩,hx⟩:=h.rl i hi zdR zdR;have hd1:Deaf t (j0+i)=1:=by rw[hdf,h1];rfl
  obtain⟨_,k2,k3,_⟩:=h.mode.rj hi (.inr (.inl (show dP D i=.d3 from h1)));have hwg:=h.wg;rw[k2,k3,show dP D i=.d3 from h1,if_neg sM]at hwg;obtain⟨g',c1,c2,c3⟩:=h2 hwg;have hmode:=h.mode.next hi (.inr (.inl (show dP D i=.d3 from h1))) (p:=.d4) sM;rw[if_pos rfl]at hmode;have hwg':=ConcR.WgAt.setSt hwg 0;have hone:One G.Wg w _:=One.setCell w (stA G.Wg) (.int .u64 0);refine mR h hi hg ((hs w).trans c1) (d':=⟨{(D i).st with ph:=.d4,g:=g',w:=w.setCell (stA G.Wg) (.int .u64 0)},f {(D i).st with ph:=.d4,g:=g',w:=w.setCell (stA G.Wg) (.int .u64 0)},false,(D i).q⟩)
   rfl (.run sM rfl c2 (λ_=>rfl) rfl c3 (by rw[hd1];simp[deafBehind,wr,Ff])) hone (λ_=>WgAt.live hwg') (jE zdR sM zdX) hwg' hmode (λe=>zd1) rfl rfl rfl (λe=>zd1) (λ_ _=>⟨⟨r,RelBy.Ik hr hd1 _ _ (.inr (.inr (.inl rfl)))⟩,hx⟩) (λe=>zdo) ?_ ?_
  ·intro e he;simp at he;subst he;exact zdw
  ·intro e he a;simp at he;subst he;simp[wr]
 |d4 h1 h2 h3=>
  simp only at h1 h2 h3;obtain⟨⟨r,hr⟩,hx⟩:=h.rl i hi zdR zdR;have hd1:Deaf t (j0+i)=1:=by rw[hdf,h1];rfl
  obtain⟨_,k2,k3,_⟩:=h.mode.rj hi (.inr (.inr (show dP D i=.d4 from h1)));have hwg:=h.wg;rw[k2,k3,show dP D i=.d4 from h1,if_pos rfl]at hwg;obtain⟨g',c1,q,c2⟩:=h3 hwg;have hwg':=ConcR.WgAt.setSm hwg 1;have hone:One G.Wg w _:=One.setCell w (smA G.Wg) (.int .u32 1);have hrun:g'.status=.running:=by
   cases q with
   |zero=>have:=c2.2;cases this
   |succ q=>rcases c2 with c2|c2;have:=c2.2;cases this;exact c2.1
  refine mR h hi hg ((hs w).trans c1) (d':=⟨{(D i).st with ph:=.out,g:=g',w:=w.setCell (smA G.Wg) (.int .u32 1)},.leaf,false,q⟩)
   rfl (.out rfl rfl (by rw[hd1];simp[deafBehind,semEvents];exact c2)) hone (λ_=>WgAt.live hwg') (Il zdR sM) hwg' (h.mode.raise hi (show dP D i=.d4 from h1)) (λ_=>.inr ⟨by rw[hmw];exact h2,hrun⟩) rfl rfl rfl (λe=>zd1) (λ_ _=>⟨⟨r,RelBy.Ik hr hd1 _ _ (.inr (.inr (.inr rfl)))⟩,hx⟩) (λe=>zdo) ?_ ?_
  ·intro e he;simp[semEvents]at he;rcases he with rfl|rfl|rfl|rfl;exact .inl rfl;exact zdw;exact zdw;exact .inl rfl
  ·intro e he a;simp[semEvents]at he;rcases he with rfl|rfl|rfl|rfl<;>simp
end
theorem RelBy.mute{a:Addr}{t u:Trace}{k r:Nat}(h:RelBy a t k r)(hu:Mx.mute u):RelBy a (t++u) k r:=by refine ConcN.RelBy.app h λi hi _ hc=>?_;obtain⟨x,hx,_⟩:=hc;have:=(eT hu hx).1;omega
def Plain(n:Nat)(u:Trace):Prop:=∀op∈u,op.g<n/\op.act.touch?=none/\∀mk,op.act≠.mark mk
theorem Plain.mute{n:Nat}{u:Trace}(h:Plain n u):Mx.mute u:=λop hop=>(h op hop).2.1
theorem Plain.deaf{n:Nat}{t u:Trace}(h:Plain n u)(k:Nat):Deaf (t++u) k=Deaf t k:=ConcN.Deaf_still t k u λop hop=>⟨(h op hop).2.2 _,(h op hop).2.2 _⟩
section
variable {G:Geo}{P:aF}{Fin:aG->Prop}{S:cD}{W0:aa}{j0 r0 m:Nat}{gs:Array aG}{w w':aa}{t:Trace}{s:MS}{rm:RT MS}{fl:qL}{D:Nat->WD}{st sm:Int}{Q:Nat->Nat}{sl:Option (Nat×Nat)}
theorem QuitsD.yU{es:Array Event}(hm:∀e∈es,Event.mute e=true):∀e∈es,∀a,e.loc≠.mark (.release a):=by intro e he a h;have:=hm e he;obtain⟨loc,wr,sy⟩:=e;simp only at h;subst h;simp[Event.mute]at this
theorem Io(h:RInv G P Fin S W0 j0 r0 m gs w t s rm fl D st sm Q){i:Nat}(hi:i<m){g:aG}(hg:gs[j0+i]?=some g)(jF:(D i).st.ph=.out)(_:(D i).pk=false)(hq:QuitsD P (D i).q (Deaf t (j0+i)) g)(hr:g.status=.running):ur G P Fin S W0 j0 r0 gs w sl t (iw j0 m D rm fl Q) (j0+i):=by
 generalize hqe:(D i).q=q at hq;cases q with
 |zero=>rw[hq.1]at hr;cases hr
 |succ q=>rcases hq with hq|⟨_,g',es,hm,hst,hq⟩;rw[hq.1]at hr;cases hr;obtain⟨⟨r,hr1⟩,hx⟩:=h.rl i hi zdB zdB;(have Lu:upd (dP D) i .out=dP D:=by have:=eY (dP D) i;rwa[show dP D i=.out from jF]at this);refine mR h hi hg (hst w) (d':=⟨(D i).st,.leaf,false,q⟩) rfl (.out jF rfl hq) (One.refl ..) id ?_ h.wg (by simp only[jF];rw[Lu];exact h.mode) (λe=>.inl e) rfl rfl rfl (λe=>by rw[jF]at e;cases e) (λ_ _=>⟨⟨r,RelBy.deaf hr1 _ _ λe he=>mm (hm e he)⟩,hx⟩) (λe=>h.opn e i hi) (λe he=>.inl (mm (hm e he))) (QuitsD.yU hm);rw[WD.Fo jF,WD.Fo (d:=⟨(D i).st,.leaf,false,q⟩) jF,hqe];exact Prod.Lex.right _ (Prod.Lex.right _ sM)
theorem Ob(h:RInv G P Fin S W0 j0 r0 m gs w t s rm fl D st sm Q){k:Nat}(k1:1<=k)(k2:k<j0){g:aG}(hg:gs[k]?=some g)(hr:g.status=.running):ur G P Fin S W0 j0 r0 gs w sl t (iw j0 m D rm fl Q) k:=by
 obtain⟨g2,h1,h2⟩:=h.lv k k1 k2;rw[hg]at h1;cases h1;obtain⟨q',g',es,hq1,hq2,hm,_,QT⟩:=qb (w:=w) (sl:=sl) oM hg h2 hr;have hmu:mute (MemOp.ofEvents k g.frame.fn g.frame.place es):=nK λe he=>mm (hm e he);have hgn:∀op∈MemOp.ofEvents k g.frame.fn g.frame.place es,op.g<j0+m:=λop hop=>by rw[ofEvents_g op hop];omega
 obtain⟨a,ha,hma⟩:=h.mn;have hopen:lI s.tag=false->∃s r tm,w.heap[G.Ch]?=some (.chan 0 #[] false s r tm):=λe=>by obtain⟨s1,r1,hc⟩:=h.hp.ch;rw[e]at hc;exact⟨s1,r1,_,hc⟩
 obtain⟨mQ,QV,hfl,_⟩:=hma.woken g g' λe=>hopen (h.Ie e);have AX:mQ=.eH->fl=.eH:=λe=>by rcases hfl with e2|⟨_,e2⟩;exact e2▸e;rw[e2]at e;cases e
 have hsum:sumTo j0 (upd Q k q')+Q k=sumTo j0 Q+q':=sumTo_upd Q q' id k2;have ZV:mQ.num+2*sumTo j0 (upd Q k q')<fl.num+2*sumTo j0 Q:=by
  have:mQ.num<=fl.num+1:=by cases mQ<;>simp[qL.num]
  omega
 refine⟨_,_,iw j0 m D rm mQ (upd Q k q'),QT,Prod.Lex.right _ (Prod.Lex.right _ ZV),m,_,w,sl,s,rm,mQ,D,st,sm,_,rfl,?_,rfl⟩;refine⟨h.gk,h.j1,zdZ,zdn,⟨_,by rw[cW _ _ _ _ _ oM,ha];rfl,QV⟩,λj hj=>?_,λi i1 i2=>?_,?_,?_,h.wg,h.mode,λe=>?_,h.hp,h.vX,λj hj he hes=>?_,h.opn,λe j hj=>h.AW (e.imp id AX) j hj,λe=>h.Ie (AX e),h.m1,h.big⟩
 ·obtain⟨g2,hg2,hw2⟩:=h.wk j hj;refine⟨g2,?_,by rw[dy,if_neg oM];exact hw2⟩;rw[cW _ _ _ _ _ oM,hg2];simp only[cH,bq];refine hw2.woken λyV=>hopen ?_;cases hcl:lI s.tag with
  |false=>rfl
  |true=>exact zdD
 ·by_cases e:i=k;subst e;exact⟨g',ed _ _ _ _ zdS,zdM⟩;obtain⟨g3,h3,h4⟩:=h.lv i i1 i2;exact⟨g3,by rw[cW _ _ _ _ _ (λe2=>e e2.symm),h3];simp[woken_quitsD h4],by rw[dy,if_neg e,upd_ne _ _ e];exact h4⟩
 ·exact h.tr.mute h.rt (λb hb=>hb) (λk l _ hl=>hl) hmu hgn (gV (QuitsD.yU hm))
 ·exact zdN
 ·have:=h.sem e;rcases hfl with e2|⟨e2,_⟩;exact e2.trans this;rw[this]at e2;cases e2
 ·obtain⟨⟨r,hr1⟩,hr2⟩:=h.rl j hj he hes;exact⟨⟨r,RelBy.mute hr1 hmu⟩,hr2⟩
theorem yZ(h:RInv G P Fin S W0 j0 r0 m gs w t s rm fl D st sm Q){i:Nat}(hi:i<m){u:Trace}(hu:Plain (j0+m) u){d':WD}{g':aG}(hw:pD G P d' (Deaf t (j0+i)) g' w)(hM:d'.st.M=(D i).st.M)(hH:d'.st.H=(D i).st.H)(hX:d'.st.S=(D i).st.S)
 (hmode:Mode m (upd (dP D) i d'.st.ph) s.tag st sm)(Ig:d'.st.ph=.run->G.N<=sent G s.tag+d'.st.k)(hrl:d'.st.ph=.run\/d'.st.ph=.shut)(Ih:lI s.tag=false->d'.st.ph=.run)(QX:(lI s.tag=true\/fl=.eH)->d'.pk=false):
 RInv G P Fin S W0 j0 r0 m (gs.setIfInBounds (j0+i) g') w (t++u) s rm fl (upd D i d') st sm Q:=by
 have hj1:=h.j1;obtain⟨a,ha,hma⟩:=h.mn;have e1:dM (upd D i d')=dM D:=by rw[vV,hM];exact eY (dM D) i
 have e2:dH (upd D i d')=dH D:=by rw[vW,hH];exact eY (dH D) i
 have e3:dX (upd D i d')=dX D:=by rw[Fh,hX];exact eY (dX D) i
 refine⟨h.gk,h.j1,zdZ,zdn,⟨a,by rw[bh oM];exact ha,hma⟩,λj hj=>?_,λk k1 k2=>?_,?_,zdT,h.wg,by rw[Fi];exact hmode,h.sem,by rw[e1,e2,e3];exact h.hp,λj hj he=>?_,λj hj he hes=>?_,λe j hj=>?_,λe j hj=>?_,h.Ie,h.m1,h.big⟩;rw[hu.deaf];by_cases e:j=i;subst e;exact⟨g',by simp[h.sz,hj],by rw[upd_same];exact hw⟩;rw[bh oM,upd_ne _ _ e];exact h.wk j hj;rw[hu.deaf,bh oM];exact h.lv k k1 k2;rw[e1,e2];exact zdu;by_cases e:j=i;subst e;rw[upd_same]at he⊢;exact Ig he;rw[upd_ne _ _ e]at he⊢;exact h.vX j hj he;by_cases e:j=i;subst e;rw[upd_same]at he hes;exact(hrl.elim he hes).elim;rw[upd_ne _ _ e]at he hes⊢;exact zdp;by_cases e2:j=i;subst e2;rw[upd_same];exact Ih e;rw[upd_ne _ _ e2];exact h.opn e j hj;by_cases e2:j=i;subst e2;rw[upd_same];exact QX e;rw[upd_ne _ _ e2];exact h.AW e j hj
theorem Fp(w:aa)(d c:Nat)(cap:Nat)(buf:bw)(cl:Bool)(a b:Nat)(tm:Bool):One c w ((w.at d).setChan c cap buf cl a b tm):=
 ⟨λx hx=>by simp[World.setChan,World.at,Ne.symm hx],rfl,rfl,rfl,by simp[World.setChan,World.at]⟩
theorem A6(h:RInv G P Fin S W0 j0 r0 m gs w t s rm fl D st sm Q){i:Nat}(hi:i<m){x:Nat}{f:WS->RT WS}(pc:(D i).rk=.node f)(hdf:Deaf t (j0+i)=0)(jF:(D i).st.ph=.run)(hR:∀w1,Rel G (D i).st.M w w1->qZ G P (λs1=>kp G P (f s1) s1) {(D i).st with w:=w1})
 {F:MS->RT MS}(hrm:rm=.node F)(hS:∀w1,Rel G (λ_=>False) w w1->rf G P (λs1=>jP G P Fin (F s1) s1) {s with w:=w1} x)
 {u:Trace}(hu:Plain (j0+m) u){a b d:Nat}{gs':Array aG}(hw':w'=(w.at d).setChan G.Ch 0 #[] false a b false)(hsz:gs'.size=gs.size)(h0:gs'[0]?=some (Conc.served s.g undef))(h1:gs'[j0+i]?=some (Conc.served (D i).st.g (recvd true (.int .i64 x) true)))(ho:∀k,k≠0->k≠j0+i->gs'[k]?=gs[k]?):
 ∃s' rm' d',RInv G P Fin S W0 j0 r0 m gs' w' (t++u) s' rm' .run (upd D i d') st sm Q/\RT.Lt rm' rm:=by
 have hj1:=h.j1;have hone:One G.Ch w w':=hw'▸Fp ..;have XI:¬G.base G.Ch:=λe=>h.gk.bs _ e h.gk.sC;have nO:G.Ch≠G.O:=λe=>h.gk.so (e▸h.gk.sC);have nW:G.Ch≠G.Wg:=λe=>h.gk.wc e.symm;have hrel:∀M:Nat->Prop,¬M G.Ch->Rel G M w w':=λM hM=>Rel.one hone XI hM (λe=>absurd e nW) λe=>absurd e nO;have UO:∀j,j<m->¬(D j).st.M G.Ch:=λj hj e=>(h.hp.own j _ hj e).2.2.1 h.gk.sC;have R:=hR w' (hrel _ (UO i hi));have hr0:Rel G (λ_=>False) w w':=hrel _ λe=>e;have Sd:=hS w' hr0;have htag:s.tag=.sd x:=Sd.tag;have hx:x<G.N:=Sd.lt;have hb:=h.vX i hi jF;rw[htag]at hb;simp only[sent]at hb;obtain⟨k',hkk⟩:∃k',(D i).st.k=k'+1:=⟨(D i).st.k-1,oM⟩;have hK:=R.got x k' hkk hx;have hN:=Sd.next;have hc':w'.heap[G.Ch]?=some (.chan 0 #[] false a b false):=by subst hw';have:=h.hp.sb _ h.gk.sC;simp[World.setChan,World.at,this]
 refine⟨{s with w:=w',tag:=.sd (x+1),g:=Conc.served s.g undef},F {s with w:=w',tag:=.sd (x+1),g:=Conc.served s.g undef},⟨{(D i).st with w:=w',g:=Conc.served (D i).st.g (recvd true (.int .i64 x) true),H:=λj=>(D i).st.H j\/j=x,k:=k'},f {(D i).st with w:=w',g:=Conc.served (D i).st.g (recvd true (.int .i64 x) true),H:=λj=>(D i).st.H j\/j=x,k:=k'},false,0⟩,?_,by rw[hrm];exact⟨_,rfl⟩⟩;have hp:lr G S W0 m (dM D) (upd (dH D) i λj=>(D i).st.H j\/j=x) (dX D) false (x+1) w':=by have hp0:=h.hp;rw[htag]at hp0;simp only[lI,sent]at hp0;refine⟨hr0.row hp0.row,⟨a,b,hc'⟩,λb hb=>zd0,λb hb=>zd3,λj b hj hb=>zdV,hp0.kF,λj y hj hy=>?_,λj k y hj hk hy hy'=>?_,λy hy=>?_,λj y hj hy=>?_,hp0.w0.trans hr0⟩;by_cases e:j=i;subst e;rw[upd_same]at hy;rcases hy with hy|rfl;have:=hp0.hd j y hj hy;omega;omega;rw[upd_ne _ _ e]at hy;have:=hp0.hd j y hj hy;omega;(have key:∀l y,l<m->l≠i->dH D l y->¬((D i).st.H y\/y=x):=λl y hl hne e1 e2=>by rcases e2 with e2|rfl;exact hne (hp0.vU l i y hl hi e1 e2);have:=hp0.hd l y hl e1;omega);by_cases e:j=i;by_cases e2:k=i;omega;subst e;rw[upd_same]at hy;rw[upd_ne _ _ e2]at hy';exact absurd hy (key k y hk e2 hy');rw[upd_ne _ _ e]at hy;by_cases e2:k=i;subst e2;rw[upd_same]at hy';exact absurd hy' (key j y hj e hy);rw[upd_ne _ _ e2]at hy';exact hp0.vU j k y hj hk hy hy';by_cases e:y=x;subst e;exact⟨i,hi,by rw[upd_same];exact .inr rfl⟩;obtain⟨j,hj,hy2⟩:=hp0.hall y oM;refine⟨j,hj,?_⟩;by_cases e2:j=i;subst e2;rw[upd_same];exact .inl hy2;rw[upd_ne _ _ e2];exact hy2;exact zdC
 have e1:upd (dM D) i (D i).st.M=dM D:=eY (dM D) i;have e3:upd (dX D) i (D i).st.S=dX D:=eY (dX D) i;have e4:upd (dP D) i (D i).st.ph=dP D:=eY (dP D) i;have aa7:sm≠1:=λe=>by have:=h.mode;subst e;have:=this.w3;rw[htag]at this;cases this
 have hmd:Mode m (dP D) (.sd (x+1)) st sm:=by
  have hm:=h.mode;rw[htag]at hm;cases hm with
  |opn p q c d=>exact .opn (tag:=.sd (x+1)) trivial q (λV e=>zd1) λV e=>by cases e
  |fin p q=>rcases p with p|p<;>cases p
 refine⟨h.gk,h.j1,by rw[hsz];exact h.sz,zdn,⟨_,h0,.run rfl rfl hN⟩,λj hj=>?_,λk k1 k2=>?_,?_,zdT,pE h.wg (hone.block _ (Ne.symm nW)),?_,λe=>rfl,?_,λj hj he=>?_,λj hj he hes=>?_,λ_ j hj=>?_,λe=>(by simp[lI]at e),λe=>zd1,λ_=>h.m1 zd6,?_⟩;rw[hu.deaf];by_cases e:j=i;subst e;exact⟨_,h1,by rw[upd_same];exact .run zdB rfl (kp.running hK) (λ_=>rfl) rfl hK (by rw[hdf];simp[jF,Ff])⟩;rw[ho _ oM oM,upd_ne _ _ e];obtain⟨g2,hg2,hw2⟩:=h.wk j hj;exact⟨g2,hg2,hw2.rely (hrel _ (UO j hj))⟩;rw[hu.deaf,ho _ oM oM];exact h.lv k k1 k2;refine h.tr.mute h.rt (λb hb=>by rw[hone.size];exact hb) (λk l hk hl=>?_) hu.mute (λop hop=>(hu op hop).1) λop hop a=>(hu op hop).2.2 _;rw[vV,vW];simp only;rw[e1];refine⟨hl.1,hl.2.imp id λ⟨y,hy,hy2⟩=>⟨y,hy,?_⟩⟩;by_cases e:k-j0=i;rw[e,upd_same];rw[e]at hy2;exact .inl hy2;rw[upd_ne _ _ e];exact hy2;rw[Fi];simp only;rw[e4];exact hmd;rw[vV,vW,Fh];simp only[lI,sent];rw[e1,e3];exact hp;simp only[sent];by_cases e:j=i;subst e;rw[upd_same];simp only;omega;rw[upd_ne _ _ e]at he⊢;have:=h.vX j hj he;rw[htag]at this;simp only[sent]at this;omega;by_cases e:j=i;subst e;rw[upd_same]at he;exact absurd jF he;rw[upd_ne _ _ e]at he hes⊢;exact zdp;by_cases e2:j=i;subst e2;rw[upd_same];exact jF;rw[upd_ne _ _ e2];exact h.opn (by rw[htag];rfl) j hj;exact zd4
end
theorem deafBehind_still{es:Array Event}(h:∀e∈es,e.loc≠.mark .disable/\e.loc≠.mark .enable)(d:Nat):deafBehind d es=d:=by
 unfold deafBehind;refine Array.foldl_induction (motive:=λ_ x=>x=d) rfl λi x hx=>?_;have:=h es[i] (Array.getElem_mem _);split
 ·next e=>exact absurd e this.1
 ·next e=>exact absurd e this.2
 ·exact hx
theorem rp{g g2:aG}{c c2:CommCase}{sh UQ:CommShape}(h:parked g #[c] sh=parked g2 #[c2] UQ):c=c2/\sh=UQ/\g.frame=g2.frame/\g.callers=g2.callers/\g.dying=g2.dying:=by simp only[parked,Goroutine.mk.injEq,bq,Prod.mk.injEq,Array.mk.injEq,List.cons.injEq,and_true,true_and]at h;exact⟨h.2.2.2.1,h.2.2.2.2,h.1,h.2.1,h.2.2.1⟩
theorem oC{g g2:aG}{c c2:CommCase}{sh UQ:CommShape}(h:parked g #[c] sh=parked g2 #[c2] UQ)(v:ae):Conc.served g v=Conc.served g2 v:=by obtain⟨_,_,h1,h2,h3⟩:=rp h;simp[Conc.served,h1,h2,h3]
theorem rq(g:aG)(v:ae):Conc.served {g with status:=.running,offers:=none} v=Conc.served g v:=rfl
section
variable {G:Geo}{P:aF}{Fin:aG->Prop}{S:cD}{W0:aa}{j0 r0 m:Nat}{gs:Array aG}{w w':aa}{t:Trace}{s:MS}{rm:RT MS}{fl:qL}{D:Nat->WD}{st sm:Int}{Q:Nat->Nat}{sl:Option (Nat×Nat)}
theorem RInv.who(h:RInv G P Fin S W0 j0 r0 m gs w t s rm fl D st sm Q){k:Nat}{g:aG}(hg:gs[k]?=some g):(k=0/\ug G P Fin fl s rm g w)\/(∃i,i<m/\k=j0+i/\pD G P (D i) (Deaf t (j0+i)) g w)\/(1<=k/\k<j0/\QuitsD P (Q k) (Deaf t k) g):=by have hlt:=(az.1 hg).1;rw[h.sz]at hlt;by_cases h0:k=0;subst h0;obtain⟨a,ha,hma⟩:=h.mn;rw[hg]at ha;cases ha;exact .inl ⟨rfl,hma⟩;by_cases hk:k<j0;obtain⟨g2,hg2,hq⟩:=h.lv k oM hk;rw[hg]at hg2;cases hg2;exact .inr (.inr ⟨oM,hk,hq⟩);obtain⟨g2,hg2,hw⟩:=h.wk (k-j0) oM;rw[show j0+(k-j0)=k by omega,hg]at hg2;cases hg2;exact .inr (.inl ⟨k-j0,oM,oM,hw⟩)
theorem fB{g:aG}(h:g.status=.running\/g.status=.finished)(c:Nat)(b:Bool):offersAt g c b=[]:=offersAt_of_not_blocked (by rcases h with e|e<;>rw[e]<;>simp) c b
theorem pD.offers{d:WD}{dd:Nat}{g:aG}(h:pD G P d dd g w):offersAt g G.Ch true=[]/\(d.pk=false->offersAt g G.Ch false=[])/\(d.pk=true->offersAt g G.Ch false=[0]/\g=parked {d.st.g with status:=.running,offers:=none} #[rcase G.Ch G.z] (.recv true)):=by
 cases h with
 |run h1 h2 h3 h4 h5 h6 h7=>exact⟨fB (.inl h3) _ _,λ_=>fB (.inl h3) _ _,λe=>zdK⟩
 |eH f h1 h2 h3 h4 h5 h6 h7=>subst h3;exact⟨offersAt_parked_recv' ..,λe=>zdK,λ_=>⟨zdW,rfl⟩⟩
 |out h1 h2 h3=>exact⟨fB h3.status _ _,λ_=>fB h3.status _ _,λe=>zdK⟩
theorem ug.offers{g:aG}(h:ug G P Fin fl s rm g w):offersAt g G.Ch false=[]/\(fl≠.eH->offersAt g G.Ch true=[]):=by
 cases h with
 |run h1 h2 h3=>subst h2;exact⟨fB (.inl h3.running) _ _,λ_=>fB (.inl h3.running) _ _⟩
 |eH f i h1 h2 h3 h4 h5=>subst h2;exact⟨offersAt_parked_send' ..,λe=>absurd h1 e⟩
 |blk f h1 h2 h3 h4 h5=>have ho:=(h5 w (Rel.refl ..)).off;simp only at ho;subst h2;exact⟨by simp[offersAt,ho],λ_=>by simp[offersAt,ho]⟩
theorem A8(h:RInv G P Fin S W0 j0 r0 m gs w t s rm fl D st sm Q)(hfl:fl≠.eH)(i:Nat):partners (gs.setIfInBounds i ph) G.Ch true=[]:=by refine partners_nil λj g hg=>?_;rcases getElem?_stand gs i j g hg with⟨_,rfl⟩|⟨_,hg⟩;exact offersAt_ph ..;rcases h.who hg with⟨_,hm⟩|⟨_,_,_,hw⟩|⟨_,_,hq⟩;exact hm.offers.2 hfl;exact hw.offers.1;exact fB hq.status _ _
theorem abE{n i j:Nat}(hi:i<n)(hj:j<n){a b c d:MemAct}(fi fj:FuncId)(pi pj:String)(ha:a.touch?=none/\∀mk,a≠.mark mk)(hb:b.touch?=none/\∀mk,b≠.mark mk)(hc:c.touch?=none/\∀mk,c≠.mark mk)(hd:d.touch?=none/\∀mk,d≠.mark mk)(fn:FuncId)(pos:String)(k:Nat):
 Plain n (MemOp.ofEvents k fn pos #[]++ #[{g:=i,fn:=fi,pos:=pi,act:=a},{g:=j,fn:=fj,pos:=pj,act:=b},{g:=i,fn:=fi,pos:=pi,act:=c},{g:=j,fn:=fj,pos:=pj,act:=d}]):=by
 intro op hop;rw[ofEvents_eq]at hop;simp at hop;rcases hop with rfl|rfl|rfl|rfl;exact⟨hi,ha⟩;exact⟨hj,hb⟩;exact⟨hi,hc⟩;exact⟨hj,hd⟩
theorem Fq(h:RInv G P Fin S W0 j0 r0 m gs w t s rm fl D st sm Q){i:Nat}(hi:i<m){g:aG}(hg:gs[j0+i]?=some g){f:WS->RT WS}(pc:(D i).rk=.node f)(hpk:(D i).pk=false)(hst:(D i).st.g.status=.running)
 (hs:∀w,stepG P false g w=stepG P false (D i).st.g w)(hdf:Deaf t (j0+i)=Ff (D i).st.ph)(hR:∀w1,Rel G (D i).st.M w w1->qZ G P (λs1=>kp G P (f s1) s1) {(D i).st with w:=w1}):ur G P Fin S W0 j0 r0 gs w sl t (iw j0 m D rm fl Q) (j0+i):=by
 have hj1:=h.j1;have R:=hR w (Rel.refl ..);have jF:(D i).st.ph=.run:=R.ph;have hd0:Deaf t (j0+i)=0:=by rw[hdf,jF];rfl
 have hgo:=(hs w).trans R.step;have hz:((j0+i)==0)=false:=by simp;omega
 have Lu:∀{p},(D i).st.ph=p->upd (dP D) i p=dP D:=λ{p} e=>by have:=eY (dP D) i;rwa[show dP D i=p from e]at this
 obtain⟨a1,b1,hc⟩:=h.hp.ch;cases hcl:lI s.tag with
 |true=>
  rw[hcl]at hc;have hfl:fl≠.eH:=λe=>by have:=h.Ie e;rw[hcl]at this;cases this
  have hrun:=crowd_recv_closed (P:=P) (sl:=sl) hg zdU hc (A8 h hfl _);rw[finishComm_recv,rq]at hrun;have hK:=R.shut;simp only at hK;refine⟨_,_,iw j0 m (upd D i ⟨{(D i).st with w:=w,ph:=.shut,g:=Conc.served (D i).st.g (recvd true G.z false)},f {(D i).st with w:=w,ph:=.shut,g:=Conc.served (D i).st.g (recvd true G.z false)},false,0⟩) rm fl Q,hrun,Fj hi (jE zdB sM (by rw[pc];exact⟨_,rfl⟩)),m,_,w,sl,s,rm,fl,_,st,sm,Q,rfl,?_,rfl⟩;refine yZ h hi ?_ (.run sM rfl (kp.running hK) (λ_=>rfl) rfl hK hd0) rfl rfl rfl (h.mode.shift hi (by rw[show dP D i=.run from jF];rfl) rfl) (λe=>zd1) (.inr rfl) (λe=>by rw[hcl]at e;cases e) λ_=>rfl;intro op hop;rw[ofEvents_eq]at hop;simp at hop;subst hop;exact⟨by simp only;omega,rfl,λmk=>sM⟩
 |false=>
  rw[hcl]at hc;by_cases hfl:fl=.eH
  ·obtain⟨a,ha,hma⟩:=h.mn;cases hma with
   |run h1 _ _=>rw[hfl]at h1;cases h1
   |blk _ h1 _ _ _ _=>rw[hfl]at h1;cases h1
   |eH F x h1 h2 h3 h4 h5=>
    (have hmem:∀j k,(j,k)∈partners (gs.setIfInBounds (j0+i) ph) G.Ch true->k=0/\j=0:=by intro j k hjk;obtain⟨g2,hg2,hk⟩:=mem_partners.1 hjk;rcases getElem?_stand gs (j0+i) j g2 hg2 with⟨_,rfl⟩|⟨_,hg2⟩;rw[offersAt_ph]at hk;cases hk;rcases h.who hg2 with⟨hj0,_⟩|⟨_,_,_,hw⟩|⟨_,_,hq⟩;subst hj0;rw[ha]at hg2;cases hg2;subst h2;rw[offersAt_parked_send,if_pos rfl]at hk;simp at hk;exact⟨hk,rfl⟩;rw[hw.offers.1]at hk;cases hk;rw[fB hq.status]at hk;cases hk);have hne:partners (gs.setIfInBounds (j0+i) ph) G.Ch true≠[]:=by intro e;have:(0,0)∈partners (gs.setIfInBounds (j0+i) ph) G.Ch true:=mem_partners.2 ⟨a,by rw[bh oM];exact ha,by rw[h2,offersAt_parked_send,if_pos rfl];simp⟩;rw[e]at this;cases this
    obtain⟨j,gj,vj,zj,shj,d,hji,hgj,hrun⟩:=crowd_recv_meets_some (P:=P) (sl:=sl) hg zdU hc hne (λj k hjk=>by
     obtain⟨rfl,rfl⟩:=hmem j k hjk;exact⟨rfl,oM,_,_,_,_,by rw[ha,h2]⟩)
    (have hj0:j=0:=by by_cases e:j=0;exact e;exfalso;(have ho:offersAt (parked gj #[scase G.Ch vj zj] shj) G.Ch true=[0]:=by rw[offersAt_parked_send,if_pos rfl]);rcases h.who hgj with⟨hj0,_⟩|⟨_,_,_,hw⟩|⟨_,_,hq⟩;exact e hj0;rw[hw.offers.1]at ho;cases ho;rw[fB hq.status]at ho;cases ho);subst hj0;rw[ha,h2]at hgj;have hpe:=bJ hgj;obtain⟨e1,e2,_⟩:=rp hpe;(have hv:vj=.int .i64 x:=by simp[scase]at e1;exact e1.1.symm);subst hv;rw[finishComm_recv,rq,show gj.finishComm P #[scase G.Ch (.int .i64 x) zj] shj 0 undef false=Conc.served s.g undef from by rw[<-e2,finishComm_send,<-oC hpe];rfl]at hrun;have hpl:=abE (n:=j0+m) (i:=0) (j:=j0+i) oM oM (a:=.send G.Ch a1) (b:=.recv G.Ch b1 0) (c:=.sendDone G.Ch a1) (d:=.recvDone G.Ch b1) gj.frame.fn ({(D i).st.g with status:=.running,offers:=none}:aG).frame.fn gj.frame.place ({(D i).st.g with status:=.running,offers:=none}:aG).frame.place zdq zdq zdq zdq g.frame.fn g.frame.place (j0+i);obtain⟨s',rm',d',k1,k2⟩:=A6 (a:=a1+1) (b:=b1+1) (d:=d) (gs':=(gs.setIfInBounds 0 (Conc.served s.g undef)).setIfInBounds (j0+i) (Conc.served (D i).st.g (recvd true (.int .i64 x) true))) h hi pc hd0 jF hR h3 h5 hpl rfl zd5 (by rw[bh oM,cB zdS]) zd2 (λk k0 k1=>by rw[bh oM,bh oM]);exact zdY
  ·have hrun:=crowd_waits (P:=P) (sl:=sl) hg zdU (λcc hcc=>by
    (have:cc=rcase G.Ch G.z:=by simpa using hcc);subst this;exact ways_recv_none hc (A8 h hfl _))
   refine⟨_,_,iw j0 m (upd D i ⟨{(D i).st with w:=w},(D i).rk,true,0⟩) rm fl Q,hrun,Fj hi ?_,m,_,w,sl,s,rm,fl,_,st,sm,Q,rfl,?_,rfl⟩;rw[WD.AZ (d:=D i) zdB,hpk,WD.AZ zdB];exact Prod.Lex.right _ (Prod.Lex.right _ sM);refine yZ h hi (λop hop=>by rw[ofEvents_eq]at hop;simp at hop) (.eH f jF rfl rfl pc hst hR hd0) rfl rfl rfl zdt (λ_=>h.vX i hi jF) (.inl jF) (λ_=>jF) λe=>?_;rcases e with e|e;rw[hcl]at e;cases e;exact absurd e hfl
end
def Na(G:Geo)(P:aF)(Fin:aG->Prop)(S:cD)(W0:aa)(mc:Machine)(t:Trace):Prop:=
 ∃n gs w sl Q a,mc=crowd gs w sl/\gs[0]?=some a/\a.status=.running/\Fin a/\Calm P S (λb=>b<w.heap.size/\¬S b) n gs w t Q/\Rel G (λ_=>False) W0 w/\fA G w/\∀x,x<G.N->w.cell? (dE G x)=some (G.ans x)
theorem Oc{G:Geo}{S:cD}{A':cD}{sz:Nat}{fn:FuncId}{pos:String}{es:Array Event}(h:∀e∈es,Ia G e)(gk:ri G S)(hB:∀b,G.base b->b<sz):
 ∀op∈MemOp.ofEvents 0 fn pos es,Lr S (λb=>b<sz/\¬S b) A' G.base (λ_=>False) 0 op:=by
 intro op hop;have aa8:=hop;rw[ofEvents_eq]at hop;obtain⟨e,he,rfl⟩:=Array.mem_map.1 hop;rcases h e he with h1|⟨a,ha,h1⟩;have:=Ii (S:=S) (A':=A') (O:=λ_=>False) (k:=0) (fn:=fn) (pos:=pos) (sz:=sz) (es:=#[e]) (A:=λ_=>False) (B:=G.base) (by simpa using h1) (λb hb=>hb.elim) (λb hb=>⟨hB b hb,gk.bs b hb⟩) (λl b _ hb=>hb.elim);exact this _ (by rw[ofEvents_eq];simp)
 ·refine⟨rfl,λx hx=>?_⟩;have hx':(x=⟨.cell a,false,.said⟩\/x=⟨.cell a,true,.said⟩):=by rcases h1 with rfl|rfl;simp[MemAct.ofEvent,MemAct.touch?]at hx;exact .inl hx.symm;simp[MemAct.ofEvent,MemAct.touch?]at hx;exact .inr hx.symm
  have hb:∀b,blk x.loc=some b->b=G.Wg:=λb hb=>by rcases hx' with rfl|rfl<;>· simp only[blk,bq]at hb;rw[<-hb];exact ha
  have hb2:blk x.loc=some G.Wg:=by rcases hx' with rfl|rfl<;>simp[blk,ha]
  refine⟨λb hb'=>.inr (by rw[hb b hb'];exact gk.sW),λ_=>.inl ⟨⟨_,hb2,gk.sW⟩,?_,λ_=>rfl⟩⟩;rcases hx' with rfl|rfl<;>simp
theorem Ia.loc{G:Geo}{e:Event}(h:Ia G e):(e.loc≠.mark .disable/\e.loc≠.mark .enable)/\∀a,e.loc≠.mark (.release a):=by rcases h with h|⟨a,_,rfl|rfl⟩;exact⟨⟨λe2=>(h.1 _ e2).elim,λe2=>(h.1 _ e2).elim⟩,λa e2=>(h.1 _ e2).elim⟩;simp;simp
theorem Same.one{w w':aa}(h:Same w w')(b:Nat):One b w w':=⟨λx _=>by rw[h.heap],h.os,h.tape,h.output,by rw[h.heap]⟩
section
variable {G:Geo}{P:aF}{Fin:aG->Prop}{S:cD}{W0:aa}{j0 r0 m:Nat}{gs:Array aG}{w w':aa}{t:Trace}{s:MS}{rm:RT MS}{fl:qL}{D:Nat->WD}{st sm:Int}{Q:Nat->Nat}{sl:Option (Nat×Nat)}
theorem Mode.wh{tag:jm}(h:Mode m (dP D) tag st sm)(ho:isOpen tag):st=((cnt m (dP D)+pend tag:Nat):Int)*KK/\sm=0/\(∀i,i<m->jY (dP D i))/\(∀V,tag=.wa V->cnt m (dP D)<=V)/\(∀V,tag=.Lp V->cnt m (dP D)<=V/\1<=V):=by
 cases h with
 |opn a b c d=>exact⟨rfl,rfl,b,c,d⟩
 |reg a b=>exact ho.elim
 |last L a b c=>exact ho.elim
 |sema a=>exact ho.elim
 |fin a b=>rcases a with rfl|rfl<;>exact ho.elim
theorem Mode.QY{tag:jm}(h:Mode m (dP D) tag st sm)(ho:tag=.w4\/tag=.ke):st=0/\sm=0/\∀i,i<m->dP D i=.out:=by
 cases h with
 |opn a b c d=>rcases ho with rfl|rfl<;>exact a.elim
 |reg a b=>rcases ho with h|h<;>cases h
 |last L a b c=>rcases ho with h|h<;>cases h
 |sema a=>rcases ho with h|h<;>cases h
 |fin a b=>exact⟨rfl,rfl,b⟩
def Ip(G:Geo)(P:aF)(Fin:aG->Prop)(S:cD)(W0:aa)(gs:Array aG)(w:aa)(sl:Option (Nat×Nat))(t:Trace)(i:Nat):Prop:=
 ∃m1 ops,runT P (crowd gs w sl) i=(.next m1,ops)/\Na G P Fin S W0 m1 (t++ops)
theorem UR{tag:jm}(h:Mode m (dP D) tag st sm)(ht:tag≠.w3):sm≠1:=λe=>by subst e;exact ht h.w3
theorem Od(h:RInv G P Fin S W0 j0 r0 m gs w t s rm fl D st sm Q){a g':aG}(ha:gs[0]?=some a)(htag:s.tag=.ke)(hd:s.d=0)(hgo:stepG P true a w=.go g' w #[mk (.acquire (stA G.Wg))])(hrun:g'.status=.running)(hfin:Fin g'):Ip G P Fin S W0 gs w sl t 0:=by
 have hj1:=h.j1;have hrunT:=runT_crowd_go (P:=P) (sl:=sl) (i:=0) ha zdL;obtain⟨_,_,hall⟩:=h.mode.QY (.inr htag);have hes:MemOp.ofEvents 0 a.frame.fn a.frame.place #[mk (.acquire (stA G.Wg))]= #[{g:=0,fn:=a.frame.fn,pos:=a.frame.place,act:=.mark (.acquire (stA G.Wg))}]:=by rw[ofEvents_eq];simp[mk,MemAct.ofEvent]
 generalize hu:MemOp.ofEvents 0 a.frame.fn a.frame.place #[mk (.acquire (stA G.Wg))]=u at hrunT hes;have hmu:mute u:=by rw[hes];intro op hop;simp at hop;subst hop;rfl
 have htr:=h.tr.mute (Ib:=UN G j0 m (dM D) (dH D)) h.rt (λb hb=>hb) (λk l _ hl=>hl) hmu (λop hop=>by rw[hes]at hop;simp at hop;subst hop;simp only;omega) (λop hop a=>by rw[hes]at hop;simp at hop;subst hop;simp);have hq:(t++u)[t.size]?=some {g:=0,fn:=a.frame.fn,pos:=a.frame.place,act:=.mark (.acquire (stA G.Wg))}:=by rw[hes];simp
 have hd0:Deaf t 0=0:=h.d0.trans hd;have dD:∀k,Deaf (t++u) k=Deaf t k:=λk=>ConcN.Deaf_still t k u λop hop=>by rw[hes]at hop;simp at hop;subst hop;simp
 obtain⟨ho,hk⟩:=htr.done (q:=t.size) oM (by rw[act?_of hq]) (by simp[Trace.g?,hq]) ⟨0,by simp[Trace.g?,hq],by rw[deaf_old (aj _)];exact hd0⟩ λk k1 k2=>by have jF:(D (k-j0)).st.ph=.out:=hall (k-j0) oM;obtain⟨⟨r,hr⟩,_⟩:=h.rl (k-j0) oM zdI zdI;rw[show j0+(k-j0)=k by omega]at hr;exact⟨r,RelBy.mute hr hmu,lt_of_act? hr.act⟩
 have hwk:∀i,i<m->∃g,gs[j0+i]?=some g/\QuitsD P (D i).q (Deaf t (j0+i)) g:=λi hi=>by
  obtain⟨g,hg,hw⟩:=h.wk i hi;have jF:(D i).st.ph=.out:=hall i hi;cases hw with
  |run h1 _ _ _ _ _ _=>exact absurd jF h1
  |eH f h1 _ _ _ _ _ _=>rw[jF]at h1;cases h1
  |out _ _ h3=>exact⟨g,hg,h3⟩
 refine⟨_,_,hrunT,j0+m,_,w,sl,λk=>if k<j0 then Q k else(D (k-j0)).q,g',rfl,ed _ _ _ _ zdS,hrun,hfin,⟨oM,htr.tr,hk,ho,htr.yU,by rw[dD];exact hd0,zdZ,λb hb=>hb.1,h.hp.sb,λk k1 k2=>?_⟩,h.hp.w0,h.hp.row,λx hx=>?_⟩;rw[dD];by_cases e:k<j0;obtain⟨g,hg,hq⟩:=h.lv k k1 e;refine⟨g,zdF,by simp only[if_pos e];exact hq⟩;obtain⟨g,hg,hq⟩:=hwk (k-j0) oM;rw[show j0+(k-j0)=k by omega]at hg hq;exact⟨g,zdF,by simp only[if_neg e];exact hq⟩;obtain⟨i,hi,hH⟩:=h.hp.hall x (by rw[htag];exact hx);have jF:(D i).st.ph=.out:=hall i hi;exact h.hp.Fg i x hi ((h.rl i hi zdI zdI).2 x hH)
theorem Iq(h:RInv G P Fin S W0 j0 r0 m gs w t s rm fl D st sm Q){a:aG}(ha:gs[0]?=some a)(hag:a=s.g)(_:fl=.run){f:MS->RT MS}(hrm:rm=.node f)(htag:s.tag=.sd G.N)(hmw:mayWake P s.g=true)
 (hK:∀a b,w.heap[G.Ch]?=some (.chan 0 #[] false a b false)->∃g',stepG P true s.g w=.go g' {w with heap:=w.heap.setIfInBounds G.Ch (.chan 0 #[] true a b false)} #[⟨.obj G.Ch,false,true⟩,⟨.obj G.Ch,true,true⟩]/\g'.status=.running/\∀v,jP G P Fin (f {s with tag:=.wa v,g:=g',w:={w with heap:=w.heap.setIfInBounds G.Ch (.chan 0 #[] true a b false)}}) {s with tag:=.wa v,g:=g',w:={w with heap:=w.heap.setIfInBounds G.Ch (.chan 0 #[] true a b false)}}):ur G P Fin S W0 j0 r0 gs w sl t (iw j0 m D rm fl Q) 0:=by
 have hj1:=h.j1;obtain⟨c1,c2,hc⟩:=h.hp.ch;rw[htag]at hc;obtain⟨g',hgo,hrun,hB⟩:=hK c1 c2 hc;have hcl:=h.hp.sb _ h.gk.sC;generalize hw':({w with heap:=w.heap.setIfInBounds G.Ch (.chan 0 #[] true c1 c2 false)}:aa)=w' at hgo hB;have hc':w'.heap[G.Ch]?=some (.chan 0 #[] true c1 c2 false):=by subst hw';simp[hcl]
 have hone:One G.Ch w w':=by subst hw';exact⟨λx hx=>by simp[Ne.symm hx],rfl,rfl,rfl,sM⟩
 have XI:¬G.base G.Ch:=λe=>h.gk.bs _ e h.gk.sC;have nO:G.Ch≠G.O:=λe=>h.gk.so (e▸h.gk.sC);have nW:G.Ch≠G.Wg:=λe=>h.gk.wc e.symm;have hrel:∀M:Nat->Prop,¬M G.Ch->Rel G M w w':=λM hM=>Rel.one hone XI hM (λe=>absurd e nW) λe=>absurd e nO;have hr0:Rel G (λ_=>False) w w':=hrel _ λe=>e;have UO:∀j,j<m->¬(D j).st.M G.Ch:=λj hj e=>(h.hp.own j _ hj e).2.2.1 h.gk.sC;have hrunT:=runT_crowd_go (P:=P) (sl:=sl) (i:=0) ha (by rw[hag];simpa using hgo);have hev:∀e∈#[(⟨.obj G.Ch,false,true⟩:Event),⟨.obj G.Ch,true,true⟩],yX S e:=by intro e he;simp at he;rcases he with rfl|rfl;exact .inr (.inr ⟨_,rfl,h.gk.sC⟩);exact .inl rfl
 have hloc:∀e∈#[(⟨.obj G.Ch,false,true⟩:Event),⟨.obj G.Ch,true,true⟩],∀mk,e.loc≠.mark mk:=by intro e he mk;simp at he;rcases he with rfl|rfl<;>simp
 have dD:∀k,Deaf (t++MemOp.ofEvents 0 a.frame.fn a.frame.place #[(⟨.obj G.Ch,false,true⟩:Event),⟨.obj G.Ch,true,true⟩]) k=Deaf t k:=λk=>ConcN.Deaf_still t k _ λop hop=>by rw[ofEvents_eq]at hop;obtain⟨e,he,rfl⟩:=Array.mem_map.1 hop;exact⟨λe2=>hloc e he _ (loc_of_ofEvent e2),λe2=>hloc e he _ (loc_of_ofEvent e2)⟩
 have hopen:∀i,i<m->(D i).st.ph=.run:=h.opn (by rw[htag];rfl);have hm0:=h.mode.wh (by rw[htag];trivial);rw[htag]at hm0;have hmd:Mode m (dP D) (.wa m) st sm:=by rw[hm0.1,hm0.2.1];exact .opn (tag:=.wa m) trivial hm0.2.2.1 (λV e=>by cases e;exact vY _ _) λV e=>by cases e
 have hp:lr G S W0 m (dM D) (dH D) (dX D) true G.N w':=by have hp0:=h.hp;rw[htag]at hp0;simp only[lI,sent]at hp0;exact⟨hr0.row hp0.row,⟨_,_,hc'⟩,λb hb=>zd0,λb hb=>zd3,λj b hj hb=>zdV,hp0.kF,hp0.hd,hp0.vU,hp0.hall,λj y hj hy=>zdC,hp0.w0.trans hr0⟩
 have hp':=hp;refine⟨_,_,iw j0 m (λi=>{D i with pk:=false}) _ .run Q,hrunT,Prod.Lex.left _ _ (by rw[hrm];exact⟨_,rfl⟩),m,_,w',sl,{s with tag:=.wa m,g:=g',w:=w'},f {s with tag:=.wa m,g:=g',w:=w'},.run,λi=>{D i with pk:=false},st,sm,Q,rfl,?_,rfl⟩;refine⟨h.gk,h.j1,zdZ,zdn,⟨_,ed _ _ _ _ zdS,.run rfl rfl (hB m)⟩,λj hj=>?_,λk k1 k2=>?_,?_,by rw[dD];exact h.d0,pE h.wg (hone.block _ (Ne.symm nW)),hmd,λ_=>rfl,hp',λj hj he=>by have:=h.vX j hj he;rw[htag]at this;exact this,λj hj he _=>absurd (hopen j hj) he,λe=>by simp[lI]at e,λ_ j hj=>rfl,λe=>zd1,λ_=>h.m1 zd6,zd4⟩
 ·rw[dD];obtain⟨g2,hg2,hw2⟩:=h.wk j hj;rw[cW _ _ _ _ _ oM,hg2];have hw3:=hw2.rely (hrel _ (UO j hj));cases hw3 with
  |run h1 h2 h3 h4 h5 h6 h7=>exact⟨g2,by simp[woken_running h3],.run h1 rfl h3 h4 h5 h6 h7⟩
  |eH F h1 h2 h3 h4 h5 h6 h7=>refine⟨{g2 with status:=.running},?_,.run (by rw[h1];simp) rfl rfl (λW=>?_) ?_ (by simp only;rw[h4];exact⟨h5,.inr h6⟩) (by simp only;rw[h1];exact h7)⟩;simp only[cH,bq];unfold woken;rw[if_pos (by rw[hag,hmw,hrun];rfl),h3];exact again_recv_closed hc';subst h3;exact stepG_same (h:=(D j).st.g) rfl rfl rfl W;subst h3;rfl
  |out h1 h2 h3=>exact⟨g2,by simp[woken_quitsD h3],.out h1 rfl h3⟩
 ·rw[dD];obtain⟨g2,hg2,hq⟩:=h.lv k k1 k2;exact⟨g2,by rw[cW _ _ _ _ _ oM,hg2];simp[woken_quitsD hq],hq⟩
 ·exact h.tr.app h.rt (λb hb=>⟨by rw[hone.size];exact hb.1,hb.2⟩) (λk l _ hl=>hl) (hp.apart (j0:=j0) h.gk) oM (.inl rfl) h.j1 (O:=λ_=>False) (A:=λ_=>False) (λl hl=>hl.elim) (kU hev) (gV λe he a=>hloc e he _)
theorem D4(h:RInv G P Fin S W0 j0 r0 m gs w t s rm fl D st sm Q){mQ:qL}{a':aG}{u:Trace}(hu:Plain (j0+m) u)(hma:ug G P Fin mQ s rm a' w)(QZ:sm=1->mQ=.run)(QX:mQ=.eH->∀i,i<m->(D i).pk=false)(ZW:mQ=.eH->lI s.tag=false){gs':Array aG}(hsz:gs'.size=gs.size)(h0:gs'[0]?=some a')(ho:∀k,k≠0->gs'[k]?=gs[k]?):
 RInv G P Fin S W0 j0 r0 m gs' w (t++u) s rm mQ D st sm Q:=by
 have hj1:=h.j1;refine⟨h.gk,h.j1,by rw[hsz];exact h.sz,zdn,⟨a',h0,hma⟩,λj hj=>?_,λk k1 k2=>?_,?_,zdT,h.wg,h.mode,QZ,h.hp,h.vX,λj hj he hes=>?_,h.opn,λe j hj=>?_,ZW,h.m1,h.big⟩;rw[hu.deaf,ho _ oM];exact h.wk j hj;rw[hu.deaf,ho _ oM];exact h.lv k k1 k2;exact zdu;exact zdp;rcases e with e|e;exact h.AW (.inl e) j hj;exact QX e j hj
theorem A9(n k:Nat)(fn:FuncId)(pos:String):Plain n (MemOp.ofEvents k fn pos #[]):=λop hop=>by rw[ofEvents_eq]at hop;simp at hop
theorem Lv(h:RInv G P Fin S W0 j0 r0 m gs w t s rm fl D st sm Q){a:aG}(ha:gs[0]?=some a)(hag:a=s.g)(hfl:fl=.run){f:MS->RT MS}(hrm:rm=.node f)(hst:s.g.status=.running){x:Nat}(hS:∀w1,Rel G (λ_=>False) w w1->rf G P (λs1=>jP G P Fin (f s1) s1) {s with w:=w1} x):ur G P Fin S W0 j0 r0 gs w sl t (iw j0 m D rm fl Q) 0:=by
 have hj1:=h.j1;have Sd:=hS w (Rel.refl ..);have htag:s.tag=.sd x:=Sd.tag;have hgo:stepG P (0==0) a w=.comm {s.g with status:=.running,offers:=none} #[scase G.Ch (.int .i64 x) G.zs] true .send w #[]:=by rw[hag];exact Sd.step
 obtain⟨a1,b1,hc⟩:=h.hp.ch;have hcl:lI s.tag=false:=by rw[htag];rfl
 rw[hcl]at hc;have hmem:∀j k,(j,k)∈partners (gs.setIfInBounds 0 ph) G.Ch false->k=0/\∃i,i<m/\j=j0+i/\(D i).pk=true/\gs[j]?=some (parked {(D i).st.g with status:=.running,offers:=none} #[rcase G.Ch G.z] (.recv true)):=by
  intro j k hjk;obtain⟨g2,hg2,hk⟩:=mem_partners.1 hjk;rcases getElem?_stand gs 0 j g2 hg2 with⟨_,rfl⟩|⟨hj0,hg2⟩;rw[offersAt_ph]at hk;cases hk
  ·rcases h.who hg2 with⟨Q3,_⟩|⟨i,hi,hj,hw⟩|⟨_,_,hq⟩;exact absurd Q3 hj0
   ·cases hpk:(D i).pk with
    |false=>rw[hw.offers.2.1 hpk]at hk;cases hk
    |true=>obtain⟨e1,e2⟩:=hw.offers.2.2 hpk;rw[e1]at hk;simp at hk;exact⟨hk,i,hi,hj,hpk,by rw[hg2,e2]⟩
   ·rw[fB hq.status]at hk;cases hk
 by_cases hne:partners (gs.setIfInBounds 0 ph) G.Ch false=[]
 ·have hrun:=crowd_waits (P:=P) (sl:=sl) ha hgo (λcc hcc=>by
   (have:cc=scase G.Ch (.int .i64 x) G.zs:=by simpa using hcc);subst this;exact ways_send_none hc sM hne)
  have hnp:∀i,i<m->(D i).pk=false:=λi hi=>by
   cases hpk:(D i).pk with
   |false=>rfl
   |true=>obtain⟨g2,hg2,hw⟩:=h.wk i hi;have:(j0+i,0)∈partners (gs.setIfInBounds 0 ph) G.Ch false:=mem_partners.2 ⟨g2,by rw[bh oM];exact hg2,by rw[(hw.offers.2.2 hpk).1];simp⟩;rw[hne]at this;cases this
  refine⟨_,_,iw j0 m D rm .eH Q,hrun,Prod.Lex.right _ (Prod.Lex.right _ (by rw[hfl];simp[qL.num])),m,_,w,sl,s,rm,.eH,D,st,sm,Q,rfl,?_,rfl⟩;exact D4 h (A9 _ _ _ _) (.eH f x rfl rfl hrm hst hS) (λe=>absurd e (UR h.mode zd6)) (λ_=>hnp) (λ_=>hcl) sM (cB zdS) λk hk=>bh (Ne.symm hk)
 ·obtain⟨j,gj,zj,shj,d,hj0,hgj,hrun⟩:=crowd_send_meets_some (P:=P) (sl:=sl) ha hgo hc hne (λj k hjk=>by
   obtain⟨rfl,i,hi,rfl,_,hg⟩:=hmem j k hjk;exact⟨rfl,oM,_,_,_,hg⟩)
  have ho:offersAt (parked gj #[rcase G.Ch zj] shj) G.Ch false=[0]:=zdW
  have:∃i,i<m/\j=j0+i/\gs[j]?=some (parked {(D i).st.g with status:=.running,offers:=none} #[rcase G.Ch G.z] (.recv true))/\pD G P (D i) (Deaf t (j0+i)) (parked gj #[rcase G.Ch zj] shj) w/\(D i).pk=true:=by
   rcases h.who hgj with⟨Q3,_⟩|⟨i,hi,hj,hw⟩|⟨_,_,hq⟩;exact absurd Q3 hj0
   ·cases hpk:(D i).pk with
    |false=>rw[hw.offers.2.1 hpk]at ho;cases ho
    |true=>exact⟨i,hi,hj,by rw[hgj,(hw.offers.2.2 hpk).2],hw,hpk⟩
   ·rw[fB hq.status]at ho;cases ho
  obtain⟨i,hi,rfl,ZX,hw,hpk⟩:=this;rw[ZX]at hgj;have hpe:=bJ hgj;obtain⟨e1,e2,_⟩:=rp hpe;rw[<-e2]at hrun;rw[finishComm_send,show gj.finishComm P #[rcase G.Ch zj] (.recv true) 0 (.int .i64 x) true=Conc.served (D i).st.g (recvd true (.int .i64 x) true)from by rw[finishComm_recv,<-oC hpe];rfl,rq]at hrun;cases hw with
  |run h1 h2 _ _ _ _ _=>rw[hpk]at h2;cases h2
  |out _ h2 _=>rw[hpk]at h2;cases h2
  |eH F h1 h2 h3 h4 h5 h6 h7=>have hpl:=abE (n:=j0+m) (i:=0) (j:=j0+i) oM oM (a:=.send G.Ch a1) (b:=.recv G.Ch b1 0) (c:=.sendDone G.Ch a1) (d:=.recvDone G.Ch b1) ({s.g with status:=.running,offers:=none}:aG).frame.fn gj.frame.fn ({s.g with status:=.running,offers:=none}:aG).frame.place gj.frame.place zdq zdq zdq zdq a.frame.fn a.frame.place 0;obtain⟨s',rm',d',k1,k2⟩:=A6 (a:=a1+1) (b:=b1+1) (d:=d) (gs':=(gs.setIfInBounds (j0+i) (Conc.served (D i).st.g (recvd true (.int .i64 x) true))).setIfInBounds 0 (Conc.served s.g undef)) h hi h4 h7 h1 h6 hrm hS hpl rfl zd5 zd2 (by rw[bh oM,cB zdS]) (λk k0 k1=>by rw[bh oM,bh oM]);exact zdY
theorem Q4(h:RInv G P Fin S W0 j0 r0 m gs w t s rm fl D st sm Q){a g' child:aG}(ha:gs[0]?=some a)(_:fl=.run){r:Nat}(htag:s.tag=.sp (r+1) true)(hd:s.d=0)(hgo:stepG P true a w=.spawn g' child w #[]){rm':RT MS}{s':MS}(hs':s'={s with tag:=gU r,g:=g',w:=w})(hB:jP G P Fin rm' s')(hlt:RT.Lt rm' rm)
 (hC:∃q,kp G P q ⟨.run,child,w,λ_=>False,λ_=>False,λ_=>False,G.N⟩):ur G P Fin S W0 j0 r0 gs w sl t (iw j0 m D rm fl Q) 0:=by
 have hj1:=h.j1;obtain⟨q,hC⟩:=hC;have hrunT:=runT_crowd_spawn (P:=P) (sl:=sl) (i:=0) ha zdL;have hops:((MemOp.ofEvents 0 a.frame.fn a.frame.place #[]).push {g:=0,fn:=a.frame.fn,pos:=a.frame.place,act:=.go gs.size}).push {g:=gs.size,fn:=child.frame.fn,pos:=a.frame.place,act:=.start}= #[({g:=0,fn:=a.frame.fn,pos:=a.frame.place,act:=.go gs.size}:MemOp),{g:=gs.size,fn:=child.frame.fn,pos:=a.frame.place,act:=.start}]:=by rw[ofEvents_eq];simp
 rw[hops]at hrunT;generalize hx:({g:=0,fn:=a.frame.fn,pos:=a.frame.place,act:=.go gs.size}:MemOp)=x,hy:({g:=gs.size,fn:=child.frame.fn,pos:=a.frame.place,act:=.start}:MemOp)=y at hrunT;have dD:∀k,Deaf (t++ #[x,y]) k=Deaf t k:=λk=>ConcN.Deaf_still t k _ λop hop=>by simp at hop;rcases hop with rfl|rfl;rw[<-hx];simp;rw[<-hy];simp
 have hmu:mute #[x,y]:=by intro op hop;simp at hop;rcases hop with rfl|rfl;rw[<-hx];rfl;rw[<-hy];rfl
 have hgs:gs.size=j0+m:=h.sz;have ZY:=h.tr.fork h.rt oM oM (x:=x) (y:=y) (by rw[<-hx];exact⟨rfl,by simp only[hgs]⟩) (by rw[<-hy];exact⟨hgs,rfl⟩) (h.d0.trans hd);have hnew:Deaf t (j0+m)=0:=Deaf_absent λi op hi e=>by have:=h.tr.tr.gs i op hi;omega
 have hm0:=h.mode.wh (by rw[htag];trivial);have hopen:∀i,i<m->(D i).st.ph=.run:=h.opn (by rw[htag];rfl);have hp0:=h.hp;rw[htag]at hp0;simp only[lI,sent]at hp0;have D3:lI (gU r)=false:=by unfold gU;split<;>rfl
 have AY:sent G (gU r)=0:=by unfold gU;split<;>rfl
 have XJ:isOpen (gU r):=by unfold gU;split<;>trivial
 have XK:pend (gU r)=0:=by unfold gU;split<;>rfl
 let D':Nat->WD:=upd D m ⟨⟨.run,child,w,λ_=>False,λ_=>False,λ_=>False,G.N⟩,q,false,0⟩;have hD:∀i,i<m->D' i=D i:=λi hi=>upd_ne _ _ oM;have Oe:D' m=⟨⟨.run,child,w,λ_=>False,λ_=>False,λ_=>False,G.N⟩,q,false,0⟩:=upd_same ..;have hall:∀i,i<m+1->dP D' i=.run:=λi hi=>by by_cases e:i=m;subst e;show(D' i).st.ph=_;rw[Oe];show(D' i).st.ph=_;rw[hD i oM];exact hopen i oM
 have hcnt:cnt (m+1) (dP D')=cnt m (dP D)+1:=by
  have e1:cnt m (dP D')=cnt m (dP D):=sumTo_congr λi hi=>by show lH (D' i).st.ph=_;rw[hD i hi];rfl
  show cnt m (dP D')+lH (dP D' m)=_;rw[e1,hall m oM];rfl
 have hM:∀i b,i<m+1->dM D' i b->i<m/\dM D i b:=λi b hi hb=>by by_cases e:i=m;subst e;have hb:(D' i).st.M b:=hb;rw[Oe]at hb;exact hb.elim;have hb:(D' i).st.M b:=hb;exact zdJ
 have hH:∀i b,i<m+1->dH D' i b->i<m/\dH D i b:=λi b hi hb=>by by_cases e:i=m;subst e;have hb:(D' i).st.H b:=hb;rw[Oe]at hb;exact hb.elim;have hb:(D' i).st.H b:=hb;exact zdJ
 have hX:∀i b,i<m+1->dX D' i b->i<m/\dX D i b:=λi b hi hb=>by by_cases e:i=m;subst e;have hb:(D' i).st.S b:=hb;rw[Oe]at hb;exact hb.elim;have hb:(D' i).st.S b:=hb;exact zdJ
 have hp:lr G S W0 (m+1) (dM D') (dH D') (dX D') false 0 w:=by refine⟨hp0.row,hp0.ch,hp0.base,hp0.sb,λi b hi hb=>hp0.own i b (hM i b hi hb).1 (hM i b hi hb).2,λi j b hi hj hb hb'=>hp0.kF i j b (hM i b hi hb).1 (hM j b hj hb').1 (hM i b hi hb).2 (hM j b hj hb').2,λi x hi hx=>hp0.hd i x (hH i x hi hx).1 (hH i x hi hx).2,λi j x hi hj hx hx'=>hp0.vU i j x (hH i x hi hx).1 (hH j x hj hx').1 (hH i x hi hx).2 (hH j x hj hx').2,λx hx=>oM,λi x hi hx=>hp0.Fg i x (hX i x hi hx).1 (hX i x hi hx).2,hp0.w0⟩
 have hsz1:(gs.setIfInBounds 0 g').size=j0+m:=by simp[hgs]
 refine⟨_,_,iw j0 (m+1) D' rm' .run Q,hrunT,Prod.Lex.left _ _ hlt,m+1,_,w,sl,s',rm',.run,D',st,sm,Q,rfl,?_,rfl⟩;have hget:∀k,k≠0->k<j0+m->((gs.setIfInBounds 0 g').push child)[k]?=gs[k]?:=λk k0 k1=>by rw[cL (by rw[hsz1];exact k1),<-aZ,bh (Ne.symm k0)]
 refine⟨h.gk,h.j1,by simp[hgs];omega,zdn,⟨g',?_,.run rfl (by rw[hs']) (by subst hs';exact hB)⟩,λj hj=>?_,λk k1 k2=>?_,?_,by rw[dD,hs'];exact h.d0,h.wg,?_,λ_=>rfl,by rw[hs'];simp only[D3,AY];exact hp,λj hj he=>?_,λj hj he _=>absurd (hall j hj) he,λ_=>hall,λe=>?_,λe=>zd1,λ_=>oM,?_⟩;rw[cL (by rw[hsz1];omega),<-aZ,cB oM];rw[dD];by_cases e:j=m;subst e;refine⟨child,?_,by rw[Oe];exact .run sM rfl (kp.running hC) (λ_=>rfl) rfl hC hnew⟩;rw[<-hsz1,Array.getElem?_push_size];rw[hget _ oM oM,hD j oM];exact h.wk j oM;rw[dD,hget _ oM oM];exact h.lv k k1 k2;have:=ZY.mute (u:=#[]) (T':=λb=>b<w.heap.size/\¬S b) (Ib:=UN G j0 (m+1) (dM D') (dH D')) zdn (λb hb=>hb) (λk l hk hl=>?_) (λop hop=>by simp at hop) (λop hop=>by simp at hop) (λop hop=>by simp at hop);rw[bD]at this;exact this;obtain⟨l1,l2⟩:=hl;refine⟨oM,?_⟩;have e:D' (k-j0)=D (k-j0):=hD _ oM;show(∃b,blk l=some b/\(D' (k-j0)).st.M b)\/∃x,l=.cell (dE G x)/\(D' (k-j0)).st.H x;rw[e];exact l2
 ·rw[hs',hm0.1,hm0.2.1,htag];have:=Mode.opn (m:=m+1) (F:=dP D') XJ (λi hi=>.inl (hall i hi)) (λV e=>by unfold gU at e;split at e<;>cases e) λV e=>by unfold gU at e;split at e<;>cases e
  rw[hcnt,XK]at this;exact this
 ·rw[hs'];simp only[AY];by_cases e:j=m;subst e;rw[Oe];simp;have:=h.vX j oM (hopen j oM);rw[htag]at this;rw[hD j oM];exact this
 ·rw[hs']at e;simp only[D3]at e;rcases e with e|e<;>cases e
 ·have:=h.big;rw[htag]at this;rw[hs'];have:left (gU r)<=r:=by unfold gU;split<;>simp[left]
  simp only[left]at*;omega
end
end Go.Mx
