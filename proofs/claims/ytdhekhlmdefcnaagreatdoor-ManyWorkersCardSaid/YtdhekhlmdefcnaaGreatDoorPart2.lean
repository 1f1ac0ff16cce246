/- Part 2 of the proof. -/
import Derived.Test.YtdhekhlmdefcnaaGreatDoorPart1
import GoSem.Machine.Exec
import Derived.Calls
set_option maxHeartbeats 16000000
set_option maxRecDepth 1000000
namespace Go
section
variable {p:Prop}
theorem zcR(h:p:=by exact⟨fr,l,fr',l',λW W1 es hr=>by unfold callDeferred;rw[if_neg (by rcases hq with⟨f,c,h⟩|⟨r,h⟩|h|h<;>simp[h])];simp only[hr,GStep.after,bD,gr],λW1 es hr=>by unfold callDeferred;rw[if_neg (by rcases hq' with⟨f,c,h⟩|⟨r,h⟩|h|h<;>simp[h])];simp only[hr,GStep.after,bD,gr],hf1,hl1,hb⟩):p:=h
theorem zcS(h:p:=by unfold stepG.exec;rw[ht'];rfl):p:=h
theorem zcT(h:p:=by simp only[stepG.apply,hr,hk,GStep.after,gr,if_true,dA,if_false,reduceIte,bD]):p:=h
theorem zcU(h:p:=by exact⟨_,_,λw=>by simp only[doReturn,h];rfl,λw=>by simp only[doReturn,hk,h];rfl,hc,rfl,rfl⟩):p:=h
theorem zcV(h:p:=by refine .inr ⟨_,l,w1,_,l',w1',_,_,σ,h2,λT hT=>sT k1 (h1 T hT),sT k2 hr',.cons ((hf.mono hg.le).raise (.cons ⟨hv,rfl,rfl⟩ .nil)) (hl.mono hg.le),hb.same (fY _ _).1 (fY _ _).2,hg,hw1,?_,hfr⟩;rw[hf.fn];exact lG _ hls):p:=h
theorem zcW(h:p:=by have:(λw=>stepG P true (gr fr (l++[c0])) w)=λw=>unwind P true fr (l++[c0]) none w:=funext λW=>e2 _ _ _ _ h1;rw[this,e2 _ _ _ _ (by rw[DX];simp)];exact DW E hf hl hb (hn h1) hw):p:=h
theorem zcX(h:p:=by refine sQ hP (hK.mono l) (by rw[l.ok];exact hX) (λn h=>?_) hd.target hd.args;intro t i m f q k1 k2 k3;rw[l.ok];exact hM n (by rw[<-l.nm];exact h) t i m f q k1 k2 k3):p:=h
theorem zcY(h:p:=by unfold callDeferred;rw[if_neg (by rcases hq' with⟨f,c,h⟩|⟨r,h⟩|h|h<;>simp[h])];simp only[hr,GStep.after,bD];rfl):p:=h
theorem zcZ(h:p:=by exact .inr ⟨jD,l1,w1,fc,ig,w1',_,_,σ,h2,λT hT=>k1 _ _ _ (h1 T hT),k2 _ _ hr',.cons k3 k4,k5,hg,hw1,by rw[hfn];exact lG _ hls,hfr⟩):p:=h
theorem zc0(h:p:=by unfold stepG.exec;rw[ht'];dsimp only;rw[q2,r];rfl):p:=h
theorem zc1(h:p:=by unfold stepG.exec;rw[ht];dsimp only;rw[q1,r];rfl):p:=h
theorem zc2(h:p:=by exact to hr (λW=>by unfold stepG.exec;rw[ht];dsimp only;rw[q1];rfl) (by unfold stepG.exec;rw[ht'];dsimp only;rw[q2];rfl)):p:=h
theorem zc3(h:p:=by unfold stepG.exec;rw[ht'];dsimp only;rw[r];rfl):p:=h
theorem zc4(h:p:=by unfold stepG.exec;rw[ht];dsimp only;rw[r];rfl):p:=h
theorem zc5(h:p:=by refine aq (bE arr) λτ d d' l2 e=>?_;subst e;cases d<;>first|exact aC|exact aB (pl_int _)):p:=h
theorem zc6(h:p:=by exact⟨k.fn,k.ok,k.tmps,k.todo,k.defers,.panicking h,k.kind,k.kindOk,k.round⟩):p:=h
theorem zc7(h:p:=by exact⟨m,ts,.inl λT hT=>⟨_,_,_,(eL _).trans (by rw[h1 T hT];rfl)⟩⟩):p:=h
theorem zc8(h:p:=by rw[h1,h2];exact aC):p:=h
theorem zc9(h:p:=by exact .inl ⟨rfl,rfl⟩):p:=h
theorem zda(h:p:=by exact Goes.ended λW=>⟨_,_,_,by unfold stepG.exec;rw[ht]⟩):p:=h
theorem zdb(h:p:=by unfold unwind;rw[hd];dsimp only;rw[hr];rfl):p:=h
theorem zdc(h:p:=by rw[e1,e2];exact qD E (hf.QM h2) hl (hb.same rfl rfl) hw h1):p:=h
theorem zdd(h:p:=by rw[ap fr' _ _ e2 (.inr hn),ow (hrr hro) k2 (x2 w'),t2,sn]):p:=h
theorem zde(h:p:=by rw[nG h];exact c):p:=h
theorem zdf(h:p:=by simp only[stepG.apply,hr,if_true];rfl):p:=h
theorem zdg(h:p:=by exact⟨rfl,k2,k3,.cons (.nk l) b,k5,k6,rfl,k8,k9⟩):p:=h
theorem zdh(h:p:=by exact .cons (h o sM) (ih λq hq=>h q (by simp[hq]))):p:=h
theorem zdi(h:p:=by rw[ap fr _ _ e1 (.inr hn),ow hro k1 (x1 W),t1,sn]):p:=h
theorem zdj(h:p:=by unfold stepG.exec;rw[ht];rfl):p:=h
theorem zdk(h:p:=by rcases hq with⟨f,c,h⟩|⟨r,h⟩|h|h<;>simp[h]):p:=h
theorem zdl(h:p:=by unfold callDeferred;rw[if_neg zdk];simp only[hr,GStep.after,bD];rfl):p:=h
theorem zdm(h:p:=by exact to hk (λW=>zdj) zcS):p:=h
end
end Go
namespace Go.Pr
open Go
section
variable {P:aF}{α β γ δ:Type}{A:Rn->α->β->Prop}{C:Rn->γ->δ->Prop}{ρ:Rn}
theorem Hj{p:ae->ae->Bool}{p':ae->ae->Bool}(h:∀{x y x' y':ae},VR ρ x x'->VR ρ y y'->p' x' y'=p x y):∀{l l' m m':List ae},LR ρ l l'->LR ρ m m'->((l'.zip m').all λ(x,y)=>p' x y)=((l.zip m).all λ(x,y)=>p x y)
 |_,_,_,_,.nil,_=>sM
 |_,_,_,_,.cons _ _,.nil=>sM
 |_,_,_,_,.cons x y,.cons z w=>by simp[h x z,Hj h y w]
theorem qT:∀(n:Nat){x y x' y':ae},VR ρ x x'->VR ρ y y'->Instr.sameBits n x' y'=Instr.sameBits n x y
 |n,x,y,x',y',hx,hy=>by
  cases hx
  case ptr a a' ha=>
   cases hy
   case ptr b b' hb=>have:=addrEq ha hb;cases n<;>exact this.symm
   all_goals cases n<;>rfl
  case iface t hv=>
   cases hy
   case iface u hw=>
    cases n with
    |zero=>rfl
    |succ n=>unfold Instr.sameBits;rw[qT n hv hw]
   all_goals cases n<;>rfl
  case agg ha=>
   cases hy
   case agg hb=>
    cases n with
    |zero=>rfl
    |succ n=>unfold Instr.sameBits;rw[AR.size ha,AR.size hb,Hj (p:=Instr.sameBits n) (p':=Instr.sameBits n) (λh k=>qT n h k) ha hb]
   all_goals cases n<;>rfl
  all_goals(cases hy<;>cases n<;>rfl)
theorem lC.modify{f f':MapEntry->MapEntry}(hf:∀e e',GU ρ e e'->GU ρ (f e) (f' e')):∀{es es':List MapEntry}(i:Nat),lC ρ es es'->lC ρ (es.modify i f) (es'.modify i f')
 |_,_,i,.nil=>by simpa using lC.nil
 |_,_,0,.cons x y=>by simpa using lC.cons (hf _ _ x) y
 |_,_,i+1,.cons x y=>by simpa using lC.cons x (lC.modify hf i y)
theorem lC.snoc{e e':MapEntry}(h:GU ρ e e'):∀{es es':List MapEntry},lC ρ es es'->lC ρ (es++[e]) (es'++[e'])
 |_,_,.nil=>.cons h .nil
 |_,_,.cons x y=>.cons x (y.snoc h)
theorem lC.get:∀{es es':List MapEntry},lC ρ es es'->∀i:Nat,(es[i]?=none/\es'[i]?=none)\/∃v v',es[i]?=some v/\es'[i]?=some v'/\GU ρ v v'
 |_,_,.nil,i=>.inl ⟨sM,sM⟩
 |_,_,.cons x y,0=>.inr ⟨_,_,rfl,rfl,x⟩
 |_,_,.cons x y,i+1=>by simpa using y.get i
theorem km{r r':Nat}(h:ρ.b r r')(hd:¬ρ.D r){o o':Obj}(ho:jf ρ o o'):aP P (vJ Unit Unit) ρ (setObj r o) (setObj r' o'):=.setObj h hd ho (.pure trivial)
theorem vN(hP:PF P)(hK:KF P ρ)(t:aw)(ho:qR P t=true){m m' k k' x x':ae}(hm:VR ρ m m')(hk:VR ρ k k')(hx:VR ρ x x'):aP P (vJ Unit Unit) ρ (Instr.mapUpdate t m k x) (Instr.mapUpdate t m' k' x'):=by
 unfold Instr.mapUpdate;refine aq (gp t) λσ d d' l e=>?_;obtain⟨rfl,h⟩:=e;cases d
 case map key elem=>
  unfold qR at ho;rw[h]at ho;have hks:P.underlying key=some .string:=by dsimp only at ho;split at ho;assumption;cases ho
  replace hm:=hm.mono l;cases hm
  case Du=>exact bK hP (hK.mono l) _
  case map r r' hr=>
   refine aq (iV (.inr hr) (ft hr)) λτ o o' l2 ho=>?_;cases ho
   case map es es' c hes=>refine aq (yM hks _ 9999 k k') λμ _ _ l3 _=>?_;have l4:=(l.trans l2).trans l3;refine aq (Au hP (hK.mono l4) key (hk.mono l4) (hes.mono l3)) λν q q' l5 hq=>?_;have l6:=l4.trans l5;have hes':=(hes.mono l3).mono l5;have hr':=l5.r (l3.r (l2.r hr));rcases hq with⟨rfl,rfl⟩|⟨j,v,v',rfl,rfl,hv⟩;refine km (.inr hr') (ft hr') (.map _ ?_);rw[bH,bH];exact lC.snoc (e:={key:=k,val:=x,born:=c}) (e':={key:=k',val:=x',born:=c}) ⟨hk.mono l6,hx.mono l6,rfl⟩ hes';(have hold:VR ν (((es[j]?).map (·.key)).getD k) (((es'[j]?).map (·.key)).getD k'):=by have:=hes'.get j;rw[Array.getElem?_toList,Array.getElem?_toList]at this;rcases this with⟨h1,h2⟩|⟨u,u',h1,h2,h3⟩;rw[h1,h2];exact hk.mono l6;rw[h1,h2];exact h3.key);dsimp only;refine aq (A:=cI) ?_ λξ u u' l7 hu=>?_;unfold Instr.keyThatStays;refine cQ (qT _ hold (hk.mono l6)).symm (aB (hk.mono l6)) ?_;refine aq (gN _) λξ n n' l7 e=>?_;subst e;refine aB ?_;split;exact(hk.mono l6).mono l7;exact hold.mono l7;refine km (.inr (l7.r hr')) (ft (l7.r hr')) (.map _ ?_);rw[Array.toList_modify,Array.toList_modify];exact lC.modify (f:=λe=>{e with key:=u,val:=x}) (f':=λe=>{e with key:=u',val:=x'}) (λe e' h=>⟨hu,hx.mono (l6.trans l7),h.born⟩) j (hes'.mono l7)
   all_goals exact aC
  all_goals exact aC
 all_goals exact aC
def ES(P:aF)(t:aw):Bool:=match P.underlying t with
 |some .string=>true
 |_=>false
theorem Qx(t:aw)(ho:ES P t=true){x x':ae}(hx:VR ρ x x'):aP P cI ρ (Instr.range t x) (Instr.range t x'):=by
 unfold Instr.range;refine aq (gp t) λσ d d' l e=>?_;obtain⟨rfl,h⟩:=e;unfold ES at ho;rw[h]at ho;cases d
 case string=>
  replace hx:=hx.mono l;cases hx
  case string s=>exact aq (A:=jf) (aB (.iter _ _)) λ_ _ _ _ ho=>aq (oX ho) λ_ _ _ _ k=>aB (.ptr ⟨.inr k,rfl,rfl⟩)
  all_goals exact aC
 all_goals cases ho
theorem UA(t:aw){x x':ae}(hx:VR ρ x x'):aP P cI ρ (Instr.next x true t) (Instr.next x' true t):=by
 unfold Instr.next;cases hx
 case ptr a a' ha=>
  obtain⟨a1,a2,a3⟩:=a;obtain⟨b1,b2,b3⟩:=a';obtain⟨hb,h2,h3⟩:=ha;dsimp only at hb h2 h3;subst h2 h3;dsimp only;cases b2 with
  |succ n=>exact aC
  |zero=>
   by_cases hd:ρ.D a1;exact .nz hd λx e _=>aC;refine aq (iV hb hd) λσ o o' l ho=>?_;cases ho
   case iter s p=>refine dY Iff.rfl (λ_=>?_) λ_=>aB (.tuple (.cons (.bool _) .nil));exact aq (km (l.b hb) (by unfold Rn.D;rw[l.dn];exact hd) (.iter _ _)) λ_ _ _ _ _=>aB (.tuple (.cons (.bool _) (.cons (.int _ _) (.cons (.int _ _) .nil))))
   all_goals exact aC
 all_goals exact aC
theorem CI(hP:PF P)(hK:KF P ρ){x x':ae}(hx:VR ρ x x')(s t:aw)(b:Bool):aP P cI ρ (Instr.typeAssert x s t b) (Instr.typeAssert x' s t b):=by
 unfold Instr.typeAssert;dsimp only;refine aq (bE t) λσ d d' l e=>?_;subst e;replace hx:=hx.mono l;have hx1:=hx;have hK':=hK.mono l;have hold:∀(τ:Rn){v v':ae},VR τ v v'->aP P cI τ (Pure.pure (if b then .tuple #[v,.bool true]else v)) (Pure.pure (if b then .tuple #[v',.bool true]else v')):=λτ v v' hv=>by refine aB ?_;split;exact .tuple (.cons hv (.cons (.bool _) .nil));exact hv
 have fail:∀(τ:Rn),σ.Le τ->∀(p q:Option aw)(m:String),aP P cI τ (do
  if b then Pure.pure (.tuple #[<-zeroValue t,.bool false])else runtimePanic (.typeAssertion p q t m)) (do
  if b then Pure.pure (.tuple #[<-zeroValue t,.bool false])else runtimePanic (.typeAssertion p q t m)):=λτ l2 p q m=>by
  refine cQ rfl ?_ (bK hP (hK'.mono l2) _);exact aq (fT hP t) λ_ _ _ _ hv=>aB (.tuple (.cons hv (.cons (.bool _) .nil)))
 cases d
 case interface want=>
  cases hx
  case nilIface=>exact fail σ (Rn.Le.refl _) _ _ _
  case iface ty hv=>refine aq (eb _) λτ i i' l2 e=>?_;obtain⟨rfl,_⟩:=e;split;exact hold τ (hx1.mono l2);exact fail τ l2 _ _ _
  all_goals exact aC
 all_goals
  cases hx
  case nilIface=>exact fail σ (Rn.Le.refl _) _ _ _
  case iface ty hv=>exact dY Iff.rfl (λ_=>hold σ hv) λ_=>fail σ (Rn.Le.refl _) _ _ _
  all_goals exact aC
theorem K8(hP:PF P)(hK:KF P ρ){x x':ae}(hx:VR ρ x x'):aP P cI ρ (Instr.panic x) (Instr.panic x'):=by
 have hx1:=hx;cases hx
 case nilIface=>
  unfold Instr.panic;refine aq (A:=fz Int) ?_ λσ n n' l e=>?_
  ·unfold Instr.panicnil;refine aq (A:=fz SysRet) (.env λr=>.pure rfl) λσ r r' l e=>?_;subst e;cases r
   case strings env=>dsimp only;refine aq eA λτ p p' l2 e=>?_;rw[e.1,e.2];exact aB rfl
   all_goals exact aC
  ·have e:n=n':=e;subst e;exact cQ rfl (jg .nilIface) (bK hP (hK.mono l) _)
 case iface t hv=>exact jg (.iface t hv)
 all_goals exact aC
theorem Hk{x x':ae}(hx:VR ρ x x'):aP P (fz Nat) ρ (Builtin.lenOf x) (Builtin.lenOf x'):=by cases hx<;>first|exact aB rfl|exact aC
theorem oY(s n:Nat){x x':ae}(hx:VR ρ x x'):aP P AR ρ (Builtin.firstCells s n x) (Builtin.firstCells s n x'):=by
 cases hx
 case iG=>exact aB .nil
 case slice a a' m c ha=>exact mM _ ha
 case string b=>refine aB (AR.plain λv hv=>?_);simp only[cS,List.mem_map]at hv;obtain⟨b,_,rfl⟩:=hv;exact yJ _ _
 all_goals exact aC
theorem AR.zero{z z':bw}(h:AR ρ z z')(n:Nat):AR ρ (Builtin.zeroCells z n) (Builtin.zeroCells z' n):=by unfold Builtin.zeroCells;rw[h.size];have:=AR.range h (n*z.size);rw[h.size]at this;exact this
theorem pl_int(n:Int):VR ρ (goInt n) (goInt n):=.int _ _
theorem Xv(ts:Array aw)(t:aw){xs xs':bw}(hx:AR ρ xs xs'):aP P cI ρ (Builtin.len_ ts t xs) (Builtin.len_ ts t xs'):=by
 unfold Builtin.len_;cases ts[0]? with
 |none=>exact aC
 |some u=>
  rcases hx.get 0 with⟨h1,h2⟩|⟨v,v',h1,h2,hv⟩;exact zc8
  ·rw[h1,h2];dsimp only;refine aq (bE u) λσ d d' l e=>?_;subst e;replace hv:=hv.mono l;cases d
   case string=>cases hv<;>first|exact aC|exact aB (pl_int _)
   case array n e=>exact aB (pl_int _)
   case pointer arr=>exact zc5
   case slice e=>cases hv<;>first|exact aC|exact aB (pl_int _)
   case map k e=>
    cases hv
    case Du=>exact aB (pl_int _)
    case map r r' hr=>
     refine aq (iV (.inr hr) (ft hr)) λτ o o' l2 ho=>?_;cases ho
     case map es es' c h=>(have e:es'.size=es.size:=by simpa using h.length);dsimp only;rw[e];exact aB (pl_int _)
     all_goals exact aC
    all_goals exact aC
   case chan d e=>cases hv<;>first|exact aC|exact aB (pl_int _)
   all_goals exact aC
theorem Xw(ts:Array aw)(t:aw){xs xs':bw}(hx:AR ρ xs xs'):aP P cI ρ (Builtin.cap_ ts t xs) (Builtin.cap_ ts t xs'):=by
 unfold Builtin.cap_;cases ts[0]? with
 |none=>exact aC
 |some u=>
  rcases hx.get 0 with⟨h1,h2⟩|⟨v,v',h1,h2,hv⟩;exact zc8
  ·rw[h1,h2];dsimp only;refine aq (bE u) λσ d d' l e=>?_;subst e;replace hv:=hv.mono l;cases d
   case array n e=>exact aB (pl_int _)
   case pointer arr=>exact zc5
   case slice e=>cases hv<;>first|exact aC|exact aB (pl_int _)
   case chan d e=>cases hv<;>first|exact aC|exact aB (pl_int _)
   all_goals exact aC
theorem UB(ts:Array aw)(t:aw){xs xs':bw}(hx:AR ρ xs xs'):aP P cI ρ (Builtin.copy_ ts t xs) (Builtin.copy_ ts t xs'):=by
 unfold Builtin.copy_;cases ts[0]? with
 |none=>exact aC
 |some u=>
  rcases hx.get 0 with⟨h1,h2⟩|⟨v,v',h1,h2,hv⟩;exact zc8
  ·rcases hx.get 1 with⟨h3,h4⟩|⟨y,y',h3,h4,hy⟩;rw[h1,h2,h3,h4];exact aC
   ·rw[h1,h2,h3,h4];dsimp only;refine aq (bE u) λσ d d' l e=>?_;subst e;replace hv:=hv.mono l;cases d
    case slice e=>
     have key:∀(b b':Option Addr)(n:Nat),((b=none/\b'=none)\/∃a a',b=some a/\b'=some a'/\bI σ a a')->aP P cI σ (do
      let n:=Nat.min (<-Builtin.lenOf y) n;let cells<-Builtin.firstCells (<-sizeOf e) n y
      if let some a:=b then storeCells a cells.toList
      Pure.pure (goInt n)) (do
      let n:=Nat.min (<-Builtin.lenOf y') n;let cells<-Builtin.firstCells (<-sizeOf e) n y'
      if let some a:=b' then storeCells a cells.toList
      Pure.pure (goInt n)):=λb b' n hb=>by
      refine aq (Hk (hy.mono l)) λτ m m' l2 e=>?_;subst e;dsimp only;refine aq (dJ _) λμ s s' l3 e=>?_;subst e;refine aq (oY s _ (hy.mono ((l.trans l2).trans l3))) λν c c' l4 hc=>?_;rcases hb with⟨rfl,rfl⟩|⟨a,a',rfl,rfl,ha⟩;exact aB (pl_int _);exact aq (jO 0 (((ha.mono l2).mono l3).mono l4) hc) λ_ _ _ _ _=>aB (pl_int _)
     cases hv
     case iG=>exact key _ _ _ (.inl ⟨rfl,rfl⟩)
     case slice a a' n c ha=>exact key _ _ _ (.inr ⟨a,a',rfl,rfl,ha⟩)
     all_goals exact aC
    all_goals exact aC
theorem Qy(hP:PF P)(ts:Array aw)(t:aw){xs xs':bw}(hx:AR ρ xs xs'):aP P cI ρ (Builtin.clear_ ts t xs) (Builtin.clear_ ts t xs'):=by
 unfold Builtin.clear_;have r0:∀σ:Rn,VR σ (.tuple #[]) (.tuple #[]):=λ_=>.tuple .nil;cases ts[0]? with
 |none=>exact aC
 |some u=>
  rcases hx.get 0 with⟨h1,h2⟩|⟨v,v',h1,h2,hv⟩;exact zc8
  ·rw[h1,h2];dsimp only;refine aq (bE u) λσ d d' l e=>?_;subst e;replace hv:=hv.mono l;cases hv
   case Du=>exact aB (r0 _)
   case iG=>exact aB (r0 _)
   case map r r' hr=>
    refine aq (iV (.inr hr) (ft hr)) λτ o o' l2 ho=>?_;cases ho
    case map es es' c h=>exact aq (km (.inr (l2.r hr)) (ft (l2.r hr)) (.map _ .nil)) λ_ _ _ _ _=>aB (r0 _)
    all_goals exact aC
   case slice a a' n c ha=>
    cases n with
    |zero=>exact aB (r0 _)
    |succ n=>
     cases d
     case slice e=>refine aq (fT hP e) λτ z z' l2 hz=>?_;exact aq (jO 0 (ha.mono l2) (AR.zero hz.cells (n+1))) λ_ _ _ _ _=>aB (r0 _)
     all_goals exact aC
   all_goals exact aC
theorem UC{x y x' y':ae}(hx:VR ρ x x')(hy:VR ρ y y'):aP P cI ρ (Builtin.max2 x y) (Builtin.max2 x' y'):=by
 cases hx
 case int k a=>cases hy<;>first|exact aC|exact bp rfl|exact aB (.int _ _)
 case float k a=>
  cases hy
  case float k' b=>
   have hf:Flat Pl (Builtin.max2 (.float k a) (.float k' b)):=by
    show Flat Pl (match k.format.order a b with
     |none=>do Pure.pure (.float k (<-Go.choose (.nanMinMax k true a b)))
     |some .lt=>Pure.pure (.float k b)
     |some .gt=>Pure.pure (.float k a)
     |some .eq=>Pure.pure (.float k (if(k.decode a).neg then b else a)))
    split;exact .bind (.ask _) λ_ _=>.ret (vM _ _);all_goals exact .ret (vM _ _)
   exact hf.V
  all_goals first|exact aC|exact bp rfl
 case string a=>
  cases hy
  case string b=>refine aq (yL _ _ _) λσ v v' l hv=>?_;refine aq (Dx hv) λτ q q' l2 e=>?_;subst e;refine aB ?_;split<;>exact .string _
  all_goals first|exact aC|exact bp rfl
 all_goals(cases hy<;>first|exact aC|exact bp rfl)
theorem Hl{f:ae->ae->Sem ae}(hf:∀{σ:Rn}{x y x' y':ae},VR σ x x'->VR σ y y'->aP P cI σ (f x y) (f x' y')):∀{l l':List ae}{ρ:Rn}{v v':ae},VR ρ v v'->LR ρ l l'->aP P cI ρ (l.foldlM f v) (l'.foldlM f v')
 |_,_,_,_,_,h,.nil=>aB h
 |_,_,_,_,_,h,.cons x y=>by rw[List.foldlM_cons,List.foldlM_cons];exact aq (hf h x) λσ u u' l hu=>Hl hf hu (y.mono l)
theorem Xx(ts:Array aw)(t:aw){xs xs':bw}(hx:AR ρ xs xs'):aP P cI ρ (Builtin.max_ ts t xs) (Builtin.max_ ts t xs'):=by
 unfold Builtin.max_;unfold AR at hx;revert hx;generalize xs.toList=l;generalize xs'.toList=l';intro hx;cases hx with
 |nil=>exact aC
 |cons x y=>exact Hl (λh k=>UC h k) x y
theorem vO:∀(n:Nat){ρ:Rn}{a a':Addr}(acc:ay),bI ρ a a'->aP P (fz ay) ρ (loadBytes a acc n) (loadBytes a' acc n)
 |0,_,_,_,_,_=>aB rfl
 |n+1,ρ,a,a',acc,ha=>by
  unfold loadBytes;refine aq (vI ha) λσ v v' l hv=>?_;cases hv
  case int k m=>cases k<;>first|exact aC|exact vO n _ ((ha.mono l).add 1)
  all_goals exact aC
def uI(P:aF)(ts:Array aw):Bool:=match ts[0]? with
 |some pt=>match P.underlying pt with
  |some (.pointer u)=>match P.underlying u with
   |some (.int .u8)=>true
   |_=>false
  |_=>true
 |none=>true
theorem La(t:aw):aP P (λ_ a b=>a=b/\P.underlying t=some (.pointer a)) ρ (elemOf t) (elemOf t):=by
 unfold Go.elemOf;refine aq (gp t) λσ d d' l e=>?_;obtain⟨rfl,h⟩:=e;cases d
 case pointer e=>exact aB ⟨rfl,h⟩
 all_goals exact aC
theorem Hm{a a':Addr}(h:bI ρ a a'){u:aw}(hu:P.underlying u=some (.int .u8)){n:Nat}(hn:0<n):aP P (λ_ b b'=>b=true->b'=true/\ρ.r a.block a'.block) ρ (variablesAt a u n) (variablesAt a' u n):=by
 unfold variablesAt;refine aq eA λτ p p' l2 e=>?_;rw[e.1,e.2];refine aq (gS (l2.b h.b)) λμ s s' l3 e=>?_;cases e with
 |dead t hd=>exact aB λk=>by cases k
 |same hs=>
 rw[h.off];rcases h.b with⟨hk,_⟩|hr;obtain⟨t,m,rfl,hb⟩:=hs (by rw[l2.K];exact hk);(exact aB λk=>by rw[hb _ _ _ u hn hu]at k;cases k);split<;>exact aB λk=>⟨k,hr⟩
theorem zK(hP:PF P)(hK:KF P ρ)(ts:Array aw)(t:aw)(ho:uI P ts=true){xs xs':bw}(hx:AR ρ xs xs'):aP P cI ρ (Builtin.unsafeString_ ts t xs) (Builtin.unsafeString_ ts t xs'):=by
 unfold Builtin.unsafeString_;obtain⟨xs⟩:=xs;obtain⟨xs'⟩:=xs';have hx:LR ρ xs xs':=hx;cases hx with
 |nil=>exact aC
 |cons x y=>
  cases y with
  |nil=>cases x<;>exact aC
  |cons y z=>
   cases z with
   |cons _ _=>cases x<;>exact aC
   |nil=>
    unfold uI at ho;cases x
    case iP=>
     refine aq (kJ y) λσ n n' l e=>?_;subst e;cases hts:ts[0]? with
     |none=>exact aC
     |some pt=>dsimp only;refine dY Iff.rfl (λ_=>dt (bK hP (hK.mono l) _)) λ_=>?_;refine dY Iff.rfl (λ_=>dt (bp rfl)) λ_=>?_;exact dY Iff.rfl (λ_=>aB (.string _)) λ_=>bK hP (hK.mono l) _
    case ptr a a' ha=>
     refine aq (kJ y) λσ n n' l e=>?_;subst e;cases hts:ts[0]? with
     |none=>exact aC
     |some pt=>
      rw[hts]at ho;dsimp only at ho⊢;refine dY Iff.rfl (λ_=>dt (bK hP (hK.mono l) _)) λh0=>?_;refine dY Iff.rfl (λ_=>dt (bp rfl)) λ_=>?_;refine dY Iff.rfl (λ_=>aB (.string _)) λh1=>?_;refine aq (La pt) λτ u u' l2 e=>?_;obtain⟨rfl,hu⟩:=e;rw[hu]at ho;have hu8:P.underlying u=some (.int .u8):=by dsimp only at ho;split at ho;assumption;cases ho
      refine aq (Hm ((ha.mono l).mono l2) hu8 oM) λμ q q' l3 e=>?_;cases q with
      |false=>exact bp rfl
      |true=>obtain⟨rfl,hr⟩:=e rfl;have ET:=((ha.mono l).mono l2).mono l3;refine aq (vO _ _ ET) λν s s' l4 e=>?_;subst e;exact aq (DD (ET.mono l4) (l4.r (l3.r hr)) _) λ_ _ _ _ _=>aB (.string _)
    all_goals exact aC
theorem EU(ts:Array aw)(t:aw){xs xs':bw}(hx:AR ρ xs xs'):aP P cI ρ (Builtin.unsafeSliceData_ ts t xs) (Builtin.unsafeSliceData_ ts t xs'):=by
 unfold Builtin.unsafeSliceData_;obtain⟨xs⟩:=xs;obtain⟨xs'⟩:=xs';have hx:LR ρ xs xs':=hx;cases hx with
 |nil=>exact aC
 |cons x y=>
  cases y with
  |nil=>
   cases x
   case iG=>exact aB .iP
   case slice a a' n c ha=>
    refine dY Iff.rfl (λ_=>aB (.ptr ha)) λ_=>?_;refine aq (sO ha.b) λσ v v' l e=>?_;refine cQ ?_ (aB (.ptr (ha.mono l))) ?_;rcases e with⟨rfl,rfl⟩|⟨b,b',u,rfl,rfl,k⟩<;>rfl
    ·refine aq (sK t) λτ u u' l2 e=>?_;subst e;exact aq (oX (.view u ((ha.mono l).mono l2))) λ_ _ _ _ k=>aB (.ptr ⟨.inr k,rfl,rfl⟩)
   all_goals exact aC
  |cons _ _=>cases x<;>exact aC
theorem DI(a:Addr)(n:Nat):Sk (λ_=>True) (Builtin.holdsCells a n):=by unfold Builtin.holdsCells;refine .shape λs=>?_;cases s<;>exact .pure trivial
theorem EW(s l n:Nat)(b:Option Addr)(x:ae):Sk (λ_=>True) (Builtin.mayShare s l n b x):=by
 unfold Builtin.mayShare;have jp:∀q:Bool,Sk (λ_=>True) (if !q then Pure.pure true else match x with
  |.slice (some c) _ _=>do Pure.pure (!(<-Builtin.holdsCells c (n*s))||b.any (·.block==c.block))
  |_=>Pure.pure false):=λq=>by
  split;exact .pure trivial;split;exact Sk.bind (DI _ _) λ_ _=>.pure trivial;exact .pure trivial
 cases b with
 |none=>exact jp true
 |some a=>exact Sk.bind (DI _ _) λq _=>.frozen λr=>jp (q&&!r)
theorem M5(n:Nat):aP P (vJ Unit Unit) ρ (askRoom n) (askRoom n):=by unfold askRoom;exact dY Iff.rfl (λ_=>.room (.pure trivial)) λ_=>aB trivial
def pA(e:aw)(base:Option Addr)(sLen sCap size:Nat)(x:ae)(z:Bool)(n:Nat):Sem ae:=do
 let appended:Sem bw:=
  if !z then Builtin.firstCells size n x
  else if n*size=0 then Pure.pure #[]
  else do Pure.pure (Builtin.zeroCells (<-zeroValue e).cells n)
 let need:=sLen+n
 if need<=sCap then
  let new<-appended
  if let some a:=base then storeCells (a.add (sLen*size)) new.toList
  Pure.pure (.slice base need sCap)
 else
  if(need:Int)>IntKind.i64.max/\(z\/(<-typeInfo e).bytes=0)then runtimePanic (.error "growslice: len out of range")
  if Builtin.nextslicecap need sCap*(<-typeInfo e).bytes>2^48 then(if z then runtimePanic (.error "growslice: len out of range")else do
   if !(<-Builtin.mayShare size sLen n base x)then mark .noRoom
   unsupported (.resourceLimit "append: a slice or a string whose bytes no memory bears"))
  let newCap<-Go.choose (.appendCap need sCap e)
  askRoom (newCap*(<-typeInfo e).bytes)
  let old<-Builtin.firstCells size sLen (.slice base sLen sCap);let new<-appended;let rest:=Builtin.zeroCells (<-zeroValue e).cells (newCap-need)
  Pure.pure (.slice (some (<-newRow e (old++new++rest))) need newCap)
theorem Lb(hP:PF P)(hK:KF P ρ)(e:aw){b b':Option Addr}(hb:(b=none/\b'=none)\/∃a a',b=some a/\b'=some a'/\bI ρ a a')(sl sc size:Nat){x x':ae}(hx:VR ρ x x')(z:Bool)(n:Nat):
 aP P cI ρ (pA e b sl sc size x z n) (pA e b' sl sc size x' z n):=by
 unfold pA;have ap:∀(μ:Rn),ρ.Le μ->aP P AR μ (if !z then Builtin.firstCells size n x else if n*size=0 then Pure.pure #[]else do Pure.pure (Builtin.zeroCells (<-zeroValue e).cells n)) (if !z then Builtin.firstCells size n x' else if n*size=0 then Pure.pure #[]else do Pure.pure (Builtin.zeroCells (<-zeroValue e).cells n)):=λμ l=>by refine cQ rfl (oY _ _ (hx.mono l)) ?_;refine dY Iff.rfl (λ_=>aB .nil) λ_=>?_;exact aq (fT hP e) λ_ _ _ _ h=>aB (h.cells.zero n)
 have hs:∀(μ:Rn),ρ.Le μ->∀n c,VR μ (.slice b n c) (.slice b' n c):=λμ l n c=>by rcases hb with⟨rfl,rfl⟩|⟨a,a',rfl,rfl,ha⟩;exact .iG n c;exact .slice n c (ha.mono l)
 have grow:∀(μ:Rn),ρ.Le μ->aP P cI μ (do
  let newCap<-Go.choose (.appendCap (sl+n) sc e)
  askRoom (newCap*(<-typeInfo e).bytes)
  let old<-Builtin.firstCells size sl (.slice b sl sc);let new<-(if !z then Builtin.firstCells size n x else if n*size=0 then Pure.pure #[]else do Pure.pure (Builtin.zeroCells (<-zeroValue e).cells n));let rest:=Builtin.zeroCells (<-zeroValue e).cells (newCap-(sl+n))
  Pure.pure (.slice (some (<-newRow e (old++new++rest))) (sl+n) newCap)) (do
  let newCap<-Go.choose (.appendCap (sl+n) sc e)
  askRoom (newCap*(<-typeInfo e).bytes)
  let old<-Builtin.firstCells size sl (.slice b' sl sc);let new<-(if !z then Builtin.firstCells size n x' else if n*size=0 then Pure.pure #[]else do Pure.pure (Builtin.zeroCells (<-zeroValue e).cells n));let rest:=Builtin.zeroCells (<-zeroValue e).cells (newCap-(sl+n))
  Pure.pure (.slice (some (<-newRow e (old++new++rest))) (sl+n) newCap)):=λμ l=>by
  refine aq (gN _) λν c c' l2 h=>?_;subst h;refine aq (eb _) λξ i i' l3 h=>?_;obtain⟨rfl,_⟩:=h;refine aq (M5 _) λο _ _ l4 _=>?_;have l5:=((l.trans l2).trans l3).trans l4;refine aq (oY _ _ (hs ο l5 _ _)) λπ u u' l6 hu=>?_;refine aq (ap π (l5.trans l6)) λκ v v' l7 hv=>?_;refine aq (fT hP e) λθ w w' l8 hw=>?_;refine aq (pz e ((((hu.mono l7).mono l8).append (hv.mono l8)).append (hw.cells.zero _))) λ_ _ _ _ k=>aB (.slice _ _ k)
 dsimp only;refine dY Iff.rfl (λ_=>?_) λ_=>?_;refine aq (ap ρ (Rn.Le.refl _)) λσ v v' l hv=>?_;rcases hb with⟨rfl,rfl⟩|⟨a,a',rfl,rfl,ha⟩;exact aB (.iG _ _);exact aq (jO 0 ((ha.mono l).add _) hv) λ_ _ _ l2 _=>aB (.slice _ _ ((ha.mono l).mono l2));refine aq (eb _) λσ i i' l h=>?_;obtain⟨rfl,_⟩:=h;refine dY Iff.rfl (λ_=>dt (bK hP (hK.mono l) _)) λ_=>?_;refine aq (eb _) λτ i i' l2 h=>?_;obtain⟨rfl,_⟩:=h;refine dY Iff.rfl (λ_=>dt (cQ rfl (bK hP (hK.mono (l.trans l2)) _) (.dead (Sk.bind (EW _ _ _ _ _) λq _=>?_)))) λ_=>grow τ (l.trans l2);cases q;exact .room (.halt rfl);exact .halt rfl
def EX(ts:Array aw)(e:aw)(base:Option Addr)(sLen sCap:Nat)(x:ae):Sem ae:=do
 let size<-sizeOf e;let zeros<-match ts[1]? with
  |some t=>do Pure.pure ((<-underlying t) matches .int _)
  |none=>Pure.pure false
 let n<-if zeros then do
  let l:=IntKind.i64.wrap (<-asInt x)
  if l<0 then runtimePanic (.error "makeslice: len out of range")
  if l*(<-typeInfo e).bytes>2^48 then
   let made<-Go.choose (.extern "append.ofMake.carriedOut" 2)
   runtimePanic (.error (if made==1 then "makeslice: len out of range" else "growslice: len out of range"))
  Pure.pure l.toNat
  else Builtin.lenOf x
 pA e base sLen sCap size x zeros n
theorem DJ(hP:PF P)(hK:KF P ρ)(ts:Array aw)(e:aw){b b':Option Addr}(hb:(b=none/\b'=none)\/∃a a',b=some a/\b'=some a'/\bI ρ a a')(n c:Nat){x x':ae}(hx:VR ρ x x'):aP P cI ρ (EX ts e b n c x) (EX ts e b' n c x'):=by
 unfold EX;refine aq (dJ _) λσ s s' l h=>?_;subst h;have hb':∀τ,ρ.Le τ->(b=none/\b'=none)\/∃a a',b=some a/\b'=some a'/\bI τ a a':=λτ l=>hb.imp_right λ⟨a,a',h1,h2,h3⟩=>⟨a,a',h1,h2,h3.mono l⟩;have rest:=λ(τ:Rn)(l2:σ.Le τ)(z:Bool)(m:Nat)=>Lb hP (hK.mono (l.trans l2)) e (hb' τ (l.trans l2)) n c s (hx.mono (l.trans l2)) z m;have jp:∀(τ:Rn),σ.Le τ->∀z:Bool,aP P cI τ (do
  let k<-if z then do
   let l:=IntKind.i64.wrap (<-asInt x)
   if l<0 then runtimePanic (.error "makeslice: len out of range")
   if l*(<-typeInfo e).bytes>2^48 then
    let made<-Go.choose (.extern "append.ofMake.carriedOut" 2)
    runtimePanic (.error (if made==1 then "makeslice: len out of range" else "growslice: len out of range"))
   Pure.pure l.toNat
   else Builtin.lenOf x
  pA e b n c s x z k) (do
  let k<-if z then do
   let l:=IntKind.i64.wrap (<-asInt x')
   if l<0 then runtimePanic (.error "makeslice: len out of range")
   if l*(<-typeInfo e).bytes>2^48 then
    let made<-Go.choose (.extern "append.ofMake.carriedOut" 2)
    runtimePanic (.error (if made==1 then "makeslice: len out of range" else "growslice: len out of range"))
   Pure.pure l.toNat
   else Builtin.lenOf x'
  pA e b' n c s x' z k):=λτ l2 z=>by
  cases z with
  |false=>refine aq (Hk (hx.mono (l.trans l2))) λμ k k' l3 h=>?_;subst h;exact rest μ (l2.trans l3) false k
  |true=>refine aq (kJ (hx.mono (l.trans l2))) λμ k k' l3 h=>?_;subst h;dsimp only;have hK2:=hK.mono ((l.trans l2).trans l3);refine dY Iff.rfl (λ_=>dt (bK hP hK2 _)) λ_=>?_;refine aq (eb _) λν i i' l4 h=>?_;obtain⟨rfl,_⟩:=h;refine dY Iff.rfl (λ_=>?_) λ_=>rest ν ((l2.trans l3).trans l4) true _;refine aq (gN _) λξ q q' l5 h=>?_;subst h;exact dt (bK hP ((hK2.mono l4).mono l5) _)
 cases ts[1]? with
 |none=>exact jp σ (Rn.Le.refl _) false
 |some t=>refine aq (bE t) λτ d d' l2 h=>?_;subst h;exact jp τ l2 _
theorem NX(hP:PF P)(hK:KF P ρ)(ts:Array aw)(t:aw){xs xs':bw}(hx:AR ρ xs xs'):aP P cI ρ (Builtin.append_ ts t xs) (Builtin.append_ ts t xs'):=by
 unfold Builtin.append_;cases hts:ts[0]? with
 |none=>exact aC
 |some u=>
  rcases hx.get 0 with⟨h1,h2⟩|⟨v,v',h1,h2,hv⟩;exact zc8
  ·rcases hx.get 1 with⟨h3,h4⟩|⟨y,y',h3,h4,hy⟩;rw[h1,h2,h3,h4];exact aC
   ·rw[h1,h2,h3,h4];refine aq (bE u) λσ d d' l e=>?_;subst e;replace hv:=hv.mono l;replace hy:=hy.mono l;replace hK:=hK.mono l;cases d
    case slice e=>
     cases hv
     case iG n c=>exact DJ hP hK ts e (.inl ⟨rfl,rfl⟩) n c hy
     case slice a a' n c ha=>exact DJ hP hK ts e (.inr ⟨a,a',rfl,rfl,ha⟩) n c hy
     all_goals exact aC
    all_goals exact aC
end
inductive iu(ρ:Rn):Next->Next->Prop
 |value {v v':ae}:VR ρ v v'->iu ρ (.value v) (.value v')
 |skip:iu ρ .skip .skip
 |enter {f:FuncId} {xs xs':bw}:ρ.ok f->AR ρ xs xs'->iu ρ (.enter f xs) (.enter f xs')
 |round {l l':Nat} {f:FuncId} {xs xs':bw} (a b:Code):ρ.r l l'->AR ρ xs xs'->ρ.ok f->ρ.cd f a->ρ.cd f b->iu ρ (.round l f xs a b) (.round l' f xs' a b)
 |defer {d d':Deferred}:GS ρ d d'->iu ρ (.defer d) (.defer d')
section
variable {P:aF}{α β γ δ:Type}{A:Rn->α->β->Prop}{C:Rn->γ->δ->Prop}{ρ:Rn}
theorem nD{l l':Nat}(h:ρ.r l l'):aP P Qh ρ (Instr.getLoop l) (Instr.getLoop l'):=by
 unfold Instr.getLoop;refine aq (iV (.inr h) (ft h)) λσ o o' l2 ho=>?_;cases ho
 case loop hl=>exact aB hl
 all_goals exact aC
def ZI(ρ:Rn)(x y:Option Nat):Prop:=(x=none/\y=none)\/∃l l',x=some l/\y=some l'/\ρ.r l l'
theorem EY(f:FuncId){xs xs':bw}(hx:AR ρ xs xs')(ps:Array Tmp)(a b:Code)(hk:ρ.ok f/\ρ.cd f a/\ρ.cd f b){o o':Option Nat}(ho:ZI ρ o o'):aP P (λσ x y=>σ.r x.1 y.1/\qK σ x.2 y.2) ρ (Instr.enterLoop f xs ps a b o) (Instr.enterLoop f xs' ps a b o'):=by
 unfold Instr.enterLoop;have fin:∀(σ:Rn),ρ.Le σ->∀x y:Nat×List Deferred,σ.r x.1 y.1->qK σ x.2 y.2->aP P (λσ x y=>σ.r x.1 y.1/\qK σ x.2 y.2) σ (do Pure.pure (<-newObj (.loop {state:=.ready,pending:=none,fn:=f,tmps:=xs,params:=ps,assign:=a,body:=b,defers:=x.1}),x.2)) (do Pure.pure (<-newObj (.loop {state:=.ready,pending:=none,fn:=f,tmps:=xs',params:=ps,assign:=a,body:=b,defers:=y.1}),y.2)):=λσ l x y h1 h2=>
  aq (oX (.loop ⟨rfl,rfl,rfl,hx.mono l,rfl,rfl,rfl,h1,by rw[l.ok,l.cd];exact hk,λc k=>by cases k⟩)) λτ q q' l2 hq=>aB ⟨hq,h2.mono l2⟩
 rcases ho with⟨rfl,rfl⟩|⟨l,l',rfl,rfl,hl⟩;refine aq (oX (.Dv .nil)) λσ r r' l hr=>?_;exact fin σ l (r,_) (r',_) hr (.cons ⟨.collected hr,LR.nil⟩ .nil);refine aq (nD hl) λσ p p' l2 hp=>?_;exact fin σ l2 (p.defers,[]) (p'.defers,[]) hp.defers .nil
theorem Hn:∀(l:List (Tmp×ae))(l':List (Tmp×ae)){xs xs':bw},AR ρ xs xs'->l'.map (·.1)=l.map (·.1)->LR ρ (l.map (·.2)) (l'.map (·.2))->AR ρ (l.foldl (λtmps (t,a)=>tmps.setIfInBounds t a) xs) (l'.foldl (λtmps (t,a)=>tmps.setIfInBounds t a) xs')
 |[],[],_,_,h,_,_=>h
 |[],_::_,_,_,_,h,_=>by simp at h
 |_::_,[],_,_,_,h,_=>by simp at h
 |(t,v)::l,(t',v')::l',xs,xs',h,h1,h2=>by
  simp only[List.map_cons,List.cons.injEq]at h1;obtain⟨rfl,h1⟩:=h1;cases h2 with
  |cons x y=>exact Hn l l' (h.set _ x) h1 y
theorem M6:∀(ps:List Tmp){xs xs':List ae},LR ρ xs xs'->(ps.zip xs').map (·.1)=(ps.zip xs).map (·.1)/\LR ρ ((ps.zip xs).map (·.2)) ((ps.zip xs').map (·.2))
 |[],_,_,_=>⟨sM,by simpa using LR.nil⟩
 |_::_,_,_,.nil=>⟨sM,by simpa using LR.nil⟩
 |p::ps,_,_,.cons x y=>by have:=M6 ps y;exact⟨by simp[this.1],by simpa using LR.cons x this.2⟩
theorem Qz{l l':Nat}(h:ρ.r l l'){xs xs':bw}(hx:AR ρ xs xs'):aP P iu ρ (Instr.yield l xs) (Instr.yield l' xs'):=by unfold Instr.yield;refine aq (nD h) λσ p p' l2 hp=>?_;rw[hp.params,hx.size];refine dY Iff.rfl (λ_=>dt aC) λ_=>?_;rw[hp.fn,hp.assign,hp.body];refine aB (.round _ _ (l2.r h) ?_ hp.ok.1 hp.ok.2.1 hp.ok.2.2);rw[<-Array.foldl_toList,<-Array.foldl_toList,Array.toList_zip,Array.toList_zip];have:=M6 p.params.toList (LR.mono l2 hx);exact Hn _ _ hp.tmps this.1 this.2
theorem CJ(hP:PF P)(hK:KF P ρ){l l':Nat}(h:ρ.r l l'):aP P (vJ Unit Unit) ρ (Instr.beginRound l) (Instr.beginRound l'):=by unfold Instr.beginRound;refine aq (nD h) λσ p p' l2 hp=>?_;refine aq (km (.inr (l2.r h)) (ft (l2.r h)) (.loop ⟨rfl,hp.pending,hp.fn,hp.tmps,hp.params,hp.assign,hp.body,hp.defers,hp.ok,hp.pend⟩)) λτ _ _ l3 _=>?_;rw[hp.state];have hK':=hK.mono (l2.trans l3);split;exact aB trivial;all_goals exact bK hP hK' _
theorem Ho{l l':Nat}(h:ρ.r l l')(j:Option Code)(hj:∀c,j=some c->GV c):aP P cI ρ (Instr.endRound l j) (Instr.endRound l' j):=by unfold Instr.endRound;refine aq (nD h) λσ p p' l2 hp=>?_;refine aq (km (.inr (l2.r h)) (ft (l2.r h)) (.loop ⟨rfl,rfl,hp.fn,hp.tmps,hp.params,hp.assign,hp.body,hp.defers,hp.ok,hj⟩)) λτ _ _ l3 _=>?_;exact aB (.bool _)
theorem Lc(hP:PF P)(hK:KF P ρ){l l':Nat}(h:ρ.r l l'):aP P (λ_ a b=>a=b/\∀c,a=some c->GV c) ρ (Instr.endLoop l) (Instr.endLoop l'):=by unfold Instr.endLoop;refine aq (nD h) λσ p p' l2 hp=>?_;refine cQ (by rw[hp.state]) (dt (bK hP (hK.mono l2) _)) ?_;refine aq (km (.inr (l2.r h)) (ft (l2.r h)) (.loop ⟨rfl,hp.pending,hp.fn,hp.tmps,hp.params,hp.assign,hp.body,hp.defers,hp.ok,hp.pend⟩)) λτ _ _ l3 _=>?_;exact aB ⟨hp.pending.symm,hp.pend⟩
theorem zL{b b':Nat}(h:ρ.r b b'):aP P qK ρ (Instr.takeDeferred b) (Instr.takeDeferred b'):=by
 unfold Instr.takeDeferred;refine aq (iV (.inr h) (ft h)) λσ o o' l ho=>?_;cases ho
 case Dv hd=>exact aq (km (.inr (l.r h)) (ft (l.r h)) .GW) λ_ _ _ l2 _=>aB (hd.mono l2)
 all_goals exact aC
end
inductive EZ(ρ:Rn):Place->Place->Prop
 |val {v v':ae}:VR ρ v v'->EZ ρ (.val v) (.val v')
 |var {a a':Addr}:bI ρ a a'->EZ ρ (.var a) (.var a')
section
variable {P:aF}{α β γ δ:Type}{A:Rn->α->β->Prop}{C:Rn->γ->δ->Prop}{ρ:Rn}
theorem EZ.mono{σ:Rn}(l:ρ.Le σ){x y:Place}(h:EZ ρ x y):EZ σ x y:=by
 cases h with
 |val v=>exact .val (v.mono l)
 |var a=>exact .var (a.mono l)
theorem Av(t:aw){x y:Place}(h:EZ ρ x y):aP P cI ρ (x.get t) (y.get t):=by
 cases h with
 |val v=>exact aB v
 |var a=>exact jZ t a
theorem NY{a a':Addr}(h:bI ρ a a')(c b:Nat):aP P bI ρ (partAt a c b) (partAt a' c b):=by unfold partAt;refine aq (lD h) λσ n n' l e=>?_;subst e;dsimp only;have h1:∀τ:Rn,ρ.Le τ->bI τ {block:=a.block,off:=a.off+c} {block:=a'.block,off:=a'.off+c}:=λτ l=>⟨l.b h.b,by show a'.off+c=a.off+c;rw[h.off],rfl⟩;refine aq (lD (h1 σ l)) λτ m m' l2 e=>?_;subst e;refine aB ?_;split;exact h1 τ (l.trans l2);exact⟨(h1 τ (l.trans l2)).b,(h1 τ (l.trans l2)).off,rfl⟩
theorem Aw{a a':Addr}(h:bI ρ a a')(f:Field):aP P bI ρ (fieldPlace a f) (fieldPlace a' f):=by unfold Go.fieldPlace;refine aq (dJ f.type) λσ n n' l e=>?_;subst e;exact dY Iff.rfl (λ_=>NY (h.mono l) _ _) λ_=>aB ((h.mono l).add _)
theorem pB(hP:PF P):∀(p:List FieldStep)(t:aw){ρ:Rn}{x y:Place},KF P ρ->EZ ρ x y->aP P (λσ a b=>a.1=b.1/\EZ σ a.2 b.2) ρ (follow p t x) (follow p t y)
 |[],t,_,_,_,_,h=>aB ⟨rfl,h⟩
 |s::p,t,ρ,x,y,hK,h=>by
  unfold follow;refine aq (bE _) λσ d d' l e=>?_;subst e;cases d
  case struct fs=>
   dsimp only;cases hf:fs[s.index]? with
   |none=>exact aC
   |some f=>
    dsimp only;refine cQ rfl ?_ ?_;refine aq (Av t (h.mono l)) λτ v v' l2 hv=>?_;refine aq (sL hP ((hK.mono l).mono l2) hv) λμ a a' l3 ha=>?_;refine aq (Aw ha f) λν b b' l4 hb=>?_;exact pB hP p f.type ((((hK.mono l).mono l2).mono l3).mono l4) (.var hb)
    ·cases h with
     |var a=>refine aq (Aw (a.mono l) f) λν b b' l4 hb=>?_;exact pB hP p f.type ((hK.mono l).mono l4) (.var hb)
     |val v=>
      cases v
      case agg c=>refine aq (jX _ _ (AR.mono l c)) λν b b' l4 hb=>?_;exact pB hP p f.type ((hK.mono l).mono l4) (.val hb)
      all_goals exact aC
  all_goals exact aC
theorem Ld(hP:PF P)(hK:KF P ρ)(ts:Array aw)(t:aw){x x':ae}(hx:VR ρ x x')(a b:ay):aP P cI ρ (Builtin.ssaWrapNilChk_ ts t #[x,.string a,.string b]) (Builtin.ssaWrapNilChk_ ts t #[x',.string a,.string b]):=by
 unfold Builtin.ssaWrapNilChk_;have hx1:=hx;cases hx
 case ptr ha=>exact aB hx1
 case iP=>
  refine aq (gN _) λσ n n' l e=>?_;subst e;dsimp only;refine cQ rfl (dt (bK hP (hK.mono l) _)) ?_;cases ts[0]? with
  |none=>exact aC
  |some pt=>
   refine aq (bE pt) λτ d d' l2 e=>?_;subst e;cases d
   case pointer u=>refine aq (eb _) λμ i i' l3 e=>?_;obtain⟨rfl,_⟩:=e;split;split;split;exact bK hP (((hK.mono l).mono l2).mono l3) _;exact bp rfl;exact aC;exact aC
   all_goals exact aC
 all_goals exact aC
theorem uq(hP:PF P)(hK:KF P ρ)(t:aw){x y:Place}(h:EZ ρ x y)(b:Bool)(w:Option String):aP P cI ρ (receiverAt t x b w) (receiverAt t y b w):=by
 unfold receiverAt;refine aq (bE t) λσ d d' l e=>?_;subst e;replace h:=h.mono l;cases b with
 |true=>
  cases d
  case pointer u=>exact Av t h
  all_goals
   cases h with
   |var a=>exact aB (.ptr a)
   |val v=>exact aC
 |false=>
  cases d
  case pointer u=>
   refine aq (Av t h) λτ v v' l2 hv=>?_;have fin:∀μ:Rn,τ.Le μ->∀{p p':ae},VR μ p p'->aP P cI μ (do loadVar u (<-asAddr p)) (do loadVar u (<-asAddr p')):=λμ l3 p p' hp=>
    aq (sL hP (((hK.mono l).mono l2).mono l3) hp) λ_ _ _ _ ha=>jZ u ha
   cases w with
   |none=>exact fin τ (Rn.Le.refl _) hv
   |some n=>exact aq (Ld hP ((hK.mono l).mono l2) _ _ hv _ _) λμ p p' l3 hp=>fin μ l3 hp
  all_goals exact Av t h
theorem Ax(hP:PF P)(hK:KF P ρ)(t:aw){x y:ae}(h:VR ρ x y)(p:Array FieldStep)(b:Bool):aP P cI ρ (receiverVia t x p b) (receiverVia t y p b):=by unfold receiverVia;refine aq (pB hP _ t hK (.val h)) λσ a b' l e=>?_;obtain⟨a1,a2⟩:=a;obtain⟨b1,b2⟩:=b';obtain⟨e,h2⟩:=e;have e:a1=b1:=e;subst e;exact uq hP (hK.mono l) a1 h2 b none
def MF(P:aF)(ρ:Rn)(n:String):Prop:=∀t i m f q,P.info? t=some i->i.methods.find? (·.name==n)=some m->m.func=some (f,q)->ρ.ok f
theorem DK(hP:PF P)(n:String):∀(k:Nat)(t:aw){ρ:Rn}{x y:ae},KF P ρ->MF P ρ n->VR ρ x y->aP P (λσ a b=>a.1=b.1/\σ.ok a.1/\VR σ a.2 b.2) ρ (method k t x n) (method k t y n)
 |0,_,_,_,_,_,_,_=>bp rfl
 |k+1,t,ρ,x,y,hK,hM,h=>by
  unfold method;refine aq (eb t) λσ i i' l e=>?_;obtain⟨rfl,hi⟩:=e;cases hm:i.methods.find? (·.name==n)with
  |none=>exact aC
  |some m=>
   dsimp only;refine aq (pB hP _ t (hK.mono l) (.val (h.mono l))) λτ a b' l2 e=>?_;obtain⟨a1,a2⟩:=a;obtain⟨b1,b2⟩:=b';obtain⟨e,h2⟩:=e;have e:a1=b1:=e;subst e;have hM2:MF P τ n:=λt i m f q h1 h2 h3=>by rw[l2.ok,l.ok];exact hM t i m f q h1 h2 h3
   have hK2:=(hK.mono l).mono l2;cases hf:m.func with
   |none=>
    refine aq (Av _ h2) λμ v v' l3 hv=>?_;(have Lf:MF P μ n:=λt i m f q h1 h2 h3=>by rw[l3.ok];exact hM2 t i m f q h1 h2 h3);cases hv
    case iface t' hv=>exact DK hP n k t' (hK2.mono l3) Lf hv
    case nilIface=>exact bK hP (hK2.mono l3) _
    all_goals exact aC
   |some fq=>obtain⟨f,q⟩:=fq;refine aq (uq hP hK2 _ h2 _ _) λμ v v' l3 hv=>?_;exact aB ⟨rfl,by rw[l3.ok];exact hM2 t i m f q hi hm hf,hv⟩
end
def XF(P:aF)(ok:cD):Prop:=∀f fn,P.funcs[f]?=some fn->ok f->fn.name≠ "runtime.NumGoroutine" /\(fn.body.isNone=true->
 match Extern.findNext fn with
 |some e=>∀(ρ:Rn)(xs xs':bw),ρ.ok=ok->KF P ρ->AR ρ xs xs'->aP P iu ρ (e xs) (e xs')
 |none=>match Extern.find fn with
  |some e=>∀(ρ:Rn)(xs xs':bw),ρ.ok=ok->KF P ρ->AR ρ xs xs'->aP P cI ρ (e xs) (e xs')
  |none=>True)
section
variable {P:aF}{α β γ δ:Type}{A:Rn->α->β->Prop}{C:Rn->γ->δ->Prop}{ρ:Rn}
theorem qU(hK:KF P ρ)(hX:XF P ρ.ok){f:FuncId}(hf:ρ.ok f){xs xs':bw}(hx:AR ρ xs xs'):aP P iu ρ (callFunc f xs) (callFunc f xs'):=by
 unfold callFunc;refine aq eA λσ p p' l e=>?_;rw[e.1,e.2];cases hfn:P.funcs[f]? with
 |none=>exact aC
 |some fn=>
  obtain⟨h1,h2⟩:=hX f fn hfn hf;have hne:¬(fn.name== "runtime.NumGoroutine")=true:=λh=>h1 (by simpa using h);dsimp only;rw[if_neg hne,if_neg hne];refine dY Iff.rfl (λhb=>?_) λ_=>aB (.enter (by rw[l.ok];exact hf) (hx.mono l));refine aq (A:=vJ Unit Unit) (.ext (.pure trivial)) λτ _ _ l2 _=>?_;have h3:=h2 hb;have hok:τ.ok=ρ.ok:=by rw[l2.ok,l.ok]
  have hx2:=(hx.mono l).mono l2;have hK2:=(hK.mono l).mono l2;cases he:Extern.findNext fn with
  |some e=>rw[he]at h3;exact h3 τ _ _ hok hK2 hx2
  |none=>
   rw[he]at h3;dsimp only at h3⊢;cases he2:Extern.find fn with
   |some e=>rw[he2]at h3;exact aq (h3 τ _ _ hok hK2 hx2) λ_ _ _ _ k=>aB (.value k)
   |none=>exact cQ rfl (aB (.value (.tuple .nil))) (bp rfl)
theorem oZ(hP:PF P)(hK:KF P ρ)(hX:XF P ρ.ok){n:String}(hM:MF P ρ n){r r':ae}(hr:VR ρ r r'){xs xs':bw}(hx:AR ρ xs xs'):aP P iu ρ (callMethod r n xs) (callMethod r' n xs'):=by
 unfold callMethod;cases hr
 case iface t hv=>
  refine aq eA λσ p p' l e=>?_;rw[e.1,e.2];have hM2:MF P σ n:=λt i m f q h1 h2 h3=>by rw[l.ok];exact hM t i m f q h1 h2 h3
  refine aq (DK hP n _ t (hK.mono l) hM2 (hv.mono l)) λτ a b l2 h=>?_;obtain⟨a1,a2⟩:=a;obtain⟨b1,b2⟩:=b;obtain⟨e,h2,h3⟩:=h;have e:a1=b1:=e;subst e;refine qU ((hK.mono l).mono l2) (by rw[l2.ok,l.ok];exact hX) h2 (AR.append (.cons h3 .nil) ((hx.mono l).mono l2))
 case nilIface=>exact bK hP hK _
 all_goals exact aC
theorem uJ{e e':Operand->ae}(c:Call)(t:aw)(ha:∀o,o∈c.args.toList->VR ρ (e o) (e' o))(hc:match c.callee with|.value f=>VR ρ (e f) (e' f)|.invoke r n=>VR ρ (e r) (e' r)/\ρ.nm n|.builtin _=>False):aP P GS ρ (resolve e c t) (resolve e' c t):=by
 unfold resolve;have hm:AR ρ (c.args.map e) (c.args.map e'):=by
  unfold AR;rw[cS,cS];revert ha;generalize c.args.toList=l;intro ha
  induction l with
  |nil=>exact .nil
  |cons o l ih=>exact .cons (ha o sM) (ih λq hq=>ha q (by simp[hq]))
 dsimp only;split;rename_i b h;rw[h]at hc;exact hc.elim;rename_i r n h;rw[h]at hc;exact aB ⟨.fn (.method hc.2) LR.nil,AR.append (.cons hc.1 .nil) hm⟩
 ·rename_i f h;rw[h]at hc;unfold Deferred.ofValue;dsimp only at hc;revert hc;generalize e f=v;generalize e' f=v';intro hc;cases hc
  case func hf h1 h2=>exact aB ⟨.fn hf h2,AR.append h1 hm⟩
  case nilFunc=>exact aB ⟨.nil,hm⟩
  all_goals exact aC
theorem sQ(hP:PF P)(hK:KF P ρ)(hX:XF P ρ.ok)(hM:∀n,ρ.nm n->MF P ρ n){t t':Target}(ht:GR ρ t t'){xs xs':bw}(hx:AR ρ xs xs'):aP P iu ρ (invoke t xs) (invoke t' xs'):=by
 unfold invoke;have M7:AR ρ (xs.extract 1 xs.size) (xs'.extract 1 xs'.size):=by rw[hx.size];exact hx.extract 1 _
 cases ht with
 |nil=>exact bK hP hK _
 |collected r=>exact aC
 |fn hf hc=>
  cases hf with
  |func h=>exact qU hK hX h (hx.append hc)
  |method h=>dsimp only;rcases hx.get 0 with⟨h1,h2⟩|⟨v,v',h1,h2,hv⟩;exact zc8;rw[h1,h2];exact oZ hP hK hX (hM _ h) hv M7
  |methodOf t h=>dsimp only;rcases hx.get 0 with⟨h1,h2⟩|⟨v,v',h1,h2,hv⟩;exact zc8;rw[h1,h2];dsimp only;refine aq (bE t) λσ d d' l e=>?_;subst e;(have hM2:MF P σ _:=λt i m f q h1 h2 h3=>by rw[l.ok];exact hM _ h t i m f q h1 h2 h3);(have hX2:XF P σ.ok:=by rw[l.ok];exact hX);split;exact oZ hP (hK.mono l) hX2 hM2 (hv.mono l) (M7.mono l);exact oZ hP (hK.mono l) hX2 hM2 (.iface t (hv.mono l)) (M7.mono l)
  |via h=>dsimp only;rcases hx.get 0 with⟨h1,h2⟩|⟨v,v',h1,h2,hv⟩;exact zc8;rw[h1,h2];refine aq (Ax hP hK _ hv _ _) λσ u u' l hu=>?_;exact qU (hK.mono l) (by rw[l.ok];exact hX) (by rw[l.ok];exact h) (AR.append (.cons hu .nil) (M7.mono l))
  |yield h=>exact Qz h hx
def uK(P:aF)(b:Builtin)(ts:Array aw):Bool:=match b with
 |.append|.cap|.clear|.copy|.len|.max|.unsafeSliceData=>true
 |.unsafeString=>uI P ts
 |_=>false
theorem Lg(hP:PF P)(hK:KF P ρ)(b:Builtin)(ts:Array aw)(t:aw)(cs:Array Bool)(ho:uK P b ts=true){xs xs':bw}(hx:AR ρ xs xs'):aP P iu ρ (builtin b ts t cs xs) (builtin b ts t cs xs'):=by
 have v:∀{s s':Sem ae},aP P cI ρ s s'->aP P iu ρ (do Pure.pure (.value (<-s))) (do Pure.pure (.value (<-s'))):=λh=>aq h λ_ _ _ _ k=>aB (.value k);cases b
 case append=>exact v (NX hP hK ts t hx)
 case cap=>exact v (Xw ts t hx)
 case clear=>exact v (Qy hP ts t hx)
 case copy=>exact v (UB ts t hx)
 case len=>exact v (Xv ts t hx)
 case max=>exact v (Xx ts t hx)
 case unsafeSliceData=>exact v (EU ts t hx)
 case unsafeString=>exact v (zK hP hK ts t ho hx)
 all_goals cases ho
theorem Hp(s:aw)(i:Nat){v v':ae}(h:VR ρ v v'):aP P cI ρ (Instr.fieldAt s v i) (Instr.fieldAt s v' i):=by unfold Instr.fieldAt;refine aq (bE s) λσ d d' l hd=>?_;subst hd;split;split;refine aq (mj (h.mono l)) λτ a a' l2 ha=>?_;exact aq (Aw ha _) λ_ _ _ _ k=>aB (.ptr k);exact aC;exact aC
def UD(ρ:Rn):Except (Option Bool) (aw×Option ae)->Except (Option Bool) (aw×Option ae)->Prop
 |.error a,.error b=>a=b
 |.ok a,.ok b=>a.1=b.1/\og ρ a.2 b.2
 |_,_=>False
theorem vP:∀(p:List FieldStep)(t:aw){ρ:Rn}{x y:Option ae},og ρ x y->aP P UD ρ (followBlind p t x) (followBlind p t y)
 |[],t,_,_,_,h=>aB (show UD _ (.ok _) (.ok _)from⟨rfl,h⟩)
 |s::p,t,ρ,x,y,h=>by
  unfold followBlind;refine aq (bE _) λσ d d' l e=>?_;subst e;cases d
  case struct fs=>
   dsimp only;cases hf:fs[s.index]? with
   |none=>exact aC
   |some f=>
    dsimp only;rcases h with⟨rfl,rfl⟩|⟨v,v',rfl,rfl,hv⟩
    ·cases s.deref with
     |true=>exact aB (show UD _ (.error _) (.error _)from rfl)
     |false=>exact vP p f.type (.inl ⟨rfl,rfl⟩)
    ·cases s.deref with
     |true=>
      cases hv
      case iP=>exact aB (show UD _ (.error _) (.error _)from rfl)
      case ptr h=>exact vP p f.type (.inl ⟨rfl,rfl⟩)
      all_goals exact aC
     |false=>
      cases hv
      case agg h=>exact aq (jX _ _ (AR.mono l h)) λτ u u' l2 hu=>vP p f.type (.inr ⟨_,_,rfl,rfl,hu⟩)
      all_goals exact aC
  all_goals exact aC
theorem yN(n:String):∀(k:Nat)(t:aw){ρ:Rn}{x y:ae},VR ρ x y->aP P (fz (Option Bool)) ρ (nilAhead k t x n) (nilAhead k t y n)
 |0,_,_,_,_,_=>aB rfl
 |k+1,t,ρ,x,y,h=>by
  unfold nilAhead;refine aq (eb t) λσ i i' l e=>?_;obtain⟨rfl,hi⟩:=e;cases hm:i.methods.find? (·.name==n)with
  |none=>exact aC
  |some m=>
   dsimp only;refine aq (vP _ t (.inr ⟨x,y,rfl,rfl,h.mono l⟩)) λτ a b l2 hab=>?_;cases a with
   |error r=>
    cases b with
    |error r'=>have e:r=r':=hab;subst e;exact aB rfl
    |ok _=>exact hab.elim
   |ok a=>
    cases b with
    |error _=>exact hab.elim
    |ok b=>
     obtain⟨a1,a2⟩:=a;obtain⟨b1,b2⟩:=b;obtain⟨e,h2⟩:=hab;have e:a1=b1:=e;subst e;have h2:og τ a2 b2:=h2;dsimp only;cases m.func with
     |none=>
      rcases h2 with⟨rfl,rfl⟩|⟨v,v',rfl,rfl,hv⟩;exact aB rfl
      ·cases hv
       case iface t' hv=>exact yN n k t' hv
       case nilIface=>exact aB rfl
       all_goals exact aC
     |some fq=>
      obtain⟨f,q⟩:=fq;cases q with
      |true=>exact aB rfl
      |false=>
       refine aq (bE _) λμ d d' l3 e=>?_;subst e;rcases h2 with⟨rfl,rfl⟩|⟨v,v',rfl,rfl,hv⟩;cases d<;>exact aB rfl
       ·cases d
        case pointer u=>cases hv<;>exact aB rfl
        all_goals exact aB rfl
theorem Hq(hP:PF P)(hK:KF P ρ)(o:Oper)(x:Operand)(hop:o.op=.nilCheck x){e e':Operand->ae}(hx:VR ρ (e x) (e' x)):aP P iu ρ (execOp e o) (execOp e' o):=by
 unfold execOp;rw[hop];dsimp only;revert hx;generalize e x=a;generalize e' x=b;intro hx;have hx1:=hx;cases hx
 case iP=>exact bK hP hK _
 case nilIface=>exact bK hP hK _
 case nilFunc=>exact bK hP hK _
 case func hf h1 h2=>
  cases hf with
  |method hn=>
   dsimp only;rcases AR.get h1 0 with⟨k1,k2⟩|⟨v,v',k1,k2,hv⟩;rw[k1,k2];exact aB (.value hx1)
   ·rw[k1,k2];have hv1:=hv;cases hv
    case nilIface=>exact bK hP hK _
    case iface t hv=>refine aq eA λσ p p' l e=>?_;rw[e.1,e.2];refine aq (yN _ _ t (hv.mono l)) λτ q q' l2 e=>?_;subst e;exact cQ rfl (dt (bp rfl)) (aB (.value ((hx1.mono l).mono l2)))
    all_goals exact aB (.value hx1)
  |_=>exact aB (.value hx1)
 all_goals exact aB (.value hx1)
end
def DL(ρ:Rn):Fn->Prop
 |.func f=>ρ.ok f
 |.method n|.methodOf _ n=>ρ.nm n
 |.via _ _ f _=>ρ.ok f
 |.yield _=>False
def sR(P:aF)(ρ:Rn)(q:Operand->Prop)(c:Call):Prop:=(∀o∈c.args.toList,q o)/\match c.callee with
 |.value f=>q f
 |.invoke r n=>q r/\ρ.nm n
 |.builtin b=>uK P b c.argTypes=true
def Ay(P:aF)(ρ:Rn)(q:Operand->Prop):Op->Prop
 |.move x|.assign x|.box _ x|.load _ x|.nilCheck x|.unOp _ _ x|.makeInterface _ x|.fieldAddr _ x _|.field _ x _|.typeAssert x _ _ _|.extract x _|.panic x=>q x
 |.pick c a b=>q c/\q a/\q b
 |.alloc _=>True
 |.build _ ps|.buildSlice _ _ ps=>∀p∈ps.toList,q p.2
 |.store _ a x=>q a/\q x
 |.binOp _ _ x y _=>q x/\q y
 |.convert s t x=>abL P s t=true/\q x
 |.makeFunc fn a b=>DL ρ fn/\(∀x∈a.toList,q x)/\∀x∈b.toList,q x
 |.makeMap _ r=>∀x,r=some x->q x
 |.makeSlice _ l c=>q l/\q c
 |.slice _ x lo hi mx=>q x/\(∀y,lo=some y->q y)/\(∀y,hi=some y->q y)/\∀y,mx=some y->q y
 |.indexAddr _ x i|.index _ x i=>q x/\q i
 |.lookup t x i _=>qR P t=true/\q x/\q i
 |.mapUpdate t m k x|.insert t m k x=>qR P t=true/\q m/\q k/\q x
 |.range t x=>ES P t=true/\q x
 |.next it b=>b=true/\q it
 |.call c=>sR P ρ q c
 |.defer c=>sR P ρ q c/\∀b,c.callee≠.builtin b
 |_=>False
section
variable {P:aF}{α β γ δ:Type}{A:Rn->α->β->Prop}{C:Rn->γ->δ->Prop}{ρ:Rn}
theorem og.map{e e':Operand->ae}{o:Option Operand}(h:∀x,o=some x->VR ρ (e x) (e' x)):og ρ (o.map e) (o.map e'):=by
 cases o with
 |none=>exact zc9
 |some x=>exact .inr ⟨_,_,rfl,rfl,h x rfl⟩
theorem AR.ops{e e':Operand->ae}{l:Array Operand}(h:∀o∈l.toList,VR ρ (e o) (e' o)):AR ρ (l.map e) (l.map e'):=by
 unfold AR;rw[cS,cS];revert h;generalize l.toList=l;intro h
 induction l with
 |nil=>exact .nil
 |cons o l ih=>exact zdh
theorem xF.ops{e e':Operand->ae}{l:Array (Nat×Operand)}(h:∀p∈l.toList,VR ρ (e p.2) (e' p.2)):xF ρ (l.map λ(i,x)=>(i,e x)).toList (l.map λ(i,x)=>(i,e' x)).toList:=by
 rw[cS,cS];revert h;generalize l.toList=l;intro h
 induction l with
 |nil=>exact .nil
 |cons o l ih=>exact zdh
theorem UE{f:Fn}(h:DL ρ f):zH ρ f f:=by
 cases f with
 |func f=>exact .func h
 |method n=>exact .method h
 |methodOf t n=>exact .methodOf t h
 |via t p f q=>exact .via h
 |yield l=>exact h.elim
theorem NZ(hP:PF P)(hK:KF P ρ)(hX:XF P ρ.ok)(hM:∀n,ρ.nm n->MF P ρ n){e e':Operand->ae}{q:Operand->Prop}(he:∀o,q o->VR ρ (e o) (e' o))(o:Oper)(ho:Ay P ρ q o.op):
 aP P iu ρ (execOp e o) (execOp e' o):=by
 have v:∀{s s':Sem ae},aP P cI ρ s s'->aP P iu ρ (do Pure.pure (.value (<-s))) (do Pure.pure (.value (<-s'))):=λh=>aq h λ_ _ _ _ k=>aB (.value k);have u:∀{s s':Sem Unit},aP P (vJ Unit Unit) ρ s s'->aP P iu ρ (do s;Pure.pure .skip) (do s';Pure.pure .skip):=λh=>aq h λ_ _ _ _ _=>aB .skip;by_cases hnc:∃x,o.op=.nilCheck x;obtain⟨x,h⟩:=hnc;rw[h]at ho;exact Hq hP hK o x h (he x ho);obtain⟨dst,op,ty,pos,after,guard⟩:=o;unfold execOp;dsimp only at ho⊢;cases op
 case move x=>exact aB (.value (he x ho))
 case assign x=>exact aB (.value (he x ho))
 case pick c a b=>refine aq (Dx (he c ho.1)) λσ z z' l h=>?_;subst h;refine aB (.value ?_);split;exact(he a ho.2.1).mono l;exact(he b ho.2.2).mono l
 case alloc t=>exact v (Qo hP t)
 case box t x=>exact v (Xt t (he x ho))
 case build t ps=>exact v (Qq hP t (xF.ops λp hp=>he _ (ho p hp)))
 case buildSlice t n ps=>exact v (CF hP t n (xF.ops λp hp=>he _ (ho p hp)))
 case load t a=>exact v (Dy t (he a ho))
 case store t a x=>exact u (KA t (he a ho.1) (he x ho.2))
 case nilCheck x=>exact absurd ⟨x,rfl⟩ hnc
 case binOp b t x y t2=>exact v (aq (KJ b t x y (he x ho.1) (he y ho.2)) λσ _ _ l _=>Qv hP (hK.mono l) b t ((he x ho.1).mono l) ((he y ho.2).mono l))
 case unOp b t x=>exact v (Qw b (he x ho))
 case convert s t x=>exact v (KY s t ho.1 (he x ho.2))
 case makeInterface t x=>exact v (xG t (he x ho))
 case makeFunc fn a b=>exact v (G4 (UE ho.1) (AR.ops λo h=>he o (ho.2.1 o h)) (AR.ops λo h=>he o (ho.2.2 o h)))
 case makeMap t r=>exact v (KE t (og.map λx h=>he x (ho x h)))
 case makeSlice t l c=>exact v (EQ hP hK t (he l ho.1) (he c ho.2))
 case slice t x lo hi mx=>exact v (KH hP hK t (he x ho.1) (og.map λy h=>he y (ho.2.1 y h)) (og.map λy h=>he y (ho.2.2.1 y h)) (og.map λy h=>he y (ho.2.2.2 y h)))
 case fieldAddr s x f=>exact v (Hp s f (he x ho))
 case field t x f=>exact v (Qp t f (he x ho))
 case indexAddr t x i=>exact v (KG hP hK t (he x ho.1) (he i ho.2))
 case index t x i=>exact v (Qt hP hK t (he x ho.1) (he i ho.2))
 case lookup t x i b=>exact v (NW hP hK t ho.1 (he x ho.2.1) (he i ho.2.2) b)
 case mapUpdate t m k x=>exact u (vN hP hK t ho.1 (he m ho.2.1) (he k ho.2.2.1) (he x ho.2.2.2))
 case insert t m k x=>exact u (vN hP hK t ho.1 (he m ho.2.1) (he k ho.2.2.1) (he x ho.2.2.2))
 case range t x=>exact v (Qx t ho.1 (he x ho.2))
 case next it b=>obtain⟨rfl,ho⟩:=ho;exact v (UA ty (he it ho))
 case typeAssert x s t b=>exact v (CI hP hK (he x ho) s t b)
 case extract x i=>exact v (KC i (he x ho))
 case call c=>
  obtain⟨h1,h2⟩:=ho;cases hc:c.callee with
  |builtin b=>rw[hc]at h2;(have r:∀f:Operand->ae,resolve f c ty=Pure.pure {target:=.builtin b c.argTypes ty (c.args.map λ|.const _=>true|_=>false),args:=c.args.map f}:=λf=>by unfold resolve;dsimp only;rw[hc];rfl);show aP P iu ρ (do let d<-resolve e c ty;invoke d.target d.args) (do let d<-resolve e' c ty;invoke d.target d.args);rw[r,r];exact Lg hP hK b c.argTypes ty _ h2 (AR.ops λo h=>he o (h1 o h))
  |invoke r n=>rw[hc]at h2;refine aq (uJ c ty (λo h=>he o (h1 o h)) (by rw[hc];exact⟨he r h2.1,h2.2⟩)) λσ d d' l hd=>?_;exact zcX
  |value f=>rw[hc]at h2;refine aq (uJ c ty (λo h=>he o (h1 o h)) (by rw[hc];exact he f h2)) λσ d d' l hd=>?_;exact zcX
 case defer c=>
  obtain⟨⟨h1,h2⟩,h3⟩:=ho;refine aq (uJ c ty (λo h=>he o (h1 o h)) ?_) λσ d d' l hd=>aB (.defer hd);cases hc:c.callee with
  |builtin b=>exact(h3 b hc).elim
  |invoke r n=>rw[hc]at h2;exact⟨he r h2.1,h2.2⟩
  |value f=>rw[hc]at h2;exact he f h2
 case panic x=>exact v (K8 hP hK (he x ho))
 all_goals exact ho.elim
end
section
variable {P:aF}{ρ:Rn}
theorem Hr{xs xs':bw}(hx:AR ρ xs xs'):aP P cI ρ (Extern.AbiNoEscape.same xs) (Extern.AbiNoEscape.same xs'):=by
 obtain⟨xs⟩:=xs;obtain⟨xs'⟩:=xs';have hx:LR ρ xs xs':=hx;cases hx with
 |nil=>exact aC
 |cons x y=>
  cases y with
  |nil=>exact aB x
  |cons _ _=>exact aC
theorem Az:∀(n t:Nat)(acc:bw),(∀v∈acc.toList,Pl v)->∀v∈(Extern.BytealgMakeNoZero.digits n t acc).toList,Pl v
 |0,_,_,h=>h
 |n+1,t,acc,h=>by unfold Extern.BytealgMakeNoZero.digits;refine Az n _ _ λv hv=>?_;simp only[bH,List.mem_append,bW]at hv;rcases hv with hv|rfl;exact h v hv;exact yJ _ _
theorem CK(hP:PF P)(hK:KF P ρ)(ps rs:Array aw){xs xs':bw}(hx:AR ρ xs xs'):aP P cI ρ (Extern.BytealgMakeNoZero.makeNoZero ps rs xs) (Extern.BytealgMakeNoZero.makeNoZero ps rs xs'):=by
 obtain⟨xs⟩:=xs;obtain⟨xs'⟩:=xs';have hx:LR ρ xs xs':=hx;unfold Extern.BytealgMakeNoZero.makeNoZero;cases hx with
 |nil=>exact aC
 |cons x y=>
  cases y with
  |cons _ _=>cases x<;>first|exact aC|(rename_i k n;cases k<;>exact aC)
  |nil=>
   cases x
   case int k n=>
    cases k
    case i64=>
     dsimp only;cases rs[0]? with
     |none=>exact aC
     |some t=>
      refine aq (bE t) λσ d d' l e=>?_;subst e;cases d
      case slice e=>dsimp only;refine cQ rfl (dt (bK hP (hK.mono l) _)) ?_;refine aq (gN _) λτ c c' l2 h=>?_;subst h;refine aq (M5 _) λμ _ _ l3 _=>?_;refine aq (gN _) λν b b' l4 h=>?_;subst h;exact aq (pz e (AR.plain (Az _ _ _ sM))) λ_ _ _ _ k=>aB (.slice _ _ k)
      all_goals exact aC
    all_goals exact aC
   all_goals exact aC
theorem DM:∀(n:Nat){ρ:Rn}{a a':Addr}(acc:ay),bI ρ a a'->aP P (fz ay) ρ (Extern.Bytes.loadBytes a n acc) (Extern.Bytes.loadBytes a' n acc)
 |0,_,_,_,_,_=>aB rfl
 |n+1,ρ,a,a',acc,ha=>by
  unfold Extern.Bytes.loadBytes;refine aq (vI ha) λσ v v' l hv=>?_;cases hv
  case int k m=>cases k<;>first|exact aC|exact DM n _ ((ha.mono l).add 1)
  all_goals exact aC
theorem uL{x x':ae}(hx:VR ρ x x'):aP P (fz ay) ρ (Extern.Bytes.bytesOf x) (Extern.Bytes.bytesOf x'):=by
 cases hx
 case string s=>exact aB rfl
 case iG=>exact aB rfl
 case slice ha=>exact DM _ _ ha
 all_goals exact aC
theorem N3{x x':ae}(hx:VR ρ x x'):aP P (fz UInt8) ρ (Extern.Bytes.asByte x) (Extern.Bytes.asByte x'):=by
 cases hx
 case int k n=>cases k<;>first|exact aC|exact aB rfl
 all_goals exact aC
theorem E0{xs xs':bw}(hx:AR ρ xs xs'):aP P cI ρ (Extern.BytealgIndexByte.indexByte xs) (Extern.BytealgIndexByte.indexByte xs'):=by
 obtain⟨xs⟩:=xs;obtain⟨xs'⟩:=xs';have hx:LR ρ xs xs':=hx;unfold Extern.BytealgIndexByte.indexByte;cases hx with
 |nil=>exact aC
 |cons x y=>
  cases y with
  |nil=>exact aC
  |cons y z=>
   cases z with
   |cons _ _=>exact aC
   |nil=>refine aq (uL x) λσ b b' l e=>?_;subst e;refine aq (N3 (y.mono l)) λτ c c' l2 e=>?_;subst e;split<;>exact aB (pl_int _)
theorem Hs(hK:KF P ρ){xs xs':bw}(hx:AR ρ xs xs'):aP P cI ρ (Extern.BytealgIndex.index xs) (Extern.BytealgIndex.index xs'):=by
 have hm:∀σ:Rn,ρ.Le σ->aP P (fz Int) σ Extern.BytealgIndex.maxLen Extern.BytealgIndex.maxLen:=λσ l=>by
  unfold Extern.BytealgIndex.maxLen;refine aq (A:=bI) ?_ λτ a a' _ ha=>aq (vI ha) λ_ _ _ _ hv=>kJ hv;unfold globalAddr;refine aq eA λτ p p' l2 e=>?_;rw[e.1,e.2];cases hg:P.globals.findIdx? (·.name== "internal/bytealg.MaxLen")with
  |none=>exact aC
  |some g=>exact aB ⟨.inl ⟨((hK.mono l).mono l2).max g hg,rfl⟩,rfl,rfl⟩
 obtain⟨xs⟩:=xs;obtain⟨xs'⟩:=xs';have hx:LR ρ xs xs':=hx;unfold Extern.BytealgIndex.index;cases hx with
 |nil=>exact aC
 |cons x y=>
  cases y with
  |nil=>exact aC
  |cons y z=>
   cases z with
   |cons _ _=>exact aC
   |nil=>refine aq (uL x) λσ b b' l e=>?_;subst e;refine aq (uL (y.mono l)) λτ c c' l2 e=>?_;subst e;refine aq (hm τ (l.trans l2)) λμ m m' l3 e=>?_;have e:m=m':=e;subst e;dsimp only;refine cQ rfl (dt (bp rfl)) ?_;refine dY Iff.rfl (λ_=>dt (bp rfl)) λ_=>?_;split<;>exact aB (pl_int _)
end
def VT(ρ:Rn)(v v':ae):Prop:=VR ρ v v' \/∃a:Addr,ρ.T a.block/\v=.pointer (some a)/\v'=.pointer (some a)
theorem VT.mono{ρ σ:Rn}(h:ρ.Le σ){v v':ae}(x:VT ρ v v'):VT σ v v':=x.imp (λk=>k.mono h) λ⟨a,k,e⟩=>⟨a,by rw[h.T];exact k,e⟩
section
variable {P:aF}{ρ:Rn}
theorem add_block(a:Addr)(n:Nat):(a.add n).block=a.block:=by unfold Addr.add;split<;>rfl
theorem N4(hP:PF P)(hK:KF P ρ)(t:aw){a:Addr}(ha:ρ.T a.block){i i':ae}(hi:VR ρ i i'):aP P VT ρ (Instr.indexAt t (.pointer (some a)) i) (Instr.indexAt t (.pointer (some a)) i'):=by
 unfold Instr.indexAt;refine aq (nB hi) λσ k k' l hk=>?_;subst hk;obtain⟨k,n⟩:=k;dsimp only;refine aq (bE t) λτ d d' l2 hd=>?_;subst hd;cases d
 case array len elem=>dsimp only;refine aq (A:=λ_ x y=>x=a/\y=a) (aB ⟨rfl,rfl⟩) λμ x y l3 h=>?_;rw[h.1,h.2];refine aq (A:=λ_ x y=>x=(some a,len,elem)/\y=(some a,len,elem)) (aB ⟨rfl,rfl⟩) λμ' x y ZJ h=>?_;rw[h.1,h.2];dsimp only;refine aq (bE t) λν d d' l4 hd=>?_;subst hd;refine dY Iff.rfl (λ_=>?_) λ_=>cQ rfl (bp rfl) (ir hP (((((hK.mono l).mono l2).mono l3).mono ZJ).mono l4) k n len .index);refine aq (dJ _) λξ m m' l5 hm=>?_;subst hm;exact aB (.inr ⟨_,by rw[add_block,l5.T,l4.T,ZJ.T,l3.T,l2.T,l.T];exact ha,rfl,rfl⟩)
 all_goals exact aC
theorem Ht{a:Addr}(ha:ρ.T a.block):aP P cI ρ (Go.load a) (Go.load a):=.loadT ha λ_ hv=>.pure (hv ρ)
theorem DN:∀(n i:Nat){ρ:Rn}{a:Addr}{acc acc':bw},ρ.T a.block->AR ρ acc acc'->aP P AR ρ (loadCellsFrom a i n acc) (loadCellsFrom a i n acc')
 |0,_,_,_,_,_,_,h=>aB h
 |n+1,i,_,_,_,_,ha,h=>aq (Ht (by rw[add_block];exact ha)) λ_ _ _ l hv=>DN n (i+1) (by rw[l.T];exact ha) ((h.mono l).push hv)
theorem Hu(t:aw){a:Addr}(ha:ρ.T a.block):aP P cI ρ (Instr.loadAt t (.pointer (some a))) (Instr.loadAt t (.pointer (some a))):=by unfold Instr.loadAt;show aP P cI ρ (loadVar t a) (loadVar t a);unfold Go.loadVar;refine aq (Ai t) λσ b b' l hb=>cQ hb ?_ (Ht (by rw[l.T];exact ha));refine aq (dJ t) λτ n n' l2 hn=>?_;subst hn;exact aq (DN n 0 (by rw[l2.T,l.T];exact ha) LR.nil) λ_ _ _ _ hc=>aB (.agg hc)
theorem N5(t:aw){v v':ae}(h:VT ρ v v'):aP P cI ρ (Instr.loadAt t v) (Instr.loadAt t v'):=by rcases h with h|⟨a,ha,rfl,rfl⟩;exact Dy t h;exact Hu t ha
end
def ud(ρ:Rn)(S:Nat->Bool):Operand->Prop
 |.tmp t=>S t=false
 |.const v=>Pl v
 |.global g=>ρ.K g
 |.func f=>ρ.ok f
def Stp(ρ:Rn)(o:Oper):Prop:=∃c f,o.op=.call c/\c.callee=.value (.func f)/\ρ.sp f
def qa(P:aF)(ρ:Rn)(S:Nat->Bool)(inl:Bool)(o:Oper):Prop:=
 (Ay P ρ (ud ρ S) o.op/\(∀d,o.dst=some d->S d=false)/\(inl=true->∀c,o.op≠.defer c))\/
 (inl=false/\(∃c,o.op=.call c/\c.callee=.builtin .recover)/\∀d,o.dst=some d->S d=false)\/
 (∃t g i d,o.op=.indexAddr t (.global g) i/\ρ.T g/\ud ρ S i/\o.dst=some d/\S d=true)\/
 (∃t x,o.op=.load t x/\((∃s,x=.tmp s)\/∃g,x=.global g/\ρ.T g)/\∀d,o.dst=some d->S d=false)\/Stp ρ o
def fU(P:aF)(ρ:Rn)(f:Nat)(S:Nat->Bool)(inl:Bool):Code->Prop
 |.seq a b=>fU P ρ f S inl a/\fU P ρ f S inl b
 |.cond c a b=>ud ρ S c/\fU P ρ f S inl a/\fU P ρ f S inl b
 |.block _ c|.loop c|.scope c=>fU P ρ f S inl c
 |.region _ ops _=>∀o∈ops.toList,qa P ρ S inl o
 |.rangeFunc g _ a b=>ud ρ S g/\(∀s,S s=false)/\ρ.cd f a/\ρ.cd f b
 |_=>True
inductive zM(P:aF)(ρ:Rn)(f:Nat)(S:Nat->Bool)(inl:Bool):Item->Item->Prop
 |code {c:Code}:fU P ρ f S inl c->zM P ρ f S inl (.code c) (.code c)
 |inBlock (id:Nat):zM P ρ f S inl (.inBlock id) (.inBlock id)
 |inLoop {c:Code}:fU P ρ f S inl c->zM P ρ f S inl (.inLoop c) (.inLoop c)
 |inScope {c:Code}:fU P ρ f S inl c->zM P ρ f S inl (.inScope c) (.inScope c)
 |inRegion {ops:Array Oper} (todo:List Nat):(∀o∈ops.toList,qa P ρ S inl o)->zM P ρ f S inl (.inRegion ops todo) (.inRegion ops todo)
 |qV {l l':Nat}:ρ.r l l'->zM P ρ f S inl (.inRangeFunc l) (.inRangeFunc l')
 |nk {l l':Nat}:ρ.r l l'->zM P ρ f S inl (.endRangeFunc l) (.endRangeFunc l')
 |beginRound:zM P ρ f S inl .beginRound .beginRound
inductive qW(P:aF)(ρ:Rn)(f:Nat)(S:Nat->Bool)(inl:Bool):List Item->List Item->Prop
 |nil:qW P ρ f S inl [] []
 |cons {x x':Item} {l l':List Item}:zM P ρ f S inl x x'->qW P ρ f S inl l l'->qW P ρ f S inl (x::l) (x'::l')
structure UF(ρ:Rn)(e e':PanicEntry):Prop where
 v:VR ρ e.v e'.v
 rc:e'.recovered=e.recovered
 Xy:e'.goexit=e.goexit
inductive nE(ρ:Rn):List PanicEntry->List PanicEntry->Prop
 |nil:nE ρ [] []
 |cons {x x':PanicEntry} {l l':List PanicEntry}:UF ρ x x'->nE ρ l l'->nE ρ (x::l) (x'::l')
inductive Hv(ρ:Rn):FrameMode->FrameMode->Prop
 |run:Hv ρ .run .run
 |returning:Hv ρ .returning .returning
 |panicking {c c':List PanicEntry}:nE ρ c c'->Hv ρ (.panicking c) (.panicking c')
structure ue(ρ:Rn)(S:Nat->Bool)(t t':bw):Prop where
 size:t'.size=t.size
 get:∀(i:Nat) v v',t[i]?=some v->t'[i]?=some v'->(S i=false->VR ρ v v')/\VT ρ v v'
structure gT(P:aF)(ρ:Rn)(S:Nat->Nat->Bool)(fr fr':Frame):Prop where
 fn:fr'.fn=fr.fn
 ok:ρ.ok fr.fn
 tmps:ue ρ (S fr.fn) fr.tmps fr'.tmps
 todo:qW P ρ fr.fn (S fr.fn) fr.roundOf.isSome fr.todo fr'.todo
 defers:qK ρ fr.defers fr'.defers
 mode:Hv ρ fr.mode fr'.mode
 kind:fr'.kind=fr.kind
 kindOk:fr.kind=.normal\/fr.kind=.deferred
 round:ZI ρ fr.roundOf fr'.roundOf
inductive mz(P:aF)(ρ:Rn)(S:Nat->Nat->Bool):List Frame->List Frame->Prop
 |nil:mz P ρ S [] []
 |cons {x x':Frame} {l l':List Frame}:gT P ρ S x x'->mz P ρ S l l'->mz P ρ S (x::l) (x'::l')
section
variable {P:aF}{ρ σ:Rn}{S:Nat->Nat->Bool}
theorem ud.mono(h:ρ.Le σ){q:Nat->Bool}{o:Operand}(k:ud ρ q o):ud σ q o:=by
 cases o with
 |tmp t=>exact k
 |const v=>exact k
 |global g=>exact(show σ.K g by rw[h.K];exact k)
 |func f=>exact(show σ.ok f by rw[h.ok];exact k)
theorem M8(h:ρ.Le σ)(q:Nat->Bool):ud σ q=ud ρ q:=by
 funext o;cases o with
 |tmp t=>rfl
 |const v=>rfl
 |global g=>show σ.K g=ρ.K g;rw[h.K]
 |func f=>show σ.ok f=ρ.ok f;rw[h.ok]
theorem QH(h:ρ.Le σ)(q:Operand->Prop):Ay P σ q=Ay P ρ q:=by
 have e1:∀c,sR P σ q c=sR P ρ q c:=λc=>by unfold sR;rw[h.nm]
 have e2:∀f,DL σ f=DL ρ f:=λf=>by cases f<;>simp only[DL,h.ok,h.nm]
 funext o;cases o<;>simp only[Ay,e1,e2]
theorem AB(h:ρ.Le σ)(q:Nat->Bool)(inl:Bool)(o:Oper):qa P σ q inl o=qa P ρ q inl o:=by unfold qa Stp;rw[M8 h,QH h,h.T,h.sp]
theorem nG(h:ρ.Le σ)(f:Nat)(q:Nat->Bool)(inl:Bool):∀c,fU P σ f q inl c=fU P ρ f q inl c:=by
 intro c
 induction c<;>simp only[fU,M8 h,h.cd, *]
 simp only[AB h]
theorem zM.mono(h:ρ.Le σ){f:Nat}{q:Nat->Bool}{inl:Bool}{x x':Item}(k:zM P ρ f q inl x x'):zM P σ f q inl x x':=by
 cases k with
 |code c=>exact .code zde
 |inBlock id=>exact .inBlock id
 |inLoop c=>exact .inLoop zde
 |inScope c=>exact .inScope zde
 |inRegion t o=>exact .inRegion t λx hx=>by rw[AB h];exact o x hx
 |qV r=>exact .qV (h.r r)
 |nk r=>exact .nk (h.r r)
 |beginRound=>exact .beginRound
theorem qW.mono(h:ρ.Le σ){f:Nat}{q:Nat->Bool}{inl:Bool}:∀{x x':List Item},qW P ρ f q inl x x'->qW P σ f q inl x x'
 |_,_,.nil=>.nil
 |_,_,.cons a b=>.cons (a.mono h) (b.mono h)
theorem UF.mono(h:ρ.Le σ){x x':PanicEntry}(k:UF ρ x x'):UF σ x x':=⟨k.v.mono h,k.rc,k.Xy⟩
theorem nE.mono(h:ρ.Le σ):∀{x x':List PanicEntry},nE ρ x x'->nE σ x x'
 |_,_,.nil=>.nil
 |_,_,.cons a b=>.cons (a.mono h) (b.mono h)
theorem nE.app:∀{x x' y y':List PanicEntry},nE ρ x x'->nE ρ y y'->nE ρ (x++y) (x'++y')
 |_,_,_,_,.nil,h=>h
 |_,_,_,_,.cons a b,h=>.cons a (b.app h)
theorem Hv.mono(h:ρ.Le σ){x x':FrameMode}(k:Hv ρ x x'):Hv σ x x':=by
 cases k with
 |run=>exact .run
 |returning=>exact .returning
 |panicking c=>exact .panicking (c.mono h)
theorem ue.mono(h:ρ.Le σ){q:Nat->Bool}{t t':bw}(k:ue ρ q t t'):ue σ q t t':=
 ⟨k.size,λi v v' h1 h2=>⟨λe=>((k.get i v v' h1 h2).1 e).mono h,(k.get i v v' h1 h2).2.mono h⟩⟩
theorem ue.of{q:Nat->Bool}{t t':bw}(h:AR ρ t t'):ue ρ q t t':=
 ⟨h.size,λi v v' h1 h2=>by
  rcases h.get i with⟨k1,_⟩|⟨u,u',k1,k2,k3⟩;rw[h1]at k1;cases k1
  ·rw[h1]at k1;rw[h2]at k2;cases k1;cases k2;exact⟨λ_=>k3,.inl k3⟩⟩
theorem ue.to{q:Nat->Bool}{t t':bw}(h:ue ρ q t t')(hq:∀s,q s=false):AR ρ t t':=by
 have key:∀(l l':List ae),l'.length=l.length->(∀(i:Nat) v v',l[i]?=some v->l'[i]?=some v'->VR ρ v v')->LR ρ l l':=by
  intro l
  induction l with
  |nil=>intro l' h1 _;cases l' with
   |nil=>exact .nil
   |cons _ _=>simp at h1
  |cons a l ih=>intro l' h1 h2;cases l' with
   |nil=>simp at h1
   |cons b l'=>exact .cons (h2 0 a b rfl rfl) (ih l' (by simpa using h1) λi v v' k1 k2=>h2 (i+1) v v' (by simpa using k1) (by simpa using k2))
 exact key _ _ (by simpa using h.size) λi v v' h1 h2=>(h.get i v v' (by simpa using h1) (by simpa using h2)).1 (hq i)
theorem mP:VR ρ undef undef:=.tuple LR.nil
theorem ue.getD{q:Nat->Bool}{t t':bw}(h:ue ρ q t t')(i:Nat):(q i=false->VR ρ (t.getD i undef) (t'.getD i undef))/\VT ρ (t.getD i undef) (t'.getD i undef):=by
 rw[aU,aU];by_cases hi:i<t.size
 ·have hi':i<t'.size:=by rw[h.size];exact hi
  rw[aZ hi,aZ hi'];exact h.get i _ _ (aZ hi) (aZ hi')
 ·rw[Array.getElem?_eq_none oM,Array.getElem?_eq_none (by rw[h.size];omega)];exact⟨λ_=>mP,.inl mP⟩
theorem ue.set{q:Nat->Bool}{t t':bw}(h:ue ρ q t t')(i:Nat){v v':ae}(h1:q i=false->VR ρ v v')(h2:VT ρ v v'):ue ρ q (t.setIfInBounds i v) (t'.setIfInBounds i v'):=by refine⟨by simp[h.size],λj u u' k1 k2=>?_⟩;rw[cx]at k1 k2;by_cases e:i=j;subst e;rw[if_pos rfl]at k1 k2;split at k1;rw[if_pos (by rw[h.size];assumption)]at k2;cases k1;cases k2;exact⟨h1,h2⟩;cases k1;rw[if_neg e]at k1 k2;exact h.get j u u' k1 k2
theorem gT.mono(h:ρ.Le σ){x x':Frame}(k:gT P ρ S x x'):gT P σ S x x':=
 ⟨k.fn,by rw[h.ok];exact k.ok,k.tmps.mono h,k.todo.mono h,k.defers.mono h,k.mode.mono h,k.kind,k.kindOk,k.round.imp id λ⟨a,b,c,d,e⟩=>⟨a,b,c,d,h.r e⟩⟩
theorem mz.mono(h:ρ.Le σ):∀{x x':List Frame},mz P ρ S x x'->mz P σ S x x'
 |_,_,.nil=>.nil
 |_,_,.cons a b=>.cons (a.mono h) (b.mono h)
theorem gT.eval{x x':Frame}(k:gT P ρ S x x'){o:Operand}(h:ud ρ (S x.fn) o):VR ρ (x.eval o) (x'.eval o):=by
 cases o with
 |tmp t=>exact(k.tmps.getD t).1 h
 |const v=>exact h ρ
 |global g=>exact .ptr ⟨.inl ⟨h,rfl⟩,rfl,rfl⟩
 |func f=>exact .func (.func h) LR.nil LR.nil
theorem gT.Xz{x x':Frame}(k:gT P ρ S x x')(s:Nat):VT ρ (x.eval (.tmp s)) (x'.eval (.tmp s)):=(k.tmps.getD s).2
theorem gT.yielded{x x':Frame}(k:gT P ρ S x x')(ops:Array Oper)(j:Nat):Go.yielded ops x'.tmps j=Go.yielded ops x.tmps j:=by
 unfold Go.yielded;cases hd:(ops[j]?).bind (·.dst)with
 |none=>rfl
 |some d=>
  show(match x'.tmps[d]? with|some (.bool b)=>some b|_=>none)=(match x.tmps[d]? with|some (.bool b)=>some b|_=>none);by_cases hi:d<x.tmps.size
  ·(have hi':d<x'.tmps.size:=by rw[k.tmps.size];exact hi);have:=(k.tmps.get d _ _ (aZ hi) (aZ hi')).2;rw[aZ hi,aZ hi'];rcases this with h|⟨a,_,e1,e2⟩;revert h;generalize x.tmps[d]=v;generalize x'.tmps[d]=v';intro h;cases h<;>rfl
   ·rw[e1,e2]
  ·rw[Array.getElem?_eq_none (xs:=x'.tmps) (by rw[k.tmps.size];exact Nat.le_of_not_lt hi),Array.getElem?_eq_none (xs:=x.tmps) (Nat.le_of_not_lt hi)]
theorem DO{f:Nat}{q:Nat->Bool}{inl:Bool}(id:Nat):∀{k k':List Item},qW P ρ f q inl k k'->(exitTo id k=none/\exitTo id k'=none)\/∃r r',exitTo id k=some r/\exitTo id k'=some r'/\qW P ρ f q inl r r'
 |_,_,.nil=>.inl ⟨rfl,rfl⟩
 |_,_,.cons x y=>by
  have ih:=DO id y;cases x with
  |inBlock i=>unfold exitTo;split;exact .inr ⟨_,_,rfl,rfl,y⟩;exact ih
  |_=>simpa only[exitTo]using ih
theorem CL{f:Nat}{q:Nat->Bool}{inl:Bool}(l:Nat):∀{c r:Code},fU P ρ f q inl c->findLabel c l=some r->fU P ρ f q inl r:=by
 intro c
 induction c with
 |seq a b iha ihb=>intro r h e;unfold findLabel at e;split at e;rename_i rest hr;cases e;exact⟨iha h.1 hr,h.2⟩;exact ihb h.2 e
 |label l'=>
  intro r h e;unfold findLabel at e;split at e;cases e;trivial
  ·cases e
 |_=>intro r h e;simp[findLabel]at e
theorem DR{f:Nat}{q:Nat->Bool}{inl:Bool}(l:Nat):∀{k k':List Item},qW P ρ f q inl k k'->(gotoIn l k=none/\gotoIn l k'=none)\/∃r r',gotoIn l k=some r/\gotoIn l k'=some r'/\qW P ρ f q inl r r'
 |_,_,.nil=>.inl ⟨rfl,rfl⟩
 |_,_,.cons x y=>by
  have ih:=DR l y;cases x with
  |inScope c=>
   unfold gotoIn;cases hf:findLabel _ l with
   |none=>exact ih
   |some r=>exact .inr ⟨_,_,rfl,rfl,.cons (.code (CL l c hf)) (.cons (.inScope c) y)⟩
  |_=>simpa only[gotoIn]using ih
end
structure Env(P:aF)(ρ:Rn)(S:Nat->Nat->Bool):Prop where
 pf:PF P
 kf:KF P ρ
 xf:XF P ρ.ok
 mf:∀n,ρ.nm n->MF P ρ n
 code:∀f fn c,ρ.ok f->P.funcs[f]?=some fn->fn.body=some c->fU P ρ f (S f) false c
 round:∀f c,ρ.cd f c->(∀s,S f s=false)/\fU P ρ f (S f) true c
 res:∀f fn,ρ.ok f->P.funcs[f]?=some fn->∀r∈fn.results.toList,match r with|.tmp t=>S f t=false|.cell a _=>S f a=false
 XA:∀f,ρ.ok f->f<P.funcs.size
 early:∀fr cs d g w,∃o w1 es,early P fr cs d g w=.ended o w1 es
theorem MF.le{P:aF}{ρ σ:Rn}(h:ρ.Le σ){n:String}(k:MF P ρ n):MF P σ n:=λt i m f q h1 h2 h3=>by rw[h.ok];exact k t i m f q h1 h2 h3
theorem Env.mono{P:aF}{ρ σ:Rn}{S:Nat->Nat->Bool}(E:Env P ρ S)(h:ρ.Le σ):Env P σ S:=
 ⟨E.pf,E.kf.mono h,by rw[h.ok];exact E.xf,λn k=>(E.mf n (by rw[<-h.nm];exact k)).le h,λf fn c h1 h2 h3=>by rw[nG h];exact E.code f fn c (by rw[<-h.ok];exact h1) h2 h3,λf c k=>by rw[h.cd]at k;rw[nG h];exact E.round f c k,λf fn k=>E.res f fn (by rw[<-h.ok];exact k),λf k=>E.XA f (by rw[<-h.ok];exact k),E.early⟩
def iE(fr:Frame)(l:List Frame):Prop:=((fr::l).getLast sM).kind=.normal/\((fr::l).getLast sM).roundOf=none
theorem iE.cons{fr c:Frame}{l:List Frame}:iE fr (c::l)↔iE c l:=by simp[iE]
theorem iE.same{fr jD:Frame}{l:List Frame}(h:iE fr l)(hk:jD.kind=fr.kind)(hr:jD.roundOf=fr.roundOf):iE jD l:=by
 cases l with
 |nil=>simpa[iE,hk,hr]using h
 |cons c l=>exact iE.cons.2 (iE.cons.1 h)
def gr(fr:Frame)(cs:List Frame):aG:={frame:=fr,callers:=cs,status:=.running,dying:=none}
def CN(w:aa)(m:Nat)(ts:Nat->Question->Nat)(T:Nat->Question->Nat):Prop:=∀i,i<m->T (w.drawn+i)=ts i
def Goes(P:aF)(ρ:Rn)(S:Nat->Nat->Bool)(c0:Frame)(ext:List Frame)(w w':aa)(L:aa->GStep)(R:GStep):Prop:=
 ∃m ts,(∀T,CN w m ts T->∃o w1 es,L (on w T)=.ended o w1 es)\/
  ∃jD l1 w1 fc ig w1' es es' σ,w1.drawn=w.drawn+m/\(∀T,CN w m ts T->L (on w T)=.go (gr jD (l1++[c0])) (on w1 T) es)/\R=.go (gr fc (ig++ext)) w1' es'/\
   mz P σ S (jD::l1) (fc::ig)/\iE jD l1/\Grow ρ σ w' w1'/\WR P σ w1 w1'/\eG σ es.toList es'.toList/\gM w' w1' (Own ρ)
section
variable {P:aF}{ρ:Rn}{S:Nat->Nat->Bool}{c0:Frame}{ext:List Frame}
theorem lG(fn:FuncId){es es':Array Event}(h:eG ρ es.toList es'.toList):eG ρ (seen P fn es).toList (seen P fn es').toList:=by
 dsimp only[seen];rw[<-Array.foldl_toList,<-Array.foldl_toList];revert h;generalize es.toList=l;generalize es'.toList=l';intro h;have key:∀(l l':List Event),eG ρ l l'->∀(q:Bool)(k k':Array Event),eG ρ k.toList k'.toList->
  eG ρ (l.foldl (λ(q,kept) e=>match e.loc with|.mark (.extern f)=>((P.funcs[f]?).any (·.norace),kept)|_=>(q,if q&&!e.sync then kept else kept.push e)) (q,k)).2.toList
   (l'.foldl (λ(q,kept) e=>match e.loc with|.mark (.extern f)=>((P.funcs[f]?).any (·.norace),kept)|_=>(q,if q&&!e.sync then kept else kept.push e)) (q,k')).2.toList:=by
  intro l l' h
  induction h with
  |nil=>intro q k k' hk;exact hk
  |left r _ ih=>intro q k k' hk;rw[bG];refine ih _ _ _ ?_;split;exact hk;rw[bH];exact hk.EM r
  | @cons e e' l l' he _ ih=>
   intro q k k' hk;rw[bG,bG];have push:eG ρ (k.push e).toList (k'.push e').toList:=by rw[bH,bH];exact eG.snoc he hk
   have hl:=he.loc;have hsy:=he.sync;obtain⟨loc,wr,sy⟩:=e;obtain⟨loc',wr',sy'⟩:=e';have hsy:sy'=sy:=hsy;subst hsy;have hl:qP ρ loc loc':=hl;cases hl with
   |ext f=>exact ih _ _ _ hk
   |_=>dsimp only;refine ih _ _ _ ?_;split<;>assumption
 exact key l l' h _ _ _ .nil
theorem gT.finish{x x':Frame}(k:gT P ρ S x x'){v v':ae}(h:VT ρ v v')(hd:∀ops i r t,x.todo=.inRegion ops (i::r)::t->∀d,(ops[i]?).bind (·.dst)=some d->S x.fn d=false->VR ρ v v'):gT P ρ S (x.finish v) (x'.finish v'):=by
 obtain⟨k1,k2,k3,k4,k5,k6,k7,k8,k9⟩:=k;obtain⟨g,tmps,todo,defers,mode,kind,rnd⟩:=x;obtain⟨g',tmps',todo',defers',mode',kind',aa6⟩:=x';dsimp only at*;subst k1 k7;cases k4 with
 |nil=>exact⟨rfl,k2,k3,.nil,k5,k6,rfl,k8,k9⟩
 |cons a b=>
  cases a with
  |inRegion t o=>
   cases t with
   |nil=>exact⟨rfl,k2,k3,.cons (.inRegion [] o) b,k5,k6,rfl,k8,k9⟩
   |cons i r=>
    refine⟨rfl,k2,?_,.cons (.inRegion r o) b,k5,k6,rfl,k8,k9⟩;have key:∀o:Option Tmp,(∀d,o=some d->S g' d=false->VR ρ v v')->ue ρ (S g') (match o with|some d=>tmps.setIfInBounds d v|none=>tmps) (match o with|some d=>tmps'.setIfInBounds d v'|none=>tmps'):=λo ho=>by
     cases o with
     |some d=>exact k3.set d (ho d rfl) h
     |none=>exact k3
    exact key _ λd hd2=>hd _ i r _ rfl d hd2
  |qV l=>exact zdg
  |beginRound=>exact⟨rfl,k2,k3,b,k5,k6,rfl,k8,k9⟩
  |code c=>exact⟨rfl,k2,k3,.cons (.code c) b,k5,k6,rfl,k8,k9⟩
  |inBlock c=>exact⟨rfl,k2,k3,.cons (.inBlock c) b,k5,k6,rfl,k8,k9⟩
  |inLoop c=>exact⟨rfl,k2,k3,.cons (.inLoop c) b,k5,k6,rfl,k8,k9⟩
  |inScope c=>exact⟨rfl,k2,k3,.cons (.inScope c) b,k5,k6,rfl,k8,k9⟩
  |nk l=>exact zdg
theorem dF(x:Frame)(v:ae):(x.finish v).kind=x.kind/\(x.finish v).roundOf=x.roundOf:=by unfold Frame.finish;split<;>exact⟨rfl,rfl⟩
theorem gT.raise{x x':Frame}(k:gT P ρ S x x'){c c':List PanicEntry}(h:nE ρ c c'):gT P ρ S (x.raise c) (x'.raise c'):=by
 have hm:=k.mode;unfold Frame.raise;revert hm;generalize e:x.mode=m;generalize e':x'.mode=m';intro hm;cases hm with
 |run=>exact zc6
 |returning=>exact zc6
 |panicking c=>exact⟨k.fn,k.ok,k.tmps,k.todo,k.defers,.panicking (h.app c),k.kind,k.kindOk,k.round⟩
theorem fY(x:Frame)(c:List PanicEntry):(x.raise c).kind=x.kind/\(x.raise c).roundOf=x.roundOf:=by unfold Frame.raise;split<;>exact⟨rfl,rfl⟩
theorem vQ(E:Env P ρ S){f:FuncId}(hf:ρ.ok f){xs xs':bw}(hx:AR ρ xs xs'){kind:CallKind}(hk:kind=.normal\/kind=.deferred):gT P ρ S (Frame.enter P f xs kind) (Frame.enter P f xs' kind):=by
 unfold Frame.enter;refine⟨rfl,hf,?_,?_,.nil,.run,rfl,hk,.inl ⟨rfl,rfl⟩⟩;refine ue.of ?_;rw[hx.size];refine hx.append ?_;unfold AR;rw[Array.toList_replicate];exact LR.fP mP _
 ·refine .cons (.code ?_) .nil;show fU P ρ f (S f) false _;cases hfn:P.funcs[f]? with
  |none=>exact trivial
  |some fn=>
   show fU P ρ f (S f) false (fn.body.getD _);cases hb:fn.body with
   |none=>exact trivial
   |some c=>exact E.code f fn c hf hfn hb
theorem Hw(E:Env P ρ S){l l':Nat}(hl:ρ.r l l'){f:FuncId}{xs xs':bw}(hx:AR ρ xs xs'){a b:Code}(ho:ρ.ok f)(ha:ρ.cd f a)(hb:ρ.cd f b){kind:CallKind}(hk:kind=.normal\/kind=.deferred):
 gT P ρ S (Frame.round l f xs a b kind) (Frame.round l' f xs' a b kind):=
 ⟨rfl,ho,.of hx,.cons (.code (E.round f a ha).2) (.cons .beginRound (.cons (.code (E.round f b hb).2) .nil)),.nil,.run,rfl,hk,.inr ⟨l,l',rfl,rfl,hl⟩⟩
end
def Pt:List Item->Prop
 |.call .. ::_|.extern .. ::_=>False
 |_=>True
theorem qW.pt{P:aF}{ρ:Rn}{f:Nat}{q:Nat->Bool}{inl:Bool}{x x':List Item}(h:qW P ρ f q inl x x'):Pt x/\Pt x':=by
 cases h with
 |nil=>exact⟨trivial,trivial⟩
 |cons a b=>cases a<;>exact⟨trivial,trivial⟩
section
variable {P:aF}{fr:Frame}{cs:List Frame}{s:Sem Next}{w w1:aa}{es:Array Event}
theorem xL{fr:Frame}(h:fr.kind=.normal\/fr.kind=.deferred):(fr.kind==CallKind.early)=false:=by rcases h with h|h<;>rw[h]<;>rfl
theorem sS{v:ae}(hk:(fr.kind==CallKind.early)=false)(hr:s.runT P w #[]=(.ok (.value v) w1,es)):stepG.apply P true fr cs none s w=.go (gr (fr.finish v) cs) w1 (seen P fr.fn es):=by exact zcT
theorem Hz(hk:(fr.kind==CallKind.early)=false)(hr:s.runT P w #[]=(.ok .skip w1,es)):stepG.apply P true fr cs none s w=.go (gr (fr.finish undef) cs) w1 (seen P fr.fn es):=by exact zcT
theorem DT{f:FuncId}{xs:bw}(ht:Pt fr.todo)(hk:(fr.kind==CallKind.early)=false)(hr:s.runT P w #[]=(.ok (.enter f xs) w1,es)):stepG.apply P true fr cs none s w=.go (gr (Frame.enter P f xs .normal) (fr::cs)) w1 (seen P fr.fn es):=by
 obtain⟨g,tm,td,df,md,kd,rn⟩:=fr;cases td with
 |nil=>(dsimp only at hk⊢;simp only[stepG.apply,hr,hk,GStep.after,gr,if_true,dA,if_false,bD])
 |cons x r=>cases x<;>first|exact ht.elim|(dsimp only at hk⊢;simp only[stepG.apply,hr,hk,GStep.after,gr,if_true,dA,if_false,bD])
theorem DU{l:Nat}{f:FuncId}{xs:bw}{a b:Code}(hk:(fr.kind==CallKind.early)=false)(hr:s.runT P w #[]=(.ok (.round l f xs a b) w1,es)):stepG.apply P true fr cs none s w=.go (gr (Frame.round l f xs a b .normal) (fr::cs)) w1 (seen P fr.fn es):=by exact zcT
theorem DV{d:Deferred}(hk:(fr.kind==CallKind.early)=false)(hr:s.runT P w #[]=(.ok (.defer d) w1,es)):stepG.apply P true fr cs none s w=.go (gr ({fr with defers:=d::fr.defers}.finish undef) cs) w1 (seen P fr.fn es):=by exact zcT
theorem sT{v:ae}(hk:(fr.kind==CallKind.early)=false)(hr:s.runT P w #[]=(.halt (.panic v) w1,es)):stepG.apply P true fr cs none s w=.go (gr (fr.raise [{v,recovered:=false}]) cs) w1 (seen P fr.fn es):=by exact zcT
theorem ow(hro:fr.roundOf=none)(hk:(fr.kind==CallKind.early)=false)(hr:s.runT P w #[]=(.ok .recover w1,es)):stepG.apply P true fr cs none s w=match tryRecover fr cs with
 |some (v,cs')=>.go (gr (fr.finish v) cs') w1 (seen P fr.fn es)
 |none=>.go (gr (fr.finish .nilIface) cs) w1 (seen P fr.fn es):=by
 simp only[stepG.apply,hr,hk,hro,gr,if_true];cases h:tryRecover fr cs with
 |none=>simp[GStep.after]
 |some p=>obtain⟨v,c⟩:=p;simp[GStep.after]
theorem H6(hE:∀fr cs d g w,∃o w1 es,early P fr cs d g w=.ended o w1 es){h:Halt}(hd:fQ h=true)(hr:s.runT P w #[]=(.halt h w1,es)):∃o w2 es2,stepG.apply P true fr cs none s w=.ended o w2 es2:=by
 cases h<;>first|(cases hd;done)|skip
 case unsupported u=>by_cases hu:∃g,u=.initOrder g;obtain⟨g,rfl⟩:=hu;obtain⟨o,w2,es2,h1⟩:=hE fr cs none g w1;exact⟨o,w2,_,by simp only[stepG.apply,hr,if_true,GStep.after,h1];rfl⟩;cases u<;>first|exact absurd ⟨_,rfl⟩ hu|exact⟨_,_,_,zdf⟩
 case stuck=>exact⟨_,_,_,zdf⟩
end
section
variable {P:aF}{ρ:Rn}{S:Nat->Nat->Bool}{c0:Frame}{ext:List Frame}
theorem mz.cons_inv{x x':Frame}{l l':List Frame}(h:mz P ρ S (x::l) (x'::l')):gT P ρ S x x'/\mz P ρ S l l':=by cases h with|cons a b=>exact⟨a,b⟩
theorem qX(E:Env P ρ S){fr fr':Frame}{l l':List Frame}(hf:gT P ρ S fr fr')(hl:mz P ρ S l l')(hb:iE fr l){s s':Sem Next}(hs:aP P iu ρ s s'){w w':aa}(hw:WR P ρ w w'):
 Goes P ρ S c0 ext w w' (λw=>stepG.apply P true fr (l++[c0]) none s w) (stepG.apply P true fr' (l'++ext) none s' w'):=by
 obtain⟨m,ts,res,h1,h2,h3⟩:=hs.run w w' #[] #[] hw .nil;have k1:=xL hf.kindOk;have k2:(fr'.kind==CallKind.early)=false:=by rw[hf.kind];exact k1
 have kt:=hf.todo.pt;generalize hr':s'.runT P w' #[]=r' at h3;refine⟨m,ts,?_⟩;cases h3 with
 |fQ hd=>exact .inl λT hT=>H6 E.early hd (h1 T hT)
 | @panic σ v v' w1 w1' es1 mi hg hv hw1 hls hfr=>exact zcV
 | @ok σ a b w1 w1' es1 mi hg hA hw1 hls hfr=>
  have hf1:=hf.mono hg.le;have hl1:=hl.mono hg.le;have E1:=E.mono hg.le;have AD:eG σ (seen P fr.fn es1).toList (seen P fr'.fn mi).toList:=by rw[hf.fn];exact lG _ hls
  cases hA with
  |value hv=>exact .inr ⟨_,l,w1,_,l',w1',_,_,σ,h2,λT hT=>sS k1 (h1 T hT),sS k2 hr',.cons (hf1.finish (.inl hv) λ_ _ _ _ _ _ _ _=>hv) hl1,hb.same (dF _ _).1 (dF _ _).2,hg,hw1,AD,hfr⟩
  |skip=>exact .inr ⟨_,l,w1,_,l',w1',_,_,σ,h2,λT hT=>Hz k1 (h1 T hT),Hz k2 hr',.cons (hf1.finish (.inl mP) λ_ _ _ _ _ _ _ _=>mP) hl1,hb.same (dF _ _).1 (dF _ _).2,hg,hw1,AD,hfr⟩
  |enter ho hx=>exact .inr ⟨_,fr::l,w1,_,fr'::l',w1',_,_,σ,h2,λT hT=>DT kt.1 k1 (h1 T hT),DT kt.2 k2 hr',.cons (vQ E1 ho hx (.inl rfl)) (.cons hf1 hl1),iE.cons.2 hb,hg,hw1,AD,hfr⟩
  |round a b hr hx ho ha hc=>exact .inr ⟨_,fr::l,w1,_,fr'::l',w1',_,_,σ,h2,λT hT=>DU k1 (h1 T hT),DU k2 hr',.cons (Hw E1 hr hx ho ha hc (.inl rfl)) (.cons hf1 hl1),iE.cons.2 hb,hg,hw1,AD,hfr⟩
  | @defer d d' hd=>have hf2:gT P σ S {fr with defers:=d::fr.defers} {fr' with defers:=d'::fr'.defers}:=⟨hf1.fn,hf1.ok,hf1.tmps,hf1.todo,.cons hd hf1.defers,hf1.mode,hf1.kind,hf1.kindOk,hf1.round⟩;exact .inr ⟨_,l,w1,_,l',w1',_,_,σ,h2,λT hT=>DV k1 (h1 T hT),DV k2 hr',.cons (hf2.finish (.inl mP) λ_ _ _ _ _ _ _ _=>mP) hl1,hb.same (dF _ _).1 (dF _ _).2,hg,hw1,AD,hfr⟩
theorem QI(E:Env P ρ S){fr fr':Frame}{l l':List Frame}(hf:gT P ρ S fr fr')(hl:mz P ρ S l l')(hb:iE fr l){s s':Sem ae}(hs:aP P VT ρ s s')(hd:∀ops i r t,fr.todo=.inRegion ops (i::r)::t->∀d,(ops[i]?).bind (·.dst)=some d->S fr.fn d=true){w w':aa}(hw:WR P ρ w w'):
 Goes P ρ S c0 ext w w' (λw=>stepG.apply P true fr (l++[c0]) none (do Pure.pure (.value (<-s))) w) (stepG.apply P true fr' (l'++ext) none (do Pure.pure (.value (<-s'))) w'):=by
 have hs2:aP P (λσ x y=>∃v v',x=Next.value v/\y=Next.value v'/\VT σ v v') ρ (do Pure.pure (.value (<-s))) (do Pure.pure (.value (<-s'))):=aq hs λσ a b l h=>aB ⟨a,b,rfl,rfl,h⟩;obtain⟨m,ts,res,h1,h2,h3⟩:=hs2.run w w' #[] #[] hw .nil;have k1:=xL hf.kindOk;have k2:(fr'.kind==CallKind.early)=false:=by rw[hf.kind];exact k1
 generalize hr':(do Pure.pure (.value (<-s')):Sem Next).runT P w' #[]=r' at h3;refine⟨m,ts,?_⟩;cases h3 with
 |fQ hd=>exact .inl λT hT=>H6 E.early hd (h1 T hT)
 | @panic σ v v' w1 w1' es1 mi hg hv hw1 hls hfr=>exact zcV
 | @ok σ a b w1 w1' es1 mi hg hA hw1 hls hfr=>
  obtain⟨v,v',rfl,rfl,hv⟩:=hA;have AD:eG σ (seen P fr.fn es1).toList (seen P fr'.fn mi).toList:=by rw[hf.fn];exact lG _ hls
  exact .inr ⟨_,l,w1,_,l',w1',_,_,σ,h2,λT hT=>sS k1 (h1 T hT),sS k2 hr',.cons ((hf.mono hg.le).finish hv λops i r t ht d hd2 hq=>by rw[hd ops i r t ht d hd2]at hq;cases hq) (hl.mono hg.le),hb.same (dF _ _).1 (dF _ _).2,hg,hw1,AD,hfr⟩
theorem Goes.ctl{w w':aa}{L:aa->GStep}{R:GStep}{jD fc:Frame}{l1 ig:List Frame}(hL:∀W,L W=.go (gr jD (l1++[c0])) W #[])(hR:R=.go (gr fc (ig++ext)) w' #[])
 (hf:gT P ρ S jD fc)(hl:mz P ρ S l1 ig)(hb:iE jD l1)(hw:WR P ρ w w'):Goes P ρ S c0 ext w w' L R:=
 ⟨0,λ_ _=>0,.inr ⟨jD,l1,w,fc,ig,w',#[],#[],ρ,rfl,λ_ _=>hL _,hR,.cons hf hl,hb,Grow.refl _ _,hw,.nil,gM.refl _ _⟩⟩
theorem Goes.ended{w w':aa}{L:aa->GStep}{R:GStep}(hL:∀W,∃o w1 es,L W=.ended o w1 es):Goes P ρ S c0 ext w w' L R:=⟨0,λ_ _=>0,.inl λ_ _=>hL _⟩
theorem WR.drew{w w':aa}(hw:WR P ρ w w'):WR P ρ {w with drawn:=w.drawn+1} {w' with drawn:=w'.drawn+1}:=
 ⟨hw.own,λx hx hd=>⟨(hw.low x hx hd).row⟩,λx hx=>⟨(hw.dead x hx).row⟩,λx hx=>⟨(hw.tab x hx).row⟩,hw.os,hw.CC,hw.CE⟩
theorem nE.drop:∀{c c':List PanicEntry},nE ρ c c'->nE ρ (c.dropWhile (!·.goexit)) (c'.dropWhile (!·.goexit))
 |_,_,.nil=>.nil
 |_,_,.cons (x:=x) (x':=x') (l:=l) (l':=l') a b=>by rw[List.dropWhile_cons,List.dropWhile_cons,a.Xy];split;exact b.drop;exact .cons a b
theorem yO{main:Bool}{fr fr' c c':Frame}{l l':List Frame}(hk:fr'.kind=fr.kind)(hko:fr.kind=.normal\/fr.kind=.deferred)(hc:gT P ρ S c c'){v v':ae}(hv:VR ρ v v'):
 ∃c1 c1',(∀w,doReturn P true fr (c::l) none v w=.go (gr c1 l) w #[])/\(∀w,doReturn P main fr' (c'::l') none v' w=.go (gr c1' l') w #[])/\gT P ρ S c1 c1'/\c1.kind=c.kind/\c1.roundOf=c.roundOf:=by
 rcases hko with h|h;exact⟨c.finish v,c'.finish v',λw=>by simp only[doReturn,h];rfl,λw=>by simp only[doReturn,hk,h];rfl,hc.finish (.inl hv) λ_ _ _ _ _ _ _ _=>hv,(dF _ _).1,(dF _ _).2⟩
 ·have hm:=hc.mode;obtain⟨g,tm,td,df,md,kd,rn⟩:=c;obtain⟨g',tm',ZK,df',md',kd',rn'⟩:=c';dsimp only at hm;cases hm with
  |run=>exact zcU
  |returning=>exact zcU
  |panicking hp=>
   cases hp with
   |nil=>exact zcU
   | @cons x x' o o' hx ho=>
    obtain⟨xv,xr,xg⟩:=x;obtain⟨ZL,QJ,XB⟩:=x';have e1:QJ=xr:=hx.rc;subst e1;cases QJ with
    |false=>exact zcU
    |true=>
     have hd:=ho.drop;have e1:∀(fr:Frame)(main:Bool)(g:Nat) tm td df xv xg (o:List PanicEntry) kd rn (l:List Frame)(v:ae)(w:aa),fr.kind=.deferred->doReturn P main fr ({fn:=g,tmps:=tm,todo:=td,defers:=df,mode:=.panicking ({v:=xv,recovered:=true,goexit:=xg}::o),kind:=kd,roundOf:=rn}::l) none v w=
      .go (gr {fn:=g,tmps:=tm,todo:=td,defers:=df,mode:=(match o.dropWhile (!·.goexit)with|[]=>.returning|r=>.panicking r),kind:=kd,roundOf:=rn} l) w #[]:=by
      intro fr main g tm td df xv xg o kd rn l v w h;simp only[doReturn,h];cases o.dropWhile (!·.goexit)<;>rfl
     refine⟨_,_,λw=>e1 _ _ _ _ _ _ _ _ _ _ _ _ _ _ h,λw=>e1 _ _ _ _ _ _ _ _ _ _ _ _ _ _ (hk.trans h),⟨hc.fn,hc.ok,hc.tmps,hc.todo,hc.defers,?_,hc.kind,hc.kindOk,hc.round⟩,rfl,rfl⟩;show Hv ρ (match o.dropWhile (!·.goexit)with|[]=>.returning|r=>.panicking r) (match o'.dropWhile (!·.goexit)with|[]=>.returning|r=>.panicking r);revert hd;generalize o.dropWhile (!·.goexit)=a;generalize o'.dropWhile (!·.goexit)=b;intro hd;cases hd with
     |nil=>exact .returning
     |cons p q=>exact .panicking (.cons p q)
theorem CO{fr fr':Frame}(hf:gT P ρ S fr fr'){l l':List Frame}(hl:mz P ρ S l l')(hb:iE fr l):
 (tryRecover fr (l++[c0])=none/\tryRecover fr' (l'++ext)=none)\/∃v v' l1 ig,tryRecover fr (l++[c0])=some (v,l1++[c0])/\tryRecover fr' (l'++ext)=some (v',ig++ext)/\VR ρ v v'/\mz P ρ S l1 ig/\(∀x:Frame,iE x l->iE x l1):=by
 rcases hf.kindOk with h|h;refine .inl ⟨?_,?_⟩;unfold tryRecover;rw[h];unfold tryRecover;rw[hf.kind,h]
 ·have h':fr'.kind=.deferred:=hf.kind.trans h;cases hl with
  |nil=>exact absurd (show fr.kind=.normal by simpa[iE]using hb.1) (by rw[h];simp)
  | @cons c c' l l' hc hl=>
   have hm:=hc.mode;obtain⟨g,tm,td,df,md,kd,rn⟩:=c;obtain⟨g',tm',ZK,df',md',kd',rn'⟩:=c';dsimp only at hm;have e1:∀(fr:Frame)(c:Frame)(l:List Frame),fr.kind=.deferred->tryRecover fr (c::l)=match c.mode with
    |.panicking ({v,recovered:=false,goexit:=false}::older)=>some (v,{c with mode:=.panicking ({v,recovered:=true}::older)}::l)
    |_=>none:=λfr c l h=>by unfold tryRecover;rw[h];rfl
   rw[List.cons_append,List.cons_append,e1 _ _ _ h,e1 _ _ _ h'];dsimp only;cases hm with
   |run=>exact zc9
   |returning=>exact zc9
   |panicking hp=>
    cases hp with
    |nil=>exact zc9
    | @cons x x' o o' hx ho=>
     obtain⟨xv,xr,xg⟩:=x;obtain⟨ZL,QJ,XB⟩:=x';have e1:QJ=xr:=hx.rc;have e2:XB=xg:=hx.Xy;subst e1 e2;cases QJ<;>cases XB
     ·refine .inr ⟨xv,ZL,_::l,_::l',rfl,rfl,hx.v,.cons ⟨hc.fn,hc.ok,hc.tmps,hc.todo,hc.defers,.panicking (.cons ⟨hx.v,rfl,rfl⟩ ho),hc.kind,hc.kindOk,hc.round⟩ hl,λx hx=>?_⟩;exact iE.cons.2 ((iE.cons.1 hx).same rfl rfl)
     all_goals exact .inl ⟨rfl,rfl⟩
theorem AE(E:Env P ρ S){f:Nat}{fn:Func}(ho:ρ.ok f)(hf:P.funcs[f]?=some fn){t t':bw}(ht:ue ρ (S f) t t'):aP P cI ρ (results fn t) (results fn t'):=by
 unfold results;refine aq (A:=AR) ?_ λσ a b l h=>?_
 ·have hr:=E.res f fn ho hf;have key:∀(l:List ResultVar)(ρ':Rn),ρ.Le ρ'->(∀r∈l,match r with|.tmp t=>S f t=false|.cell a _=>S f a=false)->aP P (λσ a b=>LR σ a b) ρ' (l.mapM fun
   |.tmp i=>Pure.pure (t.getD i undef)
   |.cell a ty=>do loadVar ty (<-asAddr (t.getD a undef))) (l.mapM fun
   |.tmp i=>Pure.pure (t'.getD i undef)
   |.cell a ty=>do loadVar ty (<-asAddr (t'.getD a undef))):=by
   intro l
   induction l with
   |nil=>intro ρ' _ _;exact aB .nil
   |cons r l ih=>
    intro ρ' hle h;rw[List.mapM_cons,List.mapM_cons];refine aq (A:=cI) ?_ λσ a b l1 hab=>aq (ih σ (hle.trans l1) λr' hr'=>h r' (by simp[hr'])) λτ as bs l2 has=>aB (.cons (hab.mono l2) has);have h0:=h r sM;cases r with
    |tmp i=>exact aB ((((ht.mono hle).getD i).1) h0)
    |cell a ty=>exact aq (sL E.pf (E.kf.mono hle) ((((ht.mono hle).getD a).1) h0)) λ_ _ _ l k=>jZ ty k
  have:=key fn.results.toList ρ (Rn.Le.refl _) hr;rw[Array.mapM_eq_mapM_toList,Array.mapM_eq_mapM_toList];exact Kz this λσ a b h=>by unfold AR;simpa using h
 ·have hs:=h.size;have hg:AR σ a b:=h;by_cases h1:a.size=1;(have h2:b.size=1:=by rw[hs];exact h1);rw[dif_pos h1,dif_pos h2];rcases hg.get 0 with⟨k1,_⟩|⟨v,v',k1,k2,k3⟩;rw[Array.getElem?_eq_none_iff]at k1;omega;rw[aZ oM]at k1 k2;cases k1;cases k2;exact aB k3;rw[dif_neg h1,dif_neg (by rw[hs];exact h1)];exact aB (.tuple hg)
theorem Goes.of{α:Type}{A:Rn->α->α->Prop}{s s':Sem α}(hs:aP P A ρ s s'){w w':aa}(hw:WR P ρ w w'){L:aa->GStep}{R:GStep}{fn fn':Nat}(hfn:fn'=fn)
 (XC:∀h W W1 es,fQ h=true->s.runT P W #[]=(.halt h W1,es)->∃o w1 es,L W=.ended o w1 es)
 (ZM:∀σ v v',ρ.Le σ->VR σ v v'->(∀W W1 es,s.runT P W #[]=(.halt (.panic v) W1,es)->∃o w1 es,L W=.ended o w1 es)\/
  ∃jD l1 fc ig,(∀W W1 es,s.runT P W #[]=(.halt (.panic v) W1,es)->L W=.go (gr jD (l1++[c0])) W1 (seen P fn es))/\(∀W1 es,s'.runT P w' #[]=(.halt (.panic v') W1,es)->R=.go (gr fc (ig++ext)) W1 (seen P fn' es))/\gT P σ S jD fc/\mz P σ S l1 ig/\iE jD l1)
 (hok:∀σ a b,ρ.Le σ->A σ a b->(∀W W1 es,s.runT P W #[]=(.ok a W1,es)->∃o w1 es,L W=.ended o w1 es)\/
  ∃jD l1 fc ig,(∀W W1 es,s.runT P W #[]=(.ok a W1,es)->L W=.go (gr jD (l1++[c0])) W1 (seen P fn es))/\(∀W1 es,s'.runT P w' #[]=(.ok b W1,es)->R=.go (gr fc (ig++ext)) W1 (seen P fn' es))/\gT P σ S jD fc/\mz P σ S l1 ig/\iE jD l1):
 Goes P ρ S c0 ext w w' L R:=by
 obtain⟨m,ts,res,h1,h2,h3⟩:=hs.run w w' #[] #[] hw .nil;generalize hr':s'.runT P w' #[]=r' at h3;refine⟨m,ts,?_⟩;cases h3 with
 |fQ hd=>exact .inl λT hT=>XC _ _ _ _ hd (h1 T hT)
 | @panic σ v v' w1 w1' es1 mi hg hv hw1 hls hfr=>rcases ZM σ v v' hg.le hv with k|⟨jD,l1,fc,ig,k1,k2,k3,k4,k5⟩;exact .inl λT hT=>k _ _ _ (h1 T hT);exact zcZ
 | @ok σ a b w1 w1' es1 mi hg hA hw1 hls hfr=>rcases hok σ a b hg.le hA with k|⟨jD,l1,fc,ig,k1,k2,k3,k4,k5⟩;exact .inl λT hT=>k _ _ _ (h1 T hT);exact zcZ
theorem Lh{f f':ae}(hf:VR ρ f f'){xs xs':bw}(hx:AR ρ xs xs'):aP P GS ρ (Deferred.ofValue f xs) (Deferred.ofValue f' xs'):=by
 unfold Deferred.ofValue;cases hf
 case func hf h1 h2=>exact aB ⟨.fn hf h2,AR.append h1 hx⟩
 case nilFunc=>exact aB ⟨.nil,hx⟩
 all_goals exact aC
theorem sU(es:Array Event)(g:aG)(w:aa)(es':Array Event):GStep.after es (.go g w es')=.go g w (es++es'):=rfl
theorem E3(E:Env P ρ S){fr fr':Frame}{l l':List Frame}(hf:gT P ρ S fr fr')(hl:mz P ρ S l l')(hb:iE fr l){w w':aa}(hw:WR P ρ w w'){main:Bool}
 {g:Operand}{ps:Array Tmp}{a b:Code}{k k':List Item}(ht:fr.todo=.code (.rangeFunc g ps a b)::k)(ht':fr'.todo=.code (.rangeFunc g ps a b)::k')
 (hc:fU P ρ fr.fn (S fr.fn) fr.roundOf.isSome (.rangeFunc g ps a b))(hk:qW P ρ fr.fn (S fr.fn) fr.roundOf.isSome k k'):
 Goes P ρ S c0 ext w w' (λw=>stepG.exec P true true fr (l++[c0]) none w) (stepG.exec P main true fr' (l'++ext) none w'):=by
 obtain⟨hg,hS,ha,hb2⟩:=hc;have hx:AR ρ fr.tmps fr'.tmps:=hf.tmps.to hS;have hs:=EY (P:=P) fr.fn hx ps a b ⟨hf.ok,ha,hb2⟩ hf.round;obtain⟨m,ts,res,h1,h2,h3⟩:=hs.run w w' #[] #[] hw .nil;rw[<-hf.fn]at h3;have er:∀(x:Frame)(v:ae),resolve x.eval {callee:=.value g,args:=#[.const v],argTypes:=#[]} 0=Deferred.ofValue (x.eval g) #[v]:=λx v=>by simp[resolve,Frame.eval]
 have ev:∀(x:Frame) t d,Frame.eval {x with todo:=t,defers:=d} g=x.eval g:=λx t d=>by cases g<;>rfl
 have eL:∀W,stepG.exec P true true fr (l++[c0]) none W=match(Instr.enterLoop fr.fn fr.tmps ps a b fr.roundOf).runT P W #[]with
  |(r,es)=>GStep.after (seen P fr.fn es) (match r with
   |.ok (i,mark) w=>stepG.apply P true {fr with todo:=.inRangeFunc i::k,defers:=mark++fr.defers} (l++[c0]) none (do
    let d<-Deferred.ofValue (fr.eval g) #[.func (.yield i) #[] #[]]
    invoke d.target d.args) w
   |.halt _ w=>.ended (.stuck "range over a function: no such loop" (fr.pos P)) w):=λW=>by
  unfold stepG.exec;rw[ht];dsimp only;simp only[er,ev];rfl
 have eR:stepG.exec P main true fr' (l'++ext) none w'=match(Instr.enterLoop fr'.fn fr'.tmps ps a b fr'.roundOf).runT P w' #[]with
  |(r,es)=>GStep.after (seen P fr'.fn es) (match r with
   |.ok (i,mark) w=>stepG.apply P true {fr' with todo:=.inRangeFunc i::k',defers:=mark++fr'.defers} (l'++ext) none (do
    let d<-Deferred.ofValue (fr'.eval g) #[.func (.yield i) #[] #[]]
    invoke d.target d.args) w
   |.halt _ w=>.ended (.stuck "range over a function: no such loop" (fr'.pos P)) w):=by
  unfold stepG.exec;rw[ht'];dsimp only;simp only[er,ev];rfl
 rw[eR];generalize hr':(Instr.enterLoop fr'.fn fr'.tmps ps a b fr'.roundOf).runT P w' #[]=r' at h3⊢;cases h3 with
 |fQ hd=>exact zc7
 | @panic σ v v' w1 w1' es1 mi hg hv hw1 hls hfr=>exact zc7
 | @ok σ x y w1 w1' es1 mi hg2 hA hw1 hls hfr=>
  obtain⟨i,mk⟩:=x;obtain⟨i',mk'⟩:=y;have hi:σ.r i i':=hA.1;have hm:qK σ mk mk':=hA.2;have hf1:=hf.mono hg2.le;have E1:=E.mono hg2.le;have hf2:gT P σ S {fr with todo:=.inRangeFunc i::k,defers:=mk++fr.defers} {fr' with todo:=.inRangeFunc i'::k',defers:=mk'++fr'.defers}:=
   ⟨hf1.fn,hf1.ok,hf1.tmps,.cons (.qV hi) (hk.mono hg2.le),hm.append hf1.defers,hf1.mode,hf1.kind,hf1.kindOk,hf1.round⟩
  have hs2:aP P iu σ (do
   let d<-Deferred.ofValue (fr.eval g) #[.func (.yield i) #[] #[]]
   invoke d.target d.args) (do
   let d<-Deferred.ofValue (fr'.eval g) #[.func (.yield i') #[] #[]]
   invoke d.target d.args):=by
   refine aq (Lh (hf1.eval (hg.mono hg2.le)) (.cons (.func (.yield hi) LR.nil LR.nil) .nil)) λτ d d' l2 hd=>?_;have E2:=E1.mono l2;exact sQ E2.pf E2.kf E2.xf E2.mf hd.target hd.args
  obtain⟨m2,QK,h⟩:=qX (c0:=c0) (ext:=ext) E1 hf2 (hl.mono hg2.le) (hb.same (jD:={fr with todo:=.inRangeFunc i::k,defers:=mk++fr.defers}) rfl rfl) hs2 hw1;have hdr:w1.drawn=w.drawn+m:=h2;refine⟨m+m2,λj=>if j<m then ts j else QK (j-m),?_⟩;have sp:∀T,CN w (m+m2) (λj=>if j<m then ts j else QK (j-m)) T->CN w m ts T/\CN w1 m2 QK T:=λT hT=>⟨λj hj=>by have:=hT j oM;dsimp only at this;rwa[if_pos hj]at this,λj hj=>by
   have:=hT (m+j) oM;dsimp only at this;rw[if_neg oM,Nat.add_sub_cancel_left]at this;rw[hdr,Nat.add_assoc];exact this⟩
  rcases h with h|⟨jD,l1,w2,fc,ig,w2',es2,ZN,τ,g1,g2,g3,g4,g5,g6,g7,g8,g9⟩;refine .inl λT hT=>?_;obtain⟨q1,q2⟩:=sp T hT;obtain⟨o,w3,es3,e⟩:=h T q2;exact⟨o,w3,_,(eL _).trans (by rw[h1 T q1];show GStep.after _ (stepG.apply P true _ (l++[c0]) none _ (on w1 T))=_;dsimp only at e;rw[e];rfl)⟩;refine .inr ⟨jD,l1,w2,fc,ig,w2',seen P fr.fn es1++es2,seen P fr'.fn mi++ZN,τ,by rw[g1,hdr];omega,λT hT=>?_,?_,g4,g5,hg2.trans g6 hfr.size g9.size,g7,?_,hfr.trans g9 λy hy ⟨x,hx⟩=>?_⟩;obtain⟨q1,q2⟩:=sp T hT;refine(eL _).trans ?_;rw[h1 T q1];show GStep.after _ (stepG.apply P true _ (l++[c0]) none _ (on w1 T))=_;have e:=g2 T q2;dsimp only at e;rw[e];rfl;dsimp only;rw[g3];rfl;rw[cV,cV];refine eG.app (eG.mono g6.le ?_) g8;rw[hf.fn];exact lG _ hls;rcases hg2.new x y hx with k|k;exact⟨x,k⟩;omega
theorem gT.to{fr fr':Frame}(hf:gT P ρ S fr fr'){t t':List Item}(h:qW P ρ fr.fn (S fr.fn) fr.roundOf.isSome t t'):gT P ρ S {fr with todo:=t} {fr' with todo:=t'}:=
 ⟨hf.fn,hf.ok,hf.tmps,h,hf.defers,hf.mode,hf.kind,hf.kindOk,hf.round⟩
def QL:Option Code->Bool
 |none|some .ret=>true
 |_=>false
theorem vR{fr fr':Frame}{l l':List Frame}(hf:gT P ρ S fr fr')(hl:mz P ρ S l l')(hb:iE fr l){w w':aa}(hw:WR P ρ w w'){main:Bool}(j:Option Code)(hj:∀c,j=some c->GV c)
 {L:aa->GStep}{R:GStep}
 (hL0:fr.roundOf=none->∀W,L W=if QL j then .go (gr {fr with mode:=.returning} (l++[c0])) W #[]else .ended (.stuck "exit, goto: no such block or label" (fr.pos P)) W)
 (hL1:∀i,fr.roundOf=some i->∀W,L W=match(Instr.endRound i j).runT P W #[]with
  |(r,es)=>GStep.after (seen P fr.fn es) (match r with
   |.ok v w=>doReturn P true fr (l++[c0]) none v w
   |.halt _ w=>.ended (.stuck "range over a function: no such loop" (fr.pos P)) w))
 (hR0:fr'.roundOf=none->R=if QL j then .go (gr {fr' with mode:=.returning} (l'++ext)) w' #[]else .ended (.stuck "exit, goto: no such block or label" (fr'.pos P)) w')
 (xM:∀i,fr'.roundOf=some i->R=match(Instr.endRound i j).runT P w' #[]with
  |(r,es)=>GStep.after (seen P fr'.fn es) (match r with
   |.ok v w=>doReturn P main fr' (l'++ext) none v w
   |.halt _ w=>.ended (.stuck "range over a function: no such loop" (fr'.pos P)) w)):Goes P ρ S c0 ext w w' L R:=by
 rcases hf.round with⟨r1,r2⟩|⟨i,i',r1,r2,hr⟩
 ·have hL:=hL0 r1;have hR:=hR0 r2;cases hq:QL j with
  |true=>rw[hq]at hL hR;exact Goes.ctl hL hR ⟨hf.fn,hf.ok,hf.tmps,hf.todo,hf.defers,.returning,hf.kind,hf.kindOk,hf.round⟩ hl (hb.same rfl rfl) hw
  |false=>rw[hq]at hL;exact Goes.ended λW=>⟨_,_,_,hL W⟩
 ·have hL:=hL1 i r1;have hR:=xM i' r2;cases hl with
  |nil=>exact absurd (show fr.roundOf=none by simpa[iE]using hb.2) (by rw[r1];simp)
  | @cons c c' l l' hc hl=>refine Goes.of (fn:=fr.fn) (fn':=fr'.fn) (Ho (P:=P) hr j hj) hw hf.fn (λh W W1 es _ hr=>⟨_,_,_,by rw[hL,hr];rfl⟩) (λσ v v' _ _=>.inl λW W1 es hr=>⟨_,_,_,by rw[hL,hr];rfl⟩) λσ v v' hle hv=>.inr ?_;obtain⟨c1,c1',d1,d2,d3,d4,d5⟩:=yO (l:=l++[c0]) (l':=l'++ext) (main:=main) hf.kind hf.kindOk (hc.mono hle) (show VR σ v v' from hv);refine⟨c1,l,c1',l',λW W1 es hr=>?_,λW1 es hr=>?_,d3,hl.mono hle,(iE.cons.1 hb).same d4 d5⟩;rw[hL,hr];show GStep.after _ (doReturn P true fr (c::(l++[c0])) none v W1)=_;rw[d1,sU,bD];rw[hR,hr];show GStep.after _ (doReturn P main fr' (c'::(l'++ext)) none v' W1)=_;rw[d2,sU,bD]
theorem UG(E:Env P ρ S){fr fr':Frame}{l l':List Frame}(hf:gT P ρ S fr fr')(hl:mz P ρ S l l')(hb:iE fr l){w w':aa}(hw:WR P ρ w w')
 {ops:Array Oper}{i:Nat}{rest:List Nat}{k k':List Item}(ht:fr.todo=.inRegion ops (i::rest)::k)(ht':fr'.todo=.inRegion ops (i::rest)::k')(ho:∀o∈ops.toList,qa P ρ (S fr.fn) fr.roundOf.isSome o)(hst:∀o,ops[i]?=some o->¬Stp ρ o):
 Goes P ρ S c0 ext w w' (λw=>stepG.oper P true fr (l++[c0]) none w) (stepG.oper P true fr' (l'++ext) none w'):=by
 have e1:fr.oper?=ops[i]?:=by unfold Frame.oper?;rw[ht]
 have e2:fr'.oper?=ops[i]?:=by unfold Frame.oper?;rw[ht']
 cases hi:ops[i]? with
 |none=>exact Goes.ended λW=>⟨_,_,_,by unfold stepG.oper;rw[e1,hi]⟩
 |some o=>
  have hm:o∈ops.toList:=by rw[az]at hi;obtain⟨h,rfl⟩:=hi;simp
  have hd:∀ops' i' r t,fr.todo=.inRegion ops' (i'::r)::t->∀d,(ops'[i']?).bind (·.dst)=some d->o.dst=some d:=λops' i' r t h d hd=>by rw[ht]at h;simp only[List.cons.injEq,Item.inRegion.injEq]at h;obtain⟨⟨rfl,rfl,_⟩,_⟩:=h;rw[hi]at hd;exact hd
  have ap:∀(x:Frame)(cs:List Frame)(W:aa),x.oper?=ops[i]?->(x.roundOf=none\/∀c,o.op≠.defer c)->stepG.oper P true x cs none W=stepG.apply P true x cs none (execOp x.eval o) W:=λx cs W h1 h2=>by unfold stepG.oper;rw[h1,hi];dsimp only;split;rename_i h3 h4;rcases h2 with h2|h2;rw[h2]at h3;cases h3;exact absurd h4 (h2 _);rfl
  have hrr:fr.roundOf=none->fr'.roundOf=none:=λh=>by rcases hf.round with⟨_,r2⟩|⟨a,_,r1,_,_⟩;exact r2;rw[h]at r1;cases r1
  have nd:(fr.roundOf.isSome=true->∀c,o.op≠.defer c)->(fr.roundOf=none\/∀c,o.op≠.defer c)/\(fr'.roundOf=none\/∀c,o.op≠.defer c):=λh=>by
   cases hr:fr.roundOf with
   |none=>exact⟨.inl rfl,.inl (hrr hr)⟩
   |some a=>exact⟨.inr (h (by rw[hr];rfl)),.inr (h (by rw[hr];rfl))⟩
  rcases ho o hm with⟨h1,h2,h3⟩|⟨h1,⟨c,h2,h3⟩,h4⟩|⟨t,g,x,d,h1,h2,h3,h4,h5⟩|⟨t,x,h1,hx,h2⟩|h1;obtain⟨n1,n2⟩:=nd h3;rw[ap fr' _ _ e2 n2];have:(λw=>stepG.oper P true fr (l++[c0]) none w)=λw=>stepG.apply P true fr (l++[c0]) none (execOp fr.eval o) w:=funext λW=>ap fr _ _ e1 n1;rw[this];exact qX E hf hl hb (NZ E.pf E.kf E.xf E.mf (λx hx=>hf.eval hx) o h1) hw
  ·have hro:fr.roundOf=none:=by cases hr:fr.roundOf with
    |none=>rfl
    |some a=>rw[hr]at h1;cases h1
   (have hn:∀c',o.op≠.defer c':=λc' h=>by rw[h2]at h;cases h);have ex:∀e:Operand->ae,∃ts,∀W,(execOp e o).runT P W #[]=(.ok .recover W,ts):=λe=>⟨#[],λW=>by
    unfold execOp;rw[h2];dsimp only;unfold resolve;rw[h3];rfl⟩
   obtain⟨ts1,x1⟩:=ex fr.eval;obtain⟨QK,x2⟩:=ex fr'.eval;(have hts:ts1= #[]/\QK= #[]:=by (have k:∀e:Operand->ae,(execOp e o).runT P w #[]=(.ok .recover w,#[]):=λe=>by unfold execOp;rw[h2];dsimp only;unfold resolve;rw[h3];rfl);have a1:=(x1 w).symm.trans (k _);have a2:=(x2 w).symm.trans (k _);simp only[Prod.mk.injEq,true_and]at a1 a2;exact⟨a1,a2⟩);obtain⟨rfl,rfl⟩:=hts;have k1:=xL hf.kindOk;(have k2:(fr'.kind==CallKind.early)=false:=by rw[hf.kind];exact k1);(have sn:∀f,seen P f #[]= #[]:=λf=>by simp[seen]);rcases CO (c0:=c0) (ext:=ext) hf hl hb with⟨t1,t2⟩|⟨v,v',l1,ig,t1,t2,t3,t4,t5⟩;refine Goes.ctl (jD:=fr.finish .nilIface) (fc:=fr'.finish .nilIface) (l1:=l) (ig:=l') (λW=>?_) ?_ (hf.finish (.inl .nilIface) λ_ _ _ _ _ _ _ _=>.nilIface) hl (hb.same (dF _ _).1 (dF _ _).2) hw;exact zdi;exact zdd;refine Goes.ctl (jD:=fr.finish v) (fc:=fr'.finish v') (l1:=l1) (ig:=ig) (λW=>?_) ?_ (hf.finish (.inl t3) λ_ _ _ _ _ _ _ _=>t3) t4 (t5 _ (hb.same (dF _ _).1 (dF _ _).2)) hw;exact zdi;exact zdd
  ·(have hn:∀c',o.op≠.defer c':=λc' h=>by rw[h1]at h;cases h);(have ex:∀e:Operand->ae,execOp e o=(do Pure.pure (.value (<-Instr.indexAt t (e (.global g)) (e x)))):=λe=>by unfold execOp;rw[h1]);rw[ap fr' _ _ e2 (.inr hn),ex];(have:(λw=>stepG.oper P true fr (l++[c0]) none w)=λw=>stepG.apply P true fr (l++[c0]) none (do Pure.pure (.value (<-Instr.indexAt t (fr.eval (.global g)) (fr.eval x)))) w:=funext λW=>by rw[ap fr _ _ e1 (.inr hn),ex]);rw[this];refine QI E hf hl hb (N4 E.pf E.kf t (a:=⟨g,0,none⟩) h2 (hf.eval h3)) (λops' i' r t' h d' hd'=>?_) hw;have:=hd ops' i' r t' h d' hd';rw[h4]at this;cases this;exact h5
  ·(have hn:∀c',o.op≠.defer c':=λc' h=>by rw[h1]at h;cases h);(have hv:VT ρ (fr.eval x) (fr'.eval x):=by rcases hx with⟨s,rfl⟩|⟨g,rfl,hg⟩;exact hf.Xz s;exact .inr ⟨⟨g,0,none⟩,hg,rfl,rfl⟩);(have ex:∀e:Operand->ae,execOp e o=(do Pure.pure (.value (<-Instr.loadAt t (e x)))):=λe=>by unfold execOp;rw[h1]);rw[ap fr' _ _ e2 (.inr hn),ex];(have:(λw=>stepG.oper P true fr (l++[c0]) none w)=λw=>stepG.apply P true fr (l++[c0]) none (do Pure.pure (.value (<-Instr.loadAt t (fr.eval x)))) w:=funext λW=>by rw[ap fr _ _ e1 (.inr hn),ex]);rw[this];exact qX E hf hl hb (aq (N5 t hv) λ_ _ _ _ h=>aB (.value h)) hw
  ·exact absurd h1 (hst o hi)
theorem UH(E:Env P ρ S){fr fr':Frame}{l l':List Frame}(hf:gT P ρ S fr fr')(hl:mz P ρ S l l')(hb:iE fr l){w w':aa}(hw:WR P ρ w w'){main:Bool}(hst:∀ops i rest k,fr.todo=.inRegion ops (i::rest)::k->∀o,ops[i]?=some o->¬Stp ρ o):
 Goes P ρ S c0 ext w w' (λw=>stepG.exec P true true fr (l++[c0]) none w) (stepG.exec P main true fr' (l'++ext) none w'):=by
 have to:∀{t t':List Item},qW P ρ fr.fn (S fr.fn) fr.roundOf.isSome t t'->(∀W,stepG.exec P true true fr (l++[c0]) none W=.go (gr {fr with todo:=t} (l++[c0])) W #[])->stepG.exec P main true fr' (l'++ext) none w'=.go (gr {fr' with todo:=t'} (l'++ext)) w' #[]->
  Goes P ρ S c0 ext w w' (λw=>stepG.exec P true true fr (l++[c0]) none w) (stepG.exec P main true fr' (l'++ext) none w'):=λh h1 h2=>
  Goes.ctl h1 h2 (hf.to h) hl (hb.same rfl rfl) hw
 have hk:=hf.todo
 generalize ht:fr.todo=td,ht':fr'.todo=ZK at hk;cases hk with
 |nil=>refine vR (main:=main) hf hl hb hw none (λc h=>by cases h) (λr W=>?_) (λi r W=>?_) (λr=>?_) λi r=>?_;exact zc4;exact zc4;exact zc3;exact zc3
 | @cons x x' k k' hx hk=>
  have lv:∀(j:Option Code),(∀c,j=some c->GV c)->True:=λ_ _=>trivial;cases hx with
  |inBlock id=>exact zdm
  |inScope c=>exact zdm
  |inLoop c=>exact to (.cons (.code c) (.cons (.inLoop c) hk)) (λW=>zdj) zcS
  |qV r=>exact zda
  |nk r=>
   refine Goes.of (fn:=fr.fn) (fn':=fr'.fn) (Lc (P:=P) E.pf E.kf r) hw hf.fn (λh W W1 es hd hr=>?_) (λσ v v' hle hv=>.inr ?_) λσ a b hle hab=>.inr ?_
   ·refine⟨.stuck "range over a function: no such loop" (fr.pos P),W1,seen P fr.fn es,?_⟩;unfold stepG.exec;rw[ht];dsimp only;rw[hr];cases h<;>first|(cases hd;done)|rfl
   ·refine⟨fr.raise [{v:=v,recovered:=false}],l,fr'.raise [{v:=v',recovered:=false}],l',λW W1 es hr=>?_,λW1 es hr=>?_,(hf.mono hle).raise (.cons ⟨hv,rfl,rfl⟩ .nil),hl.mono hle,hb.same (fY _ _).1 (fY _ _).2⟩;unfold stepG.exec;rw[ht];dsimp only;rw[hr];rfl;unfold stepG.exec;rw[ht'];dsimp only;rw[hr];rfl
   ·obtain⟨rfl,hj⟩:=hab;have hk2:qW P σ fr.fn (S fr.fn) fr.roundOf.isSome ((a.map Item.code).toList++k) ((a.map Item.code).toList++k'):=by
     cases a with
     |none=>exact hk.mono hle
     |some c=>refine .cons (.code ?_) (hk.mono hle);have:=hj c rfl;cases c<;>first|exact this.elim|trivial
    refine⟨_,l,_,l',λW W1 es hr=>?_,λW1 es hr=>?_,(hf.mono hle).to hk2,hl.mono hle,hb.same rfl rfl⟩;unfold stepG.exec;rw[ht];dsimp only;rw[hr];rfl;unfold stepG.exec;rw[ht'];dsimp only;rw[hr];rfl
  |beginRound=>rcases hf.round with⟨r1,r2⟩|⟨i,i',r1,r2,hr⟩;(have:(λW=>stepG.exec P true true fr (l++[c0]) none W)=λW=>stepG.apply P true fr (l++[c0]) none (do(stuck "beginRound: no round" :Sem Unit);Pure.pure .skip) W:=funext λW=>by unfold stepG.exec;rw[ht];dsimp only;rw[r1];rfl);rw[this];(have:stepG.exec P main true fr' (l'++ext) none w'=stepG.apply P true fr' (l'++ext) none (do(stuck "beginRound: no round" :Sem Unit);Pure.pure .skip) w':=by unfold stepG.exec;rw[ht'];dsimp only;rw[r2];rfl);rw[this];exact qX E hf hl hb (aq (A:=vJ Unit Unit) aC λ_ _ _ _ _=>aB .skip) hw;(have:(λW=>stepG.exec P true true fr (l++[c0]) none W)=λW=>stepG.apply P true fr (l++[c0]) none (do Instr.beginRound i;Pure.pure .skip) W:=funext λW=>by unfold stepG.exec;rw[ht];dsimp only;rw[r1];rfl);rw[this];(have:stepG.exec P main true fr' (l'++ext) none w'=stepG.apply P true fr' (l'++ext) none (do Instr.beginRound i';Pure.pure .skip) w':=by unfold stepG.exec;rw[ht'];dsimp only;rw[r2];rfl);rw[this];exact qX E hf hl hb (aq (CJ E.pf E.kf hr) λ_ _ _ _ _=>aB .skip) hw
  | @inRegion ops todo ho=>
   cases todo with
   |nil=>exact zdm
   |cons i rest=>
    have hy:yielded ops fr'.tmps=yielded ops fr.tmps:=funext λj=>hf.yielded ops j;cases hq:((ops[i]?).map (Region.wanted · (yielded ops fr.tmps))).getD false with
    |true=>(have:(λW=>stepG.exec P true true fr (l++[c0]) none W)=λW=>stepG.oper P true fr (l++[c0]) none W:=funext λW=>by unfold stepG.exec;rw[ht];dsimp only;rw[if_pos hq]);rw[this];(have:stepG.exec P main true fr' (l'++ext) none w'=stepG.oper P true fr' (l'++ext) none w':=by unfold stepG.exec;rw[ht'];dsimp only;rw[if_pos (by rw[hy];exact hq)]);rw[this];exact UG E hf hl hb hw ht ht' ho (hst _ _ _ _ ht)
    |false=>refine Goes.ctl (jD:=fr.finish undef) (fc:=fr'.finish undef) (l1:=l) (ig:=l') (λW=>?_) ?_ (hf.finish (.inl mP) λ_ _ _ _ _ _ _ _=>mP) hl (hb.same (dF _ _).1 (dF _ _).2) hw;unfold stepG.exec;rw[ht];dsimp only;rw[if_neg (by rw[hq];simp)];rfl;unfold stepG.exec;rw[ht'];dsimp only;rw[if_neg (by rw[hy,hq];simp)];rfl
  | @code c hc=>
   cases c with
   |skip=>exact zdm
   |label i=>exact zdm
   |seq a b=>exact to (.cons (.code hc.1) (.cons (.code hc.2) hk)) (λW=>zdj) zcS
   |block i a=>exact to (.cons (.code (c:=a) hc) (.cons (.inBlock i) hk)) (λW=>zdj) zcS
   |loop a=>exact to (.cons (.code (c:=a) hc) (.cons (.inLoop (c:=a) hc) hk)) (λW=>zdj) zcS
   |scope a=>exact to (.cons (.code (c:=a) hc) (.cons (.inScope (c:=a) hc) hk)) (λW=>zdj) zcS
   |refuse s=>exact zda
   |cond o a b=>
    have hv:=hf.eval hc.1;cases hq:fr.eval o with
    |bool z=>(have hq':fr'.eval o=.bool z:=by rw[hq]at hv;generalize fr'.eval o=u at hv;cases hv;rfl);refine to (t:=.code (if z then a else b)::k) (t':=.code (if z then a else b)::k') (.cons (.code ?_) hk) (λW=>by unfold stepG.exec;rw[ht];dsimp only;rw[hq];rfl) (by unfold stepG.exec;rw[ht'];dsimp only;rw[hq'];rfl);split;exact hc.2.1;exact hc.2.2
    |_=>exact Goes.ended λW=>⟨_,_,_,by unfold stepG.exec;rw[ht];dsimp only;rw[hq]⟩
   |ret=>refine vR (main:=main) hf hl hb hw (some .ret) (λc h=>by cases h;trivial) (λr W=>?_) (λi r W=>?_) (λr=>?_) λi r=>?_;exact zc4;exact zc4;exact zc3;exact zc3
   |exit id=>rcases DO id hk with⟨q1,q2⟩|⟨r,r',q1,q2,hr⟩;refine vR (main:=main) hf hl hb hw (some (.exit id)) (λc h=>by cases h;trivial) (λr W=>?_) (λi r W=>?_) (λr=>?_) λi r=>?_;exact zc1;exact zc1;exact zc0;exact zc0;exact zc2
   |goto i=>rcases DR i hk with⟨q1,q2⟩|⟨r,r',q1,q2,hr⟩;refine vR (main:=main) hf hl hb hw (some (.goto i)) (λc h=>by cases h;trivial) (λr W=>?_) (λi r W=>?_) (λr=>?_) λi r=>?_;exact zc1;exact zc1;exact zc0;exact zc0;exact zc2
   |rangeFunc g ps a b=>exact E3 E hf hl hb hw ht ht' hc hk
   |region id ops draw=>
    cases draw with
    |false=>exact to (t:=.inRegion ops (List.range ops.size)::k) (t':=.inRegion ops (List.range ops.size)::k') (.cons (.inRegion _ hc) hk) (λW=>zdj) zcS
    |true=>refine⟨1,λ_=>w'.tape w'.drawn,.inr ⟨{fr with todo:=.inRegion ops (Region.schedule (P.follows .mixedOrders) ops (w'.tape w'.drawn (.order fr.fn id)))::k},l,{w with drawn:=w.drawn+1},{fr' with todo:=.inRegion ops (Region.schedule (P.follows .mixedOrders) ops (w'.tape w'.drawn (.order fr'.fn id)))::k'},l',{w' with drawn:=w'.drawn+1},#[],#[],ρ,rfl,λT hT=>?_,?_,.cons (hf.to (.cons (by rw[hf.fn];exact .inRegion _ hc) hk)) hl,hb.same rfl rfl,⟨Rn.Le.refl _,λ_ _ h=>.inl h⟩,hw.drew,.nil,⟨rfl,rfl,rfl,Nat.le_succ _,aj _,λ_ _ _=>rfl⟩⟩⟩;have h0:T w.drawn=w'.tape w'.drawn:=hT 0 oM;unfold stepG.exec;rw[ht];dsimp only;have e:(choose (.order fr.fn id)).run P (on w T)=.ok (T w.drawn (.order fr.fn id)) (on {w with drawn:=w.drawn+1} T):=rfl;rw[e,h0];rfl;exact zcS
theorem gT.QM{fr fr':Frame}(hf:gT P ρ S fr fr'){d d':List Deferred}(h:qK ρ d d'):gT P ρ S {fr with defers:=d} {fr' with defers:=d'}:=
 ⟨hf.fn,hf.ok,hf.tmps,hf.todo,h,hf.mode,hf.kind,hf.kindOk,hf.round⟩
theorem qD(E:Env P ρ S){fr fr':Frame}{l l':List Frame}(hf:gT P ρ S fr fr')(hl:mz P ρ S l l')(hb:iE fr l){w w':aa}(hw:WR P ρ w w'){d d':Deferred}(hd:GS ρ d d'):
 Goes P ρ S c0 ext w w' (λw=>callDeferred P fr (l++[c0]) none d w) (callDeferred P fr' (l'++ext) none d' w'):=by
 have hmm:(∃c c',fr.mode=.panicking c/\fr'.mode=.panicking c')\/((fr.mode=.run\/fr.mode=.returning)/\(fr'.mode=.run\/fr'.mode=.returning)):=by
  have:=hf.mode;revert this;generalize fr.mode=a;generalize fr'.mode=b;intro h;cases h with
  |run=>exact .inr ⟨.inl rfl,.inl rfl⟩
  |returning=>exact .inr ⟨.inr rfl,.inr rfl⟩
  |panicking c=>exact .inl ⟨_,_,rfl,rfl⟩
 have htt:(d.target=.nil/\d'.target=.nil)\/((∃f c,d.target=.fn f c)/\∃f c,d'.target=.fn f c)\/((∃r,d.target=.collected r)/\∃r,d'.target=.collected r):=by
  have:=hd.target;revert this;generalize d.target=a;generalize d'.target=b;intro h;cases h with
  |nil=>exact zc9
  |fn=>exact .inr (.inl ⟨⟨_,_,rfl⟩,_,_,rfl⟩)
  |collected=>exact .inr (.inr ⟨⟨_,rfl⟩,_,rfl⟩)
 by_cases hz:d.target=.nil/\∃c,fr.mode=.panicking c;obtain⟨h1,c,h2⟩:=hz;exact Goes.ended λW=>⟨_,_,_,by unfold callDeferred;rw[if_pos (by simp[h1,h2])]⟩;have hq:(∃f c,d.target=.fn f c)\/(∃r,d.target=.collected r)\/fr.mode=.run\/fr.mode=.returning:=by rcases htt with⟨k,_⟩|⟨k,_⟩|⟨k,_⟩;rcases hmm with⟨c,c',h1,h2⟩|⟨h1,h2⟩;exact absurd ⟨k,c,h1⟩ hz;exact .inr (.inr h1);exact .inl k;exact .inr (.inl k)
 have hq':(∃f c,d'.target=.fn f c)\/(∃r,d'.target=.collected r)\/fr'.mode=.run\/fr'.mode=.returning:=by rcases htt with⟨k,_⟩|⟨_,k⟩|⟨_,k⟩;rcases hmm with⟨c,c',h1,h2⟩|⟨h1,h2⟩;exact absurd ⟨k,c,h1⟩ hz;exact .inr (.inr h2);exact .inl k;exact .inr (.inl k)
 refine Goes.of (fn:=fr.fn) (fn':=fr'.fn) (sQ E.pf E.kf E.xf E.mf hd.target hd.args) hw hf.fn (λh W W1 es QN hr=>?_) (λσ v v' hle hv=>.inr ?_) λσ a b hle hab=>.inr ?_
 ·cases h<;>first|(cases QN;done)|exact⟨_,_,_,by unfold callDeferred;rw[if_neg zdk];simp only[hr];rfl⟩
 ·refine⟨fr.raise [{v:=v,recovered:=false}],l,fr'.raise [{v:=v',recovered:=false}],l',λW W1 es hr=>?_,λW1 es hr=>?_,(hf.mono hle).raise (.cons ⟨hv,rfl,rfl⟩ .nil),hl.mono hle,hb.same (fY _ _).1 (fY _ _).2⟩;unfold callDeferred;rw[if_neg zdk];simp only[hr,GStep.after,bD,gr];unfold callDeferred;rw[if_neg (by rcases hq' with⟨f,c,h⟩|⟨r,h⟩|h|h<;>simp[h])];simp only[hr,GStep.after,bD,gr]
 ·have E1:=E.mono hle;have hf1:=hf.mono hle;have hl1:=hl.mono hle;cases hab with
  |value hv=>exact zcR
  |skip=>exact zcR
  |defer hv=>exact zcR
  |enter ho hx=>exact⟨_,fr::l,_,fr'::l',λW W1 es hr=>zdl,λW1 es hr=>zcY,vQ E1 ho hx (.inr rfl),.cons hf1 hl1,iE.cons.2 hb⟩
  |round a b hr2 hx ho ha hc=>exact⟨_,fr::l,_,fr'::l',λW W1 es hr=>zdl,λW1 es hr=>zcY,Hw E1 hr2 hx ho ha hc (.inr rfl),.cons hf1 hl1,iE.cons.2 hb⟩
theorem DW(E:Env P ρ S){fr fr':Frame}{l l':List Frame}(hf:gT P ρ S fr fr')(hl:mz P ρ S l l')(hb:iE fr l)(hn:fr.defers=[]->l≠[]){w w':aa}(hw:WR P ρ w w'){main:Bool}:
 Goes P ρ S c0 ext w w' (λw=>unwind P true fr (l++[c0]) none w) (unwind P main fr' (l'++ext) none w'):=by
 have hds:=hf.defers;generalize hd:fr.defers=ds at hds hn;generalize hd':fr'.defers=ds' at hds;cases hds with
 | @cons d d' r r' h1 h2=>
  obtain⟨tg,ar⟩:=d;obtain⟨tg',ZO⟩:=d';have ht:=h1.target;dsimp only at ht;cases ht with
  | @collected b b' hr=>refine Goes.of (fn:=fr.fn) (fn':=fr'.fn) (zL (P:=P) hr) hw hf.fn (λh W W1 es _ hr=>⟨_,_,_,zdb⟩) (λσ v v' hle hv=>.inl λW W1 es hr=>⟨_,_,_,zdb⟩) λσ a b hle hab=>.inr ?_;refine⟨{fr with defers:=a++r},l,{fr' with defers:=b++r'},l',λW W1 es hr=>?_,λW1 es hr=>?_,(hf.mono hle).QM (hab.append (h2.mono hle)),hl.mono hle,hb.same rfl rfl⟩;unfold unwind;rw[hd];dsimp only;rw[hr];simp only[GStep.after,bD,gr];unfold unwind;rw[hd'];dsimp only;rw[hr];simp only[GStep.after,bD,gr]
  | @fn f f' xs xs' hf2 hx=>(have e1:(λW=>unwind P true fr (l++[c0]) none W)=λW=>callDeferred P {fr with defers:=r} (l++[c0]) none ⟨.fn f xs,ar⟩ W:=funext λW=>by unfold unwind;rw[hd]);(have e2:unwind P main fr' (l'++ext) none w'=callDeferred P {fr' with defers:=r'} (l'++ext) none ⟨.fn f' xs',ZO⟩ w':=by unfold unwind;rw[hd']);exact zdc
  |nil=>(have e1:(λW=>unwind P true fr (l++[c0]) none W)=λW=>callDeferred P {fr with defers:=r} (l++[c0]) none ⟨.nil,ar⟩ W:=funext λW=>by unfold unwind;rw[hd]);(have e2:unwind P main fr' (l'++ext) none w'=callDeferred P {fr' with defers:=r'} (l'++ext) none ⟨.nil,ZO⟩ w':=by unfold unwind;rw[hd']);exact zdc
 |nil=>
  cases hl with
  |nil=>exact absurd rfl (hn rfl)
  | @cons c c' l l' hc hl=>
   have hm:=hf.mode;generalize hmd:fr.mode=md,DX:fr'.mode=md' at hm;have hlt:fr.fn<P.funcs.size:=E.XA _ hf.ok;have hfn:P.funcs[fr.fn]?=some P.funcs[fr.fn]:=aZ hlt;cases hm with
   |run=>exact Goes.ended λW=>⟨_,_,_,by unfold unwind;rw[hd,hmd]⟩
   | @panicking ch ch' hch=>(have cat:∀x:Frame,x.fn=fr.fn->x.catches P=false:=λx hx=>by unfold Frame.catches;rw[hx,hfn]);refine Goes.ctl (jD:=c.raise ch) (fc:=c'.raise ch') (l1:=l) (ig:=l') (λW=>?_) ?_ (hc.raise hch) hl ((iE.cons.1 hb).same (fY _ _).1 (fY _ _).2) hw;unfold unwind;rw[hd,hmd];dsimp only;rw[if_neg (by rw[cat fr rfl];simp)];rfl;unfold unwind;rw[hd',DX];dsimp only;rw[if_neg (by rw[cat fr' hf.fn];simp)];rfl
   |returning=>
    (have hfn':P.funcs[fr'.fn]?=some P.funcs[fr.fn]:=by rw[hf.fn];exact hfn);refine Goes.of (fn:=fr.fn) (fn':=fr'.fn) (AE E hf.ok hfn hf.tmps) hw hf.fn (λh W W1 es QN hr=>?_) (λσ v v' hle hv=>.inl λW W1 es hr=>?_) λσ a b hle hab=>.inr ?_
    ·cases h<;>first|(cases QN;done)|exact⟨_,_,_,by unfold unwind;rw[hd,hmd];dsimp only;rw[hfn];dsimp only;rw[hr];rfl⟩
    ·refine⟨.stuck "return: the result variables cannot be read" (fr.pos P),W1,seen P fr.fn es,?_⟩;unfold unwind;rw[hd,hmd];dsimp only;rw[hfn];dsimp only;rw[hr];simp only[GStep.after,bD]
    ·obtain⟨c1,c1',d1,d2,d3,d4,d5⟩:=yO (l:=l++[c0]) (l':=l'++ext) (main:=main) hf.kind hf.kindOk (hc.mono hle) (show VR σ a b from hab);refine⟨c1,l,c1',l',λW W1 es hr=>?_,λW1 es hr=>?_,d3,hl.mono hle,(iE.cons.1 hb).same d4 d5⟩;unfold unwind;rw[hd,hmd];dsimp only;rw[hfn];dsimp only;rw[hr];show GStep.after _ (doReturn P true fr (c::(l++[c0])) none a W1)=_;rw[d1,sU,bD];unfold unwind;rw[hd',DX];dsimp only;rw[hfn'];dsimp only;rw[hr];show GStep.after _ (doReturn P main fr' (c'::(l'++ext)) none b W1)=_;rw[d2,sU,bD]
theorem UI(E:Env P ρ S){fr fr':Frame}{l l':List Frame}(hf:gT P ρ S fr fr')(hl:mz P ρ S l l')(hb:iE fr l)(hn:fr.mode≠.run->fr.defers=[]->l≠[])(hst:fr.mode=.run->∀ops i rest k,fr.todo=.inRegion ops (i::rest)::k->∀o,ops[i]?=some o->¬Stp ρ o){w w':aa}(hw:WR P ρ w w'){main:Bool}:
 Goes P ρ S c0 ext w w' (λw=>stepG P true (gr fr (l++[c0])) w) (stepG P main (gr fr' (l'++ext)) w'):=by
 have hm:=hf.mode;generalize hmd:fr.mode=md,DX:fr'.mode=md' at hm;have e1:∀(main:Bool)(x:Frame)(cs:List Frame)(W:aa),x.mode=.run->stepG P main (gr x cs) W=stepG.exec P main true x cs none W:=λmain x cs W h=>by unfold stepG gr;dsimp only;rw[h]
 have e2:∀(main:Bool)(x:Frame)(cs:List Frame)(W:aa),x.mode≠.run->stepG P main (gr x cs) W=unwind P main x cs none W:=λmain x cs W h=>by
  unfold stepG gr;dsimp only;cases hx:x.mode with
  |run=>exact absurd hx h
  |_=>rfl
 cases hm with
 |run=>have:(λw=>stepG P true (gr fr (l++[c0])) w)=λw=>stepG.exec P true true fr (l++[c0]) none w:=funext λW=>e1 _ _ _ _ hmd;rw[this,e1 _ _ _ _ DX];exact UH E hf hl hb hw (hst hmd)
 |returning=>
  have h1:fr.mode≠.run:=by rw[hmd];simp
  exact zcW
 |panicking hp=>
  have h1:fr.mode≠.run:=by rw[hmd];simp
  exact zcW
end
structure jk where
 fr:Frame
 cs:List Frame
 w:aa
def nH(P:aF)(s s1:jk):Prop:=∃m ts,s1.w.drawn=s.w.drawn+m/\∀T,CN s.w m ts T->∃es,stepG P true (gr s.fr s.cs) (on s.w T)=.go (gr s1.fr s1.cs) (on s1.w T) es
def AG(P:aF)(s:jk):Prop:=∃m ts,∀T,CN s.w m ts T->∃o w1 es,stepG P true (gr s.fr s.cs) (on s.w T)=.ended o w1 es
inductive LT(P:aF)(Q:jk->Prop):jk->Prop
 |stop {s:jk}:Q s->LT P Q s
 |step {s:jk}:¬AG P s->(∀s1,nH P s s1->LT P Q s1)->LT P Q s
theorem glue{β:Type}[Inhabited β](d m:Nat->Nat)(ts:Nat->Nat->β)(hd:∀j,d (j+1)=d j+m j):∃T:Nat->β,∀j i,i<m j->T (d j+i)=ts j i:=by
 have mono:∀j k,d (j+1)<=d (j+1+k):=λj k=>by
  induction k with
  |zero=>exact aj _
  |succ k ih=>have:=hd (j+1+k);rw[<-Nat.add_assoc];omega
 have uniq:∀j j' p,d j<=p->p<d j+m j->d j'<=p->p<d j'+m j'->j=j':=λj j' p h1 h2 h3 h4=>by rcases Nat.lt_trichotomy j j' with h|h|h;have:=mono j (j'-(j+1));rw[show j+1+(j'-(j+1))=j' by omega]at this;have:=hd j;omega;exact h;have:=mono j' (j-(j'+1));rw[show j'+1+(j-(j'+1))=j by omega]at this;have:=hd j';omega
 classical
 refine⟨λp=>if h:∃j,d j<=p/\p<d j+m j then ts (Classical.choose h) (p-d (Classical.choose h))else default,λj i hi=>?_⟩;have h:∃k,d k<=d j+i/\d j+i<d k+m k:=⟨j,oM,oM⟩;dsimp only;rw[dif_pos h];have hc:=Classical.choose_spec h;have e:=uniq _ j _ hc.1 hc.2 oM oM;rw[e,Nat.add_sub_cancel_left]
theorem Li{P:aF}{s s1:jk}{T:Nat->Question->Nat}{es:Array Event}(h:stepG P true (gr s.fr s.cs) (on s.w T)=.go (gr s1.fr s1.cs) (on s1.w T) es):step P (lone s.fr s.cs (on s.w T))=.next (lone s1.fr s1.cs (on s1.w T)):=
 step_lone_go (by
  have:stepG P true {frame:=s.fr,callers:=s.cs,status:=.running,dying:=none} (on s.w T)=.go (gr s1.fr s1.cs) (on s1.w T) es:=h;rw[this];rfl)
theorem AH{P:aF}{s:jk}{T:Nat->Question->Nat}{o:Outcome}{w1:aa}{es:Array Event}(h:stepG P true (gr s.fr s.cs) (on s.w T)=.ended o w1 es):step P (lone s.fr s.cs (on s.w T))=.ended o w1:=
 step_lone_ended (by
  have:stepG P true {frame:=s.fr,callers:=s.cs,status:=.running,dying:=none} (on s.w T)=.ended o w1 es:=h;rw[this];rfl)
theorem XD{P:aF}{Q:jk->Prop}(hQ:∀s T,Q ⟨s.fr,s.cs,on s.w T⟩->Q s)(s:jk)
 (h:∀T,∃n fr' cs' w',runN P n (lone s.fr s.cs (on s.w T))=.next (lone fr' cs' w')/\Q ⟨fr',cs',w'⟩):LT P Q s:=by
 classical
 apply Classical.byContradiction;intro hbad;have nq:∀s,¬LT P Q s->¬Q s:=λs h k=>h (.stop k);have nx:∀s,¬LT P Q s->¬(∃s1,nH P s s1/\¬LT P Q s1)->AG P s:=λs h k=>Classical.byContradiction λe=>h (.step e λs1 h1=>Classical.byContradiction λh2=>k ⟨s1,h1,h2⟩);let F:jk->jk:=λs=>if h:∃s1,nH P s s1/\¬LT P Q s1 then Classical.choose h else s;let sq:Nat->jk:=λk=>Nat.rec s (λ_ x=>F x) k;have sq0:sq 0=s:=rfl;have ZP:∀k,sq (k+1)=F (sq k):=λk=>rfl;have bad:∀k,¬LT P Q (sq k):=λk=>by
  induction k with
  |zero=>exact hbad
  |succ k ih=>rw[ZP];show¬LT P Q (if h:∃s1,nH P (sq k) s1/\¬LT P Q s1 then Classical.choose h else sq k);split;rename_i h;exact(Classical.choose_spec h).2;exact ih
 have dat:∀k,∃m ts,(∀T,CN (sq k).w m ts T->(∃o w1 es,stepG P true (gr (sq k).fr (sq k).cs) (on (sq k).w T)=.ended o w1 es)\/((sq (k+1)).w.drawn=(sq k).w.drawn+m/\∃es,stepG P true (gr (sq k).fr (sq k).cs) (on (sq k).w T)=.go (gr (sq (k+1)).fr (sq (k+1)).cs) (on (sq (k+1)).w T) es))/\
  ((∀T,CN (sq k).w m ts T->∃o w1 es,stepG P true (gr (sq k).fr (sq k).cs) (on (sq k).w T)=.ended o w1 es)\/(sq (k+1)).w.drawn=(sq k).w.drawn+m):=λk=>by
  by_cases hk:∃s1,nH P (sq k) s1/\¬LT P Q s1;(have e:sq (k+1)=Classical.choose hk:=by rw[ZP];show(if h:∃s1,nH P (sq k) s1/\¬LT P Q s1 then Classical.choose h else sq k)=_;rw[dif_pos hk]);obtain⟨⟨m,ts,h1,h2⟩,_⟩:=Classical.choose_spec hk;rw[e];exact⟨m,ts,λT hT=>.inr ⟨h1,h2 T hT⟩,.inr h1⟩;obtain⟨m,ts,h1⟩:=nx _ (bad k) hk;exact⟨m,ts,λT hT=>.inl (h1 T hT),.inl h1⟩
 let m:Nat->Nat:=λk=>Classical.choose (dat k);let ts:Nat->Nat->Question->Nat:=λk=>Classical.choose (Classical.choose_spec (dat k));have hdat:∀k,_:=λk=>Classical.choose_spec (Classical.choose_spec (dat k));let d:Nat->Nat:=λk=>Nat.rec s.w.drawn (λj x=>x+m j) k;have dS:∀k,d (k+1)=d k+m k:=λk=>rfl;obtain⟨T,hT⟩:=glue d m ts dS;have key:∀k,(∃j,j<k/\∃o w1,runN P (j+1) (lone s.fr s.cs (on s.w T))=.ended o w1)\/(d k=(sq k).w.drawn/\runN P k (lone s.fr s.cs (on s.w T))=.next (lone (sq k).fr (sq k).cs (on (sq k).w T))):=λk=>by
  induction k with
  |zero=>exact .inr ⟨rfl,rfl⟩
  |succ k ih=>rcases ih with⟨j,hj,e⟩|⟨hd,hr⟩;exact .inl ⟨j,oM,e⟩;(have ha:CN (sq k).w (m k) (ts k) T:=λi hi=>by rw[<-hd];exact hT k i hi);rcases(hdat k).1 T ha with⟨o,w1,es,e⟩|⟨h1,es,e⟩;refine .inl ⟨k,oM,o,w1,?_⟩;rw[runN_add,hr];simp only[runN,AH e];refine .inr ⟨by rw[dS,hd,h1],?_⟩;rw[runN_add,hr];simp only[runN,Li e]
 obtain⟨n,fr',cs',w',hn,hq⟩:=h T;rcases key n with⟨j,hj,o,w1,e⟩|⟨_,hr⟩
 ·have:runN P ((j+1)+(n-(j+1))) (lone s.fr s.cs (on s.w T))=.ended o w1:=by rw[runN_add,e]
  rw[show(j+1)+(n-(j+1))=n by omega,hn]at this;cases this
 ·rw[hn]at hr;have e:lone fr' cs' w'=lone (sq n).fr (sq n).cs (on (sq n).w T):=by injection hr
  simp only[lone,Machine.mk.injEq,Array.mk.injEq,List.cons.injEq,Goroutine.mk.injEq,and_true]at e;obtain⟨e1,e2,e3⟩:=e;subst e1 e2 e3;exact nq _ (bad n) (hQ (sq n) T hq)
inductive Rk:Type
 |zero:Rk
 |node:(jk->Rk)->Rk
def Rk.Lt:Rk->Rk->Prop
 |_,.zero=>False
 |r,.node f=>∃s,r=f s
theorem Rk.wf:WellFounded Rk.Lt:=⟨λr=>by
 induction r with
 |zero=>exact⟨_,λy hy=>hy.elim⟩
 |node f ih=>exact⟨_,λy hy=>by obtain⟨s,rfl⟩:=hy;exact ih s⟩⟩
def uM(P:aF)(Q:jk->Prop):Rk->jk->Prop
 |.zero,s=>Q s
 |.node f,s=>Q s\/(¬AG P s/\∀s1,nH P s s1->uM P Q (f s1) s1)
theorem LT.rk{P:aF}{Q:jk->Prop}{s:jk}(h:LT P Q s):∃r,uM P Q r s:=by
 classical
 induction h with
 |stop hq=>exact⟨.zero,hq⟩
 | @step s hn _ ih=>exact⟨.node λs1=>if h:nH P s s1 then Classical.choose (ih s1 h)else .zero,.inr ⟨hn,λs1 h=>by
  show uM P Q (if h:nH P s s1 then Classical.choose (ih s1 h)else .zero) s1;rw[dif_pos h];exact Classical.choose_spec (ih s1 h)⟩⟩
theorem uM.next{P:aF}{Q:jk->Prop}{r:Rk}{s:jk}(h:uM P Q r s):Q s\/(¬AG P s/\∀s1,nH P s s1->∃r1,Rk.Lt r1 r/\uM P Q r1 s1):=by
 cases r with
 |zero=>exact .inl h
 |node f=>exact h.imp id λ⟨h1,h2⟩=>⟨h1,λs1 k=>⟨f s1,⟨s1,rfl⟩,h2 s1 k⟩⟩
def c0:Frame:={fn:=0,tmps:=#[],todo:=[.code (.refuse "")],defers:=[{target:=.nil,args:=#[]}],mode:=.run,kind:=.normal}
section
variable {P:aF}{ρ:Rn}{S:Nat->Nat->Bool}{ext:List Frame}{Q:jk->Prop}
theorem UJ(w:aa)(v:ae):AG P ⟨c0.finish v,[],w⟩:=⟨0,λ_ _=>0,λT _=>⟨_,_,_,by
 show stepG P true (gr c0 []) (on w T)=_;unfold stepG gr c0;dsimp only;unfold stepG.exec;dsimp only⟩⟩
theorem QO(w:aa)(ch:List PanicEntry):AG P ⟨c0.raise ch,[],w⟩:=⟨0,λ_ _=>0,λT _=>⟨_,_,_,by
 show stepG P true (gr {c0 with mode:=.panicking ch} []) (on w T)=_;unfold stepG gr c0;dsimp only;unfold unwind;dsimp only;unfold callDeferred;rw[if_pos rF]⟩⟩
structure jl(P:aF)(S:Nat->Nat->Bool)(Q:jk->Prop)(r:Rk)(ρ:Rn)(s:jk)(l:List Frame)(fr':Frame)(l':List Frame)(w':aa):Prop where
 rk:uM P Q r s
 cs:s.cs=l++[c0]
 top:gT P ρ S s.fr fr'
 rest:mz P ρ S l l'
 bot:iE s.fr l
 wr:WR P ρ s.w w'
 env:Env P ρ S
theorem jl.bottom{r:Rk}{s:jk}{l:List Frame}{fr':Frame}{l':List Frame}{w':aa}(h:jl P S Q r ρ s l fr' l' w')(hQ:∀s,Q s->s.cs≠[])(hm:s.fr.mode≠.run)(hd:s.fr.defers=[])(hl:l=[]):Q s:=by
 rcases h.rk.next with k|⟨k1,k2⟩;exact k;exfalso;obtain⟨fr,cs,w⟩:=s;have hcs:cs=[c0]:=by have:=h.cs;rw[hl]at this;exact this
 subst hcs;have hkd:fr.kind=.normal:=by have:=h.bot.1;rw[hl]at this;simpa[iE]using this
 have dead:∀s1,nH P ⟨fr,[c0],w⟩ s1->s1.cs=[]->AG P s1->False:=λs1 h1 h2 h3=>by obtain⟨r1,_,h4⟩:=k2 s1 h1;rcases h4.next with h5|⟨h5,_⟩;exact hQ _ h5 h2;exact h5 h3
 have hlt:fr.fn<P.funcs.size:=h.env.XA _ h.top.ok;have hfn:P.funcs[fr.fn]?=some P.funcs[fr.fn]:=aZ hlt;have e2:∀(W:aa),stepG P true (gr fr [c0]) W=unwind P true fr [c0] none W:=λW=>by
  unfold stepG gr;dsimp only;cases hx:fr.mode with
  |run=>exact absurd hx hm
  |_=>rfl
 cases hmd:fr.mode with
 |run=>exact hm hmd
 |panicking ch=>
  refine dead ⟨c0.raise ch,[],w⟩ ⟨0,λ_ _=>0,rfl,λT _=>⟨#[],?_⟩⟩ rfl (QO w ch);show stepG P true (gr fr [c0]) (on w T)=_;rw[e2];unfold unwind;rw[hd,hmd];dsimp only;have cat:fr.catches P=false:=by unfold Frame.catches;rw[hfn]
  rw[if_neg (by rw[cat];simp)];rfl
 |returning=>
  obtain⟨m,ts,res,h1,h2,h3⟩:=(AE h.env h.top.ok hfn h.top.tmps).run w w' #[] #[] h.wr .nil;have er:∀T,stepG P true (gr fr [c0]) (on w T)=match(results P.funcs[fr.fn] fr.tmps).runT P (on w T) #[]with
   |(r,es)=>GStep.after (seen P fr.fn es) (match r with
    |.ok v w=>doReturn P true fr [c0] none v w
    |.halt (.stuck s) w=>.ended (.stuck s (fr.pos P)) w
    |.halt _ w=>.ended (.stuck "return: the result variables cannot be read" (fr.pos P)) w):=λT=>by
   rw[e2];unfold unwind;rw[hd,hmd];dsimp only;rw[hfn];rfl
  generalize (results P.funcs[fr.fn] fr'.tmps).runT P w' #[]=res' at h3;cases h3 with
  | @fQ hh _ _ _ QN=>exact k1 ⟨m,ts,λT hT=>by
   show∃o w1 es,stepG P true (gr fr [c0]) (on w T)=.ended o w1 es;rw[er,h1 T hT];cases hh<;>first|(cases QN;done)|exact⟨_,_,_,rfl⟩⟩
  |panic hg hv hw1 hls hfr=>exact k1 ⟨m,ts,λT hT=>by
   show∃o w1 es,stepG P true (gr fr [c0]) (on w T)=.ended o w1 es;rw[er,h1 T hT];exact⟨_,_,_,rfl⟩⟩
  | @ok σ a b w1 w1' es1 mi hg hA hw1 hls hfr=>refine dead ⟨c0.finish a,[],w1⟩ ⟨m,ts,h2,λT hT=>⟨seen P fr.fn es1++ #[],?_⟩⟩ rfl (UJ w1 a);show stepG P true (gr fr [c0]) (on w T)=_;rw[er,h1 T hT];show GStep.after _ (doReturn P true fr [c0] none a (on w1 T))=_;simp only[doReturn,hkd];rfl
def E9(ρ:Rn)(s:jk):Prop:=s.fr.mode=.run/\∃ops i rest k o,s.fr.todo=.inRegion ops (i::rest)::k/\ops[i]?=some o/\Stp ρ o
theorem jl.step{r:Rk}{s:jk}{l:List Frame}{fr':Frame}{l':List Frame}{w':aa}(h:jl P S Q r ρ s l fr' l' w')(hQ:∀s,Q s->s.cs≠[])(Lj:∀s,E9 ρ s->Q s)(hq:¬Q s){main:Bool}:
 ∃r1 σ s1 l1 fc ig w1' es es',Rk.Lt r1 r/\jl P S Q r1 σ s1 l1 fc ig w1'/\stepG P main (gr fr' (l'++ext)) w'=.go (gr fc (ig++ext)) w1' es'/\Grow ρ σ w' w1'/\eG σ es es'.toList/\gM w' w1' (Own ρ):=by
 have hn:s.fr.mode≠.run->s.fr.defers=[]->l≠[]:=λh1 h2 h3=>hq (h.bottom hQ h1 h2 h3);obtain⟨m,ts,k⟩:=UI (c0:=c0) (ext:=ext) h.env h.top h.rest h.bot hn (λh1 ops i rest k h2 o h3 h4=>hq (Lj s ⟨h1,ops,i,rest,k,o,h2,h3,h4⟩)) h.wr (main:=main);obtain⟨fr,cs,w⟩:=s;have hcs:cs=l++[c0]:=h.cs;subst hcs;rcases h.rk.next with k2|⟨k2,k3⟩;exact absurd k2 hq;rcases k with k|⟨jD,l1,w1,fc,ig,w1',es,es',σ,g1,g2,g3,g4,g5,g6,g7,g8,g9⟩;exact absurd ⟨m,ts,k⟩ k2;obtain⟨r1,hr1,hk⟩:=k3 ⟨jD,l1++[c0],w1⟩ ⟨m,ts,g1,λT hT=>⟨es,g2 T hT⟩⟩;exact⟨r1,σ,⟨jD,l1++[c0],w1⟩,l1,fc,ig,w1',es.toList,es',hr1,⟨hk,rfl,g4.cons_inv.1,g4.cons_inv.2,g5,g7,h.env.mono g6.le⟩,g3,g6,g8,g9⟩
end
end Go.Pr
