/- Part 7 of the proof. -/
import Derived.Test.YtdhekhlmdefcnaaGreatDoorPart6
import Derived.Test.YtdhekhlmdefcnaaGreatDoorPart5
import Derived.StillTailTactics
import Derived.Maps.AppendAt
import Derived.BigQuiet
set_option maxHeartbeats 16000000
set_option maxRecDepth 1000000
namespace Go
section
variable {p:Prop}
theorem zfm(h:p:=by have hM1:(λwx=>TR w g gc g0 L q3 (aN cP) (aN aQ) wx/\Has wx g9 155 #[I (i1:Int),I (i2:Int)]) wx:=hM;obtain⟨x1,x2,x3⟩:=ye.out wx hM1.1.1;clear av H;go_simp;exact hk _ hM):p:=h
theorem zfn(h:p:=by refine aM rfl (λli ac wx H hn av hM K hk=>?_);have e9:ac.tmps[9]?.getD undef=pT g9 0:=bP ((H.cA.slot dC).trans (gX f9));have hM1:(λwx=>TR w g gc g0 L q3 (aN cP) (aN aQ) wx/\Has wx g9 155 #[I (i1:Int),I (i2:Int)]) wx:=hM;have x1:=hM1.2.aJ 0 _ rfl;have x2:=hM1.2.aJ 1 _ rfl;clear av H;go_simp;exact hk _ hM):p:=h
theorem zfo(h:p:=by obtain⟨f0,f2,f3,f9,f11,_⟩:=hb0;refine .inr (.inr (.inl ⟨1,rfl,aM rfl (λli ac wx H hn av hM K hk=>?_)⟩));have e3:ac.tmps[3]?.getD undef=pT (g0+1) 0:=bP ((H.cA.slot dC).trans (gX f3));have e166:ac.tmps[166]?.getD undef=.agg (aN (cA 2 (id:Int) (cy:Int) ((i1:Int),(i2:Int),(out:Int)))):=H.k av 11 166;have hM1:(λwx=>TR w g gc g0 L q3 (aN cP) (aN aQ) wx/\Has wx g9 155 #[I (i1:Int),I (i2:Int)]) wx:=hM;clear av H;refine wp_store_row 214 (.tmp 3) (.tmp 166) rfl (g0+1) (aN (cA 2 (id:Int) (cy:Int) ((i1:Int),(i2:Int),(out:Int)))) (eval_at e3) (eval_at e166) 214 _ hM1.1.2.2.2 Si.out rfl (dZ _) ?_;exact hk _ ⟨hM1.1.El (Nat.le_of_eq HG.out) _,hM1.2.ij (hM1.2.ne hM1.1.2.2.2 dC) _⟩):p:=h
theorem zfp(h:p:=by go_wp2_with fail;go_quiet (fail);go_wp2_with fail;go_ret;exact⟨by rw[HT.out];rfl,HG.out▸below_drewN (below_drewN hb1 _) _⟩):p:=h
theorem zfq(h:p:=by refine .inr (.inr (.inr ⟨0,rfl,dC,λγ=>aM rfl (λli ac wx H hn av hM K hk=>?_)⟩));have e10:ac.tmps[10]?.getD undef=pT γ 0:=H.k av 13 10;have e153:ac.tmps[153]?.getD undef=.agg (cJ st2):=H.k av 11 153;have hM1:(λwx=>TR w g gc g0 L q3 (aN cP) (aN aQ) wx/\Has wx g9 155 #[I (i1:Int),I (i2:Int)]) wx/\Has wx γ 168 fg/\g0<=γ:=hM;clear av H;refine wp_store_row 168 (.tmp 10) (.tmp 153) rfl γ (cJ st2) (eval_at e10) (eval_at e153) 168 _ hM1.2.1 HI2.out HI3.out HI4.out ?_;exact hk _ ⟨hM1.1.1.far hM1.2.1 (by rw[HG.out];exact hM1.2.2) dC dC dC dC _,hM1.1.2.ij (hM1.1.2.ne hM1.2.1 dC) _⟩):p:=h
theorem zfr(h:p:=by obtain⟨f0,f2,f3,f9,f11,_⟩:=hb0;refine .inr (.inr (.inl ⟨0,rfl,aM rfl (λli ac wx H hn av hM K hk=>?_)⟩));have e2:ac.tmps[2]?.getD undef=pT g0 0:=bP ((H.cA.slot dC).trans (gX f2));have Sm:ac.tmps[155]?.getD undef=.agg (aN cP):=H.k av 0 155;have hM1:(λwx=>TR w g gc g0 L q3 (aN cP) (aN aQ) wx/\Has wx g9 155 #[I (i1:Int),I (i2:Int)]) wx:=hM;clear av H;refine wp_store_row 214 (.tmp 2) (.tmp 155) rfl g0 (aN cP) (eval_at e2) (eval_at Sm) 214 _ hM1.1.2.2.1 eE.out rfl (dZ _) ?_;exact hk _ ⟨hM1.1.Ek (Nat.le_of_eq HG.out) (aN cP),hM1.2.ij (hM1.2.ne hM1.1.2.2.1 dC) _⟩):p:=h
theorem zfs(h:p:=by refine .inl ⟨dC,dC,λγ M=>aM rfl (λli ac wx H hn av hM K hk=>?_)⟩;have Sh:ac.tmps[142]?.getD undef=.tuple #[.agg (cJ st2),I (out:Int)]:=H.k av 10 142;clear av H;go_simp;exact hk _ hM):p:=h
theorem zft(h:p:=by refine .inr (.inl ⟨dC,dC,kR,λγ w0=>aM rfl (λli ac wx H hn av hM K hk=>?_)⟩);have aaD:ac.tmps[146]?.getD undef=pT gc 0:=H.k av 3 146;have aaE:ac.tmps[150]?.getD undef=.agg (cJ st):=H.k av 7 150;have aaF:ac.tmps[151]?.getD undef=.agg #[I (i1:Int),I (i2:Int)]:=H.k av 8 151;obtain⟨hM1,rfl⟩:=hM;have hM1:(λwx=>TR w g gc g0 L q3 (aN cP) (aN aQ) wx/\Has wx g9 155 #[I (i1:Int),I (i2:Int)]) w0:=hM1;clear av H;go_simp;refine(Ja.out _ hM1.1.1.core).mono ?_;rintro e w' ⟨rfl,hb⟩;exact hk _ ⟨⟨hM1.1.after hb,hM1.2.after hb⟩,hb⟩):p:=h
theorem zfu(h:p:=by refine .inl ⟨dC,dC,λγ M=>aM rfl (λli ac wx H hn av hM K hk=>?_)⟩;have e0:ac.tmps[0]?.getD undef=pT g 0:=bP ((H.cA.slot dC).trans f0);clear av H;go_simp;exact hk _ hM):p:=h
theorem zfv(h:p:=by go_ret;have oJ:=hbd.alloc hbd.size (.cells (aN (dm (cT v c) v.trace.length)) 214);exact⟨⟨_,rfl,by have h1:=hbd.size;have h2:=ln.out.size;omega,Has.new _ _ _⟩,⟨_,Mj.out.after oJ,by rw[HG.out];exact hl2.out⟩,ln.out.eU oJ⟩):p:=h
theorem zfw(h:p:=by refine .inr (.inl ⟨dC,dC,kR,λγ w0=>aM rfl (λli ac wx H hn av hM K hk=>?_)⟩);have Sg:ac.tmps[149]?.getD undef=pT g 3:=H.k av 6 149;obtain⟨hM1,rfl⟩:=hM;have hM1:(λwx=>TR w g gc g0 L q3 (aN cP) (aN aQ) wx/\Has wx g9 155 #[I (i1:Int),I (i2:Int)]) w0:=hM1;clear av H;refine wp_load_mid 168 (.tmp 149) rfl g 3 (eval_at Sg) (eV st) _ (C8.out _ hM1.1.1) underlying168 rfl HI1.out ?_;exact hk _ ⟨hM1,Below.refl _ _⟩):p:=h
theorem zfx(h:p:=by obtain⟨f0,f2,f3,f9,f11,_⟩:=hb0;refine .inr (.inl ⟨dC,kR,aM rfl (λli ac wx H hn av hM K hk=>?_)⟩);have e2:ac.tmps[2]?.getD undef=pT g0 0:=bP ((H.cA.slot dC).trans (gX f2));have hM1:(λwx=>TR w g gc g0 L q3 (aN cP) (aN aQ) wx/\Has wx g9 155 #[I (i1:Int),I (i2:Int)]) wx:=hM;clear av H;refine wp_load_row 214 (.tmp 2) rfl g0 (eval_at e2) 214 (aN cP) (0,0) _ hM1.1.2.2.1 underlying214 rfl eE.out ?_;exact hk _ hM):p:=h
theorem zfy(h:p:=by refine .inr (.inl ⟨dC,dC,kR,λγ w0=>aM rfl (λli ac wx H hn av hM K hk=>?_)⟩);have e9:ac.tmps[9]?.getD undef=pT g9 0:=bP ((H.cA.slot dC).trans f9);obtain⟨hM1,rfl⟩:=hM;have hM1:(λwx=>TR w g gc g0 L q3 (aN cP) (aN aQ) wx/\Has wx g9 155 #[I (i1:Int),I (i2:Int)]) w0:=hM1;have x1:=hM1.2.aJ 0 _ rfl;have x2:=hM1.2.aJ 1 _ rfl;clear av H;go_simp;exact hk _ ⟨hM1,Below.refl _ _⟩):p:=h
theorem zfz(h:p:=by refine .inr (.inl ⟨dC,dC,kR,λγ w0=>aM rfl (λli ac wx H hn av hM K hk=>?_)⟩);have aaA:ac.tmps[145]?.getD undef=pT g 1:=H.k av 2 145;obtain⟨hM1,rfl⟩:=hM;have hM1:(λwx=>TR w g gc g0 L q3 (aN cP) (aN aQ) wx/\Has wx g9 155 #[I (i1:Int),I (i2:Int)]) w0:=hM1;obtain⟨x1,x2,x3⟩:=ye.out w0 hM1.1.1;clear av H;go_simp;exact hk _ ⟨hM1,Below.refl _ _⟩):p:=h
theorem zfA(h:p:=by obtain⟨rfl,I9⟩:=hcut;have ln:=hI I9;clear I9;go_wp2_with fail;refine bodyPost_ret (gG rfl _ _ g0 (g0+1) 214 (aN cP) (aN (cA 2 (id:Int) (cy:Int) ((i1:Int),(i2:Int),(out:Int)))) _ rfl rfl ln.out.1.2.2.1 ln.out.1.2.2.2 underlying214 rfl eE.out Si.out) rfl ?_;unfold lT;rw[C7.out];exact⟨rfl,ln.out.1.1,ln.out.1.2.1⟩):p:=h
theorem zfB(h:p:=by rw[HE.out];exact ka.alloc _):p:=h
theorem zfC(h:p:=by go_wp2_with fail;go_ret;exact⟨by rw[HT.out];rfl,HG.out▸below_drewN hb1 _⟩):p:=h
theorem zfD(h:p:=by have e46:ac.tmps[46]?.getD undef=pT g (28+k):=H.k av 24 46;have hM1:(TR w g gc g0 L ra (aN aQ) (aN aQ)) wx:=hM;obtain⟨x1,x2,x3,x4⟩:=wS.out wx hM1;clear av H;go_simp;exact hk _ (HST.out wx _ hM1 sM)):p:=h
theorem zfE(h:p:=by have K:=hI k;have KO:=hI ko;have KT:=hI kt;clear hla ht k ko kt hw;generalize v.time=t at*;go_enter func149,ntmps149;go_wp2;go_end0;exact⟨rfl,by rw[HE.out];exact⟨K.out,KO.out,hl⟩,KT.out⟩):p:=h
theorem zfF(h:p:=by refine bodyPost_ret (gG rfl _ _ g0 (g0+1) 214 (aN cP) (aN aQ) _ rfl rfl nT.out.2.2.1 nT.out.2.2.2 underlying214 rfl eE.out C2.out) rfl ?_;unfold lT;rw[C7.out];exact⟨rfl,nT.out.1,nT.out.2.1⟩):p:=h
theorem zfG(h:p:=by refine .inl ⟨dC,dC,λγ M=>aM rfl (λli ac wx H hn av hM K hk=>?_)⟩;have e152:ac.tmps[152]?.getD undef=.tuple #[.agg (cJ st2),I (out:Int)]:=H.k av 9 152;clear av H;go_simp;exact hk _ hM):p:=h
theorem zfH(h:p:=by rw[HE.out];show uh (.slice A2 (v.trace.length+1) c2) (Cm.zero,false) (Cm.zero,false) (Cm.zero,false) OUT v.window v.window (v.bO||iQ OUT||decide (1000<=v.trace.length+1))=_;rw[HL.out]):p:=h
theorem zfI(h:p:=by refine .inl ⟨dC,dC,λγ M=>aM rfl (λli ac wx H hn av hM K hk=>?_)⟩;have e154:ac.tmps[154]?.getD undef=I (out:Int):=H.k av 12 154;clear av H;go_simp;exact hk _ hM):p:=h
theorem zfJ(h:p:=by have hk0:(0:Int)<=(id:Int):=oM;have hk1:(id:Int)<3:=oM;clear av H;go_simp;exact hk _ hM):p:=h
theorem zfK(h:p:=by refine .inl ⟨dC,dC,λγ M=>aM rfl (λli ac wx H hn av hM K hk=>?_)⟩;have e143:ac.tmps[143]?.getD undef=pT g 0:=H.k av 0 143;clear av H;go_simp;exact hk _ hM):p:=h
theorem zfL(h:p:=by refine .inl ⟨dC,dC,λγ M=>aM rfl (λli ac wx H hn av hM K hk=>?_)⟩;have aaz:ac.tmps[144]?.getD undef=pT g 0:=H.k av 1 144;clear av H;go_simp;exact hk _ hM):p:=h
theorem zfM(h:p:=by refine .inl ⟨dC,dC,λγ M=>aM rfl (λli ac wx H hn av hM K hk=>?_)⟩;have aaC:ac.tmps[148]?.getD undef=pT g 0:=H.k av 5 148;clear av H;go_simp;exact hk _ hM):p:=h
theorem zfN(h:p:=by refine .inl ⟨dC,dC,λγ M=>aM rfl (λli ac wx H hn av hM K hk=>?_)⟩;have aaB:ac.tmps[147]?.getD undef=pT g 0:=H.k av 4 147;clear av H;go_simp;exact hk _ hM):p:=h
theorem zfO(h:p:=by go_wp2_with fail;go_ret;exact⟨by rw[HE.out];rfl,HG.out▸below_drewN hb1 _⟩):p:=h
theorem zfP(h:p:=by rw[HE.out];show World.ownsRow _ B 157 3 _ (v.trace++[c]).length (gH (v.trace++[c]));rw[bm];exact o9.out):p:=h
theorem zfQ(h:p:=by show((u++d).drop 8).take 8=d;rw[List.drop_append_of_le_length oM,List.drop_of_length_le oM,List.nil_append,bZ oM]):p:=h
theorem zfR(h:p:=by rcases hcase with rfl|rfl|rfl|rfl|rfl|rfl|rfl|rfl|rfl|rfl|rfl|rfl|rfl|rfl|rfl|rfl<;>first|rfl|exact absurd rfl hj):p:=h
theorem zfS(h:p:=by exact⟨⟨TR.after hM1.1 ((Below.refl _ _).alloc (aj _) _),hM1.2.alloc _⟩,bA hM1.1.2.2.1.lt⟩):p:=h
theorem zfT(h:p:=by rw[<-HQ.out];exact((ka.set 13 _).alloc _).drew):p:=h
theorem zfU(h:p:=by rw[h];decide):p:=h
theorem zfV(h:p:=by go_enter func145,ntmps145;go_wp2;go_ret;exact⟨by rw[HE.out];rfl,0,rfl⟩):p:=h
theorem zfW(h:p:=by go_num):p:=h
theorem zfX(h:p:=by rw[aD,aD,List.getElem?_take,if_pos h,List.getElem?_drop]):p:=h
theorem zfY(h:p:=by rw[H2.out,if_neg];unfold mv;simp):p:=h
theorem zfZ(h:p:=by rw[H1.out,if_neg];unfold mv;simp):p:=h
theorem zf0(h:p:=by rw[H0.out,if_neg];unfold mv;simp):p:=h
theorem zf1(h:p:=by obtain⟨γ,h⟩:=Jb.out;exact h):p:=h
theorem zf2(h:p:=by rw[I7.out,if_neg oM,if_pos oM]):p:=h
theorem zf3(h:p:=by refine aM rfl (λli ac wx H hn av hM K hk=>?_);have Sl:ac.tmps[162]?.getD undef=pT g 2:=H.k av 7 162;exact zfm):p:=h
theorem zf4(h:p:=by refine aM rfl (λli ac wx H hn av hM K hk=>?_);have Sj:ac.tmps[158]?.getD undef=pT g 0:=H.k av 3 158;exact zfm):p:=h
theorem zf5(h:p:=by simp;omega):p:=h
theorem zf6(h:p:=by rw[HAT.out];rfl):p:=h
theorem zf7(h:p:=by rw[jS _ _ oM,hbit];rfl):p:=h
theorem zf8(h:p:=by rw[HE.out];show _<(v.trace++[c]).length;simp):p:=h
theorem zf9(h:p:=by rw[decide_eq_false_iff_not];omega):p:=h
end
end Go
namespace Go.Proofs.YtdhekhlmdefcnaaGreatDoor
open Go.Proofs.Tryz Go.RowKit
def TR(w:aa)(g gc g0:Nat)(L:Lay)(r:Re)(c1 c2:bw)(wx:aa):Prop:=
 cK wx g gc L r/\Turned (λb=>b=g) w wx/\Has wx g0 214 c1/\Has wx (g0+1) 214 c2
theorem TR.after{w wx wy:aa}{g gc g0:Nat}{L:Lay}{r:Re}{c1 c2:bw}(h:TR w g gc g0 L r c1 c2 wx)(hb:Below wx.heap.size wx wy):TR w g gc g0 L r c1 c2 wy:=
 ⟨h.1.after hb,h.2.1.eU hb,h.2.2.1.after hb,h.2.2.2.after hb⟩
theorem TR.set{w wx:aa}{g gc g0:Nat}{L:Lay}{r r':Re}{c1 c2:bw}(h:TR w g gc g0 L r c1 c2 wx)(i:Nat)(v:ae)(he:∀j,j<93->(if j=i then v else dK r gc j)=dK r' gc j):TR w g gc g0 L r' c1 c2 (wx.setCell ⟨g,i,none⟩ v):=by have n1:=h.2.2.1.ne h.1.has dC;have n2:=h.2.2.2.ne h.1.has dC;exact⟨h.1.to ((Turned.refl (λb=>b=g) wx).setCell ⟨g,i,none⟩ v (.inl rfl)) (h.1.has.rO i v) he,h.2.1.setCell ⟨g,i,none⟩ v (.inl rfl),h.2.2.1.far (p:=⟨g,i,none⟩) n1 v,h.2.2.2.far (p:=⟨g,i,none⟩) n2 v⟩
theorem TR.set2{w wx:aa}{g gc g0:Nat}{L:Lay}{r r':Re}{c1 c2:bw}(h:TR w g gc g0 L r c1 c2 wx)(i j:Nat)(u v:ae)(he:∀m,m<93->(if m=j then v else if m=i then u else dK r gc m)=dK r' gc m):TR w g gc g0 L r' c1 c2 ((wx.setCell ⟨g,i,none⟩ u).setCell ⟨g,j,none⟩ v):=by have n1:=h.2.2.1.ne h.1.has dC;have n2:=h.2.2.2.ne h.1.has dC;exact⟨h.1.to (((Turned.refl (λb=>b=g) wx).setCell ⟨g,i,none⟩ u (.inl rfl)).setCell ⟨g,j,none⟩ v (.inl rfl)) ((h.1.has.rO i u).rO j v) he,(h.2.1.setCell ⟨g,i,none⟩ u (.inl rfl)).setCell ⟨g,j,none⟩ v (.inl rfl),(h.2.2.1.far (p:=⟨g,i,none⟩) n1 u).far (p:=⟨g,j,none⟩) n1 v,(h.2.2.2.far (p:=⟨g,i,none⟩) n2 u).far (p:=⟨g,j,none⟩) n2 v⟩
theorem TR.drew{w wx:aa}{g gc g0:Nat}{L:Lay}{r:Re}{c1 c2:bw}(h:TR w g gc g0 L r c1 c2 wx):TR w g gc g0 L r c1 c2 {wx with drawn:=wx.drawn+1}:=h.after ((Below.refl _ _).drew)
theorem TR.Ek{w wx:aa}{g gc g0:Nat}{L:Lay}{r:Re}{c1 c2:bw}(h:TR w g gc g0 L r c1 c2 wx)(hg:w.heap.size<=g0)(cs:bw):TR w g gc g0 L r cs c2 (wx.setRow g0 cs):=by have n1:=h.1.has.ne h.2.2.1 dC;exact⟨⟨h.1.has.ij n1 cs,h.1.core.wQ h.2.2.1 dC dC ((Turned.refl (λb=>b=g0) wx).setRow g0 cs (.inl rfl))⟩,h.2.1.setRow g0 cs (.inr hg),h.2.2.1.setRow cs,h.2.2.2.ij oM cs⟩
theorem TR.El{w wx:aa}{g gc g0:Nat}{L:Lay}{r:Re}{c1 c2:bw}(h:TR w g gc g0 L r c1 c2 wx)(hg:w.heap.size<=g0)(cs:bw):TR w g gc g0 L r c1 cs (wx.setRow (g0+1) cs):=by have n1:=h.1.has.ne h.2.2.2 dC;exact⟨⟨h.1.has.ij n1 cs,h.1.core.wQ h.2.2.2 dC dC ((Turned.refl (λb=>b=g0+1) wx).setRow (g0+1) cs (.inl rfl))⟩,h.2.1.setRow (g0+1) cs (.inr oM),h.2.2.1.ij oM cs,h.2.2.2.setRow cs⟩
theorem gG{P:aF}{fn:Func}{p q u:Tmp}{ty:aw}(h:fn.results= #[.cell p ty,.cell q ty,.tmp u])(tmps:bw)(w:aa)(g1 g2:Nat)(t:aw)(cs ds:bw)(d:TypeDesc)
 (hp:tmps.getD p undef=pT g1 0)(hq:tmps.getD q undef=pT g2 0)(hg:Has w g1 t cs)(hg2:Has w g2 t ds)
 (hu:P.underlying ty=some d)(hd:(match d with|.struct _|.array _ _=>true|_=>false)=true)(hi:(P.info? ty).map (·.size)=some cs.size)(hi2:(P.info? ty).map (·.size)=some ds.size):
 (results fn tmps).run P w=.ok (.tuple #[.agg cs,.agg ds,tmps.getD u undef]) w:=by
 simp only[results,h];rw[aU]at hp hq;simp[Sem.run_bind,Result.andThen,asAddr,hp,hq,run_loadVar_row w g1 t ty cs (0,0) d hg hu hd hi,run_loadVar_row w g2 t ty ds (0,0) d hg2 hu hd hi2]
theorem eval_at{a:Act}{s:Nat}{v:ae}(h:a.tmps[s]?.getD undef=v):a.eval (.tmp s)=v:=by show a.tmps.getD s undef=v;rw[aU];exact h
theorem TR.far{w wx:aa}{g gc g0 q:Nat}{L:Lay}{r:Re}{c1 c2:bw}{t:aw}{cs:bw}(h:TR w g gc g0 L r c1 c2 wx)(hq:Has wx q t cs)(hB:w.heap.size<=q)(n1:176≠t)(n2:198≠t)(n3:3≠t)(n4:214≠t)(ds:bw):TR w g gc g0 L r c1 c2 (wx.setRow q ds):=
 ⟨⟨h.1.has.ij (h.1.has.ne hq n1) ds,h.1.core.wQ hq n2 n3 ((Turned.refl (λb=>b=q) wx).setRow q ds (.inl rfl))⟩,h.2.1.setRow q ds (.inr hB),h.2.2.1.ij (h.2.2.1.ne hq n4) ds,h.2.2.2.ij (h.2.2.2.ne hq n4) ds⟩
def lT(w:aa)(g gc:Nat)(L:Lay)(r:Re)(e:Ending)(w':aa):Prop:=
 e=.returned (.tuple #[.agg (aN (ea L r).2.1),.agg (aN (ea L r).2.2.1),.bool (ea L r).2.2.2])/\cK w' g gc L (ea L r).1/\Turned (λb=>b=g) w w'
section
variable {w:aa}{g gc:Nat}{L:Lay}{r:Re}
theorem R6(h:cK w g gc L r)(hL:L.Ok)(T:Nat)(hT:T<=10000000000)(hf:Hid (r.Fits T)):Calls prog 150 #[pT g 0] w (lT w g gc L r):=by
 have hb1:Below w.heap.size w ((w.alloc (.cells gK 214)).alloc (.cells gK 214)):=((Below.refl _ _).alloc (aj _) _).alloc sM _;have k0:Has ((w.alloc (.cells gK 214)).alloc (.cells gK 214)) w.heap.size 214 (aN aQ):=by rw[gy];exact(Has.new w 214 _).alloc _
 have k1:Has ((w.alloc (.cells gK 214)).alloc (.cells gK 214)) (w.heap.size+1) 214 (aN aQ):=by rw[gy];exact Has.new' (w.alloc (.cells gK 214)) 214 _ (w.heap.size+1) sM
 have HT1:Hid (TR w g gc w.heap.size L r (aN aQ) (aN aQ) ((w.alloc (.cells gK 214)).alloc (.cells gK 214))):=hI ⟨h.after hb1,Turned.of_below hb1 _,k0,k1⟩;have hgl:=h.has.lt;obtain⟨tt,htt,WZ⟩:∃tt:Nat,(r.dr:Int)+1=(tt:Int)/\r.dr+1=tt:=⟨r.dr+1,oM,rfl⟩;have VA:=hf.out.dr;have qH:=hf.out.id;have HTT:=hI WZ;clear h hb1 k0 k1 WZ;go_enter func150,ntmps150;go_upto_region 1 with fail;generalize (w.alloc (.cells gK 214)).alloc (.cells gK 214)=w1 at*;generalize hG:w.heap.size=g0 at*;have HG:=hI hG;clear hG;have c91:=HT1.out.1.cell 91 dC ic;have f91:=HT1.out.1.free 91;go_upto_region 2 with fail;have HT2:Hid (TR w g gc g0 L (ek r tt 0) (aN aQ) (aN aQ) (w1.setCell ⟨g,91,none⟩ (I (tt:Int)))):=hI (HT1.out.set 91 (I (tt:Int)) (by rw[F8 hf.out.qs];exact rP r gc tt));clear c91 f91 htt HT1 VA;generalize w1.setCell ⟨g,91,none⟩ (I (tt:Int))=w2 at*;go_wp2_with fail;go_loopw [19] (λi wr=>∃k:Nat,k<=3/\i=I k/\Hid (TR w g gc g0 L (ek r tt k) (aN aQ) (aN aQ) wr)) (λi _=>3-(intOf i).toNat)
 case atStart=>exact⟨0,oM,rfl,HT2⟩
 case round=>
  clear HT2;obtain⟨k,hk,rfl,HR⟩:=hrel;by_cases hlt:k<3
  ·(have hki:(k:Int)<3:=by omega);have hsome:=rV (r:=r) (t:=tt) (k:=k) (i:=k) hlt;rw[if_neg oM]at hsome;obtain⟨b,hb⟩:∃b,r.some.getD k false=b:=⟨_,rfl⟩;obtain⟨cm,hcm⟩:∃cm,r.came.getD k 0=cm:=⟨_,rfl⟩;have abe:cm<=T:=hcm▸hf.out.came k;(have abf:tt<=T+1:=by have:=hf.out.dr;have:=HTT.out;omega);have Ys:=hI (F9 (r:=r) (t:=tt) hlt);rw[hb,hcm]at Ys;rw[hb]at hsome;have wS:Hid (∀wx,TR w g gc g0 L (ek r tt k) (aN aQ) (aN aQ) wx->wx.cell? ⟨g,28+k,none⟩=some (.bool b)/\wx.cell? ⟨g,91,none⟩=some (I (tt:Int))/\wx.cell? ⟨g,31+k,none⟩=some (I (cm:Int))/\wx.frozen? ⟨g,28+k,none⟩=false):=hI (λwx hx=>
    ⟨hx.1.cell (28+k) oM (by rw[fK hlt,hsome]),hx.1.cell 91 dC ic,hx.1.cell (31+k) oM (by rw[pH hlt];show I ((r.came.getD k 0:Nat):Int)=_;rw[hcm]),hx.1.free _⟩)
   have HST:Hid (∀wx v,TR w g gc g0 L (ek r tt k) (aN aQ) (aN aQ) wx->v=(b&&decide (tt<cm+3))->TR w g gc g0 L (ek r tt (k+1)) (aN aQ) (aN aQ) (wx.setCell ⟨g,28+k,none⟩ (.bool v))):=hI (λwx v hx hv=>by
    subst hv;refine hx.set (28+k) _ ?_;have:=pn (ek r tt k) gc k (b&&decide (tt<cm+3)) hlt (by unfold ek;simp);rw[Ys.out]at this;exact this)
   have Md:Hid (decide ((tt:Int)-(cm:Int)<3)=decide (tt<cm+3)):=hI (by rw[decide_eq_decide];omega);have hw1:IntKind.i64.wrap ((tt:Int)-(cm:Int))=(tt:Int)-(cm:Int):=WV oM oM;clear hsome hb hcm Ys;go_upto_region 5 with fail;have HW1:=hI hw1;clear hw1;obtain⟨rb,hrb⟩:∃rb,ek r tt (k+1)=rb:=⟨_,rfl⟩;rw[hrb]at HST;have HRB:=hI hrb;clear hrb;generalize ek r tt k=ra at*;cases b with
   |false=>
    refine eo kR [(0,pT g 0),(5,I (k:Int))] ⟨rfl,rfl,trivial⟩ 167 rfl [pT g 0,I (k:Int),pT g 0,I (k:Int),pT g 0,pT g 28,pT g (28+k),.bool false,.bool false,undef,undef,undef,undef,undef,undef,undef,undef,undef,undef,undef,undef,.bool false,pT g 0,pT g 28,pT g (28+k),undef] [25] [(TR w g gc g0 L ra (aN aQ) (aN aQ)),(TR w g gc g0 L rb (aN aQ) (aN aQ))] [22,23,24,25,26,27,28,29,30,31,32,33,34,35,36,37,38,39,40,41,42,43,44,45,46] kR (HR.out.drew) ?_ ?_
    ·intro b0 hb0;refine⟨?_,?_,?_,?_,?_,?_,?_,?_,?_,?_,?_,?_,?_,?_,?_,?_,?_,?_,?_,?_,?_,?_,?_,?_,?_,?Yt,trivial⟩
     case Yt=>refine .inr (.inr (.inl ⟨0,rfl,aM rfl (λli ac wx H hn av hM K hk=>?_)⟩));have e43:ac.tmps[43]?.getD undef=.bool false:=H.k av 21 43;exact zfD
     have hk0:(0:Int)<=(k:Int):=oM;all_goals first|exact kN dC rfl rfl rfl rfl sM rfl|(refine kP dC rfl hb0 (λac wx E K hk=>?_);simp[kn,Facts]at E;go_simp;exact hk)|(refine kE dC kR rfl hb0 (λac wx E hM K hk=>?_);simp[kn,Facts]at E;have hM1:(TR w g gc g0 L ra (aN aQ) (aN aQ)) wx:=hM;obtain⟨x1,x2,x3,x4⟩:=wS.out wx hM1;go_simp;exact hk _ hM)
    ·intro ac wx hF hK hM0;have hM:(TR w g gc g0 L rb (aN aQ) (aN aQ)) wx:=hM0;have aW:=hF.meet;simp only[bG,bS,ax,aI,aH]at aW;generalize ac.tmps.getD 22 undef=v22,ac.tmps.getD 23 undef=v23,ac.tmps.getD 24 undef=v24,ac.tmps.getD 25 undef=v25,ac.tmps.getD 26 undef=v26,ac.tmps.getD 27 undef=v27,ac.tmps.getD 28 undef=v28,ac.tmps.getD 29 undef=v29,ac.tmps.getD 30 undef=v30,ac.tmps.getD 31 undef=v31,ac.tmps.getD 32 undef=v32,ac.tmps.getD 33 undef=v33,ac.tmps.getD 34 undef=v34,ac.tmps.getD 35 undef=v35,ac.tmps.getD 36 undef=v36,ac.tmps.getD 37 undef=v37,ac.tmps.getD 38 undef=v38,ac.tmps.getD 39 undef=v39,ac.tmps.getD 40 undef=v40,ac.tmps.getD 41 undef=v41,ac.tmps.getD 42 undef=v42,ac.tmps.getD 43 undef=v43,ac.tmps.getD 44 undef=v44,ac.tmps.getD 45 undef=v45,ac.tmps.getD 46 undef=v46 at aW;clear hF hK hM0;subst aW;go_wp2_with fail;go_roundw
     case rel=>exact⟨k+1,oM,zfW,hI (by rw[HRB.out];exact hM)⟩
     case measure=>simp[intOf];omega
   |true=>
    refine eo kR [(0,pT g 0),(5,I (k:Int))] ⟨rfl,rfl,trivial⟩ 167 rfl [pT g 0,I (k:Int),pT g 0,I (k:Int),pT g 0,pT g 28,pT g (28+k),.bool true,.bool true,pT g 0,pT g 0,pT g 91,I (tt:Int),pT g 0,I (k:Int),pT g 0,pT g 31,pT g (31+k),I (cm:Int),I ((tt:Int)-(cm:Int)),.bool (decide (tt<cm+3)),.bool (decide (tt<cm+3)),pT g 0,pT g 28,pT g (28+k),undef] [25] [(TR w g gc g0 L ra (aN aQ) (aN aQ)),(TR w g gc g0 L rb (aN aQ) (aN aQ))] [22,23,24,25,26,27,28,29,30,31,32,33,34,35,36,37,38,39,40,41,42,43,44,45,46] kR (HR.out.drew) ?_ ?_
    ·intro b0 hb0;refine⟨?_,?_,?_,?_,?_,?_,?_,?_,?_,?_,?_,?_,?_,?_,?_,?_,?_,?_,?_,?s19,?s20,?_,?_,?_,?_,?Yt,trivial⟩
     case s19=>refine .inl ⟨dC,λM=>jd (j:=8) rfl rfl rfl rfl sM (λli ac wx H hn av hM K hk=>?_)⟩;have e34:ac.tmps[34]?.getD undef=I (tt:Int):=H.k av 12 34;have e40:ac.tmps[40]?.getD undef=I (cm:Int):=H.k av 18 40;have hw1:=HW1.out;clear av H;go_simp;exact hk _ hM
     case s20=>refine .inl ⟨dC,λM=>jd (j:=8) rfl rfl rfl rfl sM (λli ac wx H hn av hM K hk=>?_)⟩;have e41:ac.tmps[41]?.getD undef=I ((tt:Int)-(cm:Int)):=H.k av 19 41;have hd:=Md.out;clear av H;go_simp;exact hk _ hM
     case Yt=>refine .inr (.inr (.inl ⟨0,rfl,aM rfl (λli ac wx H hn av hM K hk=>?_)⟩));have e43:ac.tmps[43]?.getD undef=.bool (decide (tt<cm+3)):=H.k av 21 43;exact zfD
     have hk0:(0:Int)<=(k:Int):=oM;all_goals first|(refine kP dC rfl hb0 (λac wx E K hk=>?_);simp[kn,Facts]at E;go_simp;exact hk)|(refine Vx dC rfl rfl rfl rfl sM hb0 (λac wx E K hk=>?_);simp[kn,Facts]at E;go_simp;exact hk)|(refine kE dC kR rfl hb0 (λac wx E hM K hk=>?_);simp[kn,Facts]at E;have hM1:(TR w g gc g0 L ra (aN aQ) (aN aQ)) wx:=hM;obtain⟨x1,x2,x3,x4⟩:=wS.out wx hM1;go_simp;exact hk _ hM)|(refine Vy dC kR rfl rfl rfl rfl sM hb0 (λac wx E hM K hk=>?_);simp[kn,Facts]at E;have hM1:(TR w g gc g0 L ra (aN aQ) (aN aQ)) wx:=hM;obtain⟨x1,x2,x3,x4⟩:=wS.out wx hM1;go_simp;exact hk _ hM)
    ·intro ac wx hF hK hM0;have hM:(TR w g gc g0 L rb (aN aQ) (aN aQ)) wx:=hM0;have aW:=hF.meet;simp only[bG,bS,ax,aI,aH]at aW;generalize ac.tmps.getD 22 undef=v22,ac.tmps.getD 23 undef=v23,ac.tmps.getD 24 undef=v24,ac.tmps.getD 25 undef=v25,ac.tmps.getD 26 undef=v26,ac.tmps.getD 27 undef=v27,ac.tmps.getD 28 undef=v28,ac.tmps.getD 29 undef=v29,ac.tmps.getD 30 undef=v30,ac.tmps.getD 31 undef=v31,ac.tmps.getD 32 undef=v32,ac.tmps.getD 33 undef=v33,ac.tmps.getD 34 undef=v34,ac.tmps.getD 35 undef=v35,ac.tmps.getD 36 undef=v36,ac.tmps.getD 37 undef=v37,ac.tmps.getD 38 undef=v38,ac.tmps.getD 39 undef=v39,ac.tmps.getD 40 undef=v40,ac.tmps.getD 41 undef=v41,ac.tmps.getD 42 undef=v42,ac.tmps.getD 43 undef=v43,ac.tmps.getD 44 undef=v44,ac.tmps.getD 45 undef=v45,ac.tmps.getD 46 undef=v46 at aW;clear hF hK hM0;subst aW;go_wp2_with fail;go_roundw
     case rel=>exact⟨k+1,oM,zfW,hI (by rw[HRB.out];exact hM)⟩
     case measure=>simp[intOf];omega
  ·(have hk3:k=3:=by omega);subst hk3;clear hlt;obtain⟨f1,f2,I6⟩:∃f1 f2,fit L r.field=(f1,f2):=⟨_,_,rfl⟩;obtain⟨q0,hq0⟩:∃q0,ek r tt 3=q0:=⟨_,rfl⟩;obtain⟨id,Nr⟩:∃id,r.id=id:=⟨_,rfl⟩;obtain⟨q1,hq1⟩:∃q1:Re,q1={q0 with seen:=q0.seen.set id (f1,f2)}:=⟨_,rfl⟩;obtain⟨q2,hq2⟩:∃q2:Re,q2={q1 with some:=q1.some.set id true}:=⟨_,rfl⟩;obtain⟨q3,hq3⟩:∃q3:Re,q3={q2 with came:=q2.came.set id tt}:=⟨_,rfl⟩;have HQ:Hid (gi L r=q3):=hI (by rw[Ga,hq3,hq2,hq1,<-hq0,HTT.out,I6,Nr];rfl);(have e1:q0.id=id:=by rw[<-hq0];exact Nr);(have e2:q0.dr=tt:=by rw[<-hq0];rfl);(have e3:q0.field=r.field:=by rw[<-hq0];rfl);(have e4:q0.seen.length=3:=by rw[<-hq0];exact hf.out.mD);(have e5:q1.some.length=3:=by rw[hq1,<-hq0];unfold ek;simp);(have e6:q2.came.length=3:=by rw[hq2,hq1,<-hq0];exact hf.out.lS);have qu:id<3:=Nr▸qH;obtain⟨fx,hfx⟩:∃fx,r.field.1=fx:=⟨_,rfl⟩;obtain⟨fy,Yu⟩:∃fy,r.field.2=fy:=⟨_,rfl⟩;have oh:Hid (∀wx,TR w g gc g0 L q0 (aN aQ) (aN aQ) wx->wx.cell? ⟨g,0,none⟩=some (I (id:Int))/\wx.cell? ⟨g,20,none⟩=some (I fx)/\wx.cell? ⟨g,21,none⟩=some (I fy)/\wx.cell? ⟨g,91,none⟩=some (I (tt:Int))/\(∃v,wx.cell? ⟨g,22+id*2,none⟩=some v)/\(∃v,wx.cell? ⟨g,22+id*2+1,none⟩=some v)/\wx.frozen? ⟨g,22+id*2,none⟩=false/\wx.frozen? ⟨g,22+id*2+1,none⟩=false):=hI (λwx hx=>
    ⟨hx.1.cell 0 dC (by rw[mW,e1]),hx.1.cell 20 dC (by rw[zg,e3,hfx]),hx.1.cell 21 dC (by rw[zh,e3,Yu]),hx.1.cell 91 dC (by rw[ic,e2]),⟨_,hx.1.cell (22+id*2) oM (lQ qu)⟩,⟨_,hx.1.cell (22+id*2+1) oM (lR qu)⟩,hx.1.free _,hx.1.free _⟩)
   have C4:Hid (∀wx,TR w g gc g0 L q0 (aN aQ) (aN aQ) wx->TR w g gc g0 L q1 (aN aQ) (aN aQ) ((wx.setCell ⟨g,22+id*2,none⟩ (I (f1:Int))).setCell ⟨g,22+id*2+1,none⟩ (I (f2:Int)))):=hI (λwx hx=>hx.set2 _ _ _ _ (by rw[hq1];exact uz q0 gc id f1 f2 qu e4));have Me:Hid (∀wx,TR w g gc g0 L q1 (aN aQ) (aN aQ) wx->(∃v,wx.cell? ⟨g,28+id,none⟩=some v)/\wx.frozen? ⟨g,28+id,none⟩=false):=hI (λwx hx=>⟨⟨_,hx.1.cell (28+id) oM (fK qu)⟩,hx.1.free _⟩);have eE:Hid (∀wx,TR w g gc g0 L q1 (aN aQ) (aN aQ) wx->TR w g gc g0 L q2 (aN aQ) (aN aQ) (wx.setCell ⟨g,28+id,none⟩ (.bool true))):=hI (λwx hx=>hx.set _ _ (by rw[hq2];exact pn q1 gc id true qu e5));have C6:Hid (∀wx,TR w g gc g0 L q2 (aN aQ) (aN aQ) wx->(∃v,wx.cell? ⟨g,31+id,none⟩=some v)/\wx.frozen? ⟨g,31+id,none⟩=false):=hI (λwx hx=>⟨⟨_,hx.1.cell (31+id) oM (pH qu)⟩,hx.1.free _⟩);have HS2:Hid (∀wx,TR w g gc g0 L q2 (aN aQ) (aN aQ) wx->TR w g gc g0 L q3 (aN aQ) (aN aQ) (wx.setCell ⟨g,31+id,none⟩ (I (tt:Int)))):=hI (λwx hx=>hx.set _ _ (by rw[hq3];exact uy q2 gc id tt qu e6));have R7:Hid (∀wx,TR w g gc g0 L q0 (aN aQ) (aN aQ) wx->Calls prog 171 #[pT g 0,.agg #[I fx,I fy]] wx λe w'=>e=.returned (.agg #[I (f1:Int),I (f2:Int)])/\Below wx.heap.size wx w'):=hI (λwx hx=>by
    have h:=Np hx.1 hL fx fy;(have e:fit L (fx,fy)=(f1,f2):=by rw[<-hfx,<-Yu];exact I6);rw[e]at h;exact h)
   have hfs:lf (f1,f2):=by have e8:fit L r.field=(iI r.field.1 L.secs,iI r.field.2 L.routes.length):=rfl;rw[I6]at e8;injection e8 with e8 e9;refine⟨?_,?_⟩;show f1<4096;rw[e8];exact aT (qi _ _) (cn (n:=2) dC hL.uQ);show f2<4096;rw[e9];exact aT (qi _ _) (cn (n:=2) dC (show L.routes.length<=12 from aS hL.ja dC))
   have QG:Hid (∀k,lf (q3.seen.getD k (0,0))):=hI (λk=>by
    (have e7:q3.seen=q0.seen.set id (f1,f2):=by rw[hq3,hq2,hq1]);rw[e7,eZ _ _ _ _ _ oM];split;exact hfs
    ·rw[<-hq0];exact hf.out.seen k)
   have Q1:Hid (q3.id=id/\q3.cycle=r.cycle/\q3.seen.getD id (0,0)=(f1,f2)/\q3.dr=tt/\q3.state=r.state/\q3.some.length=3):=hI (by
    (have e7:q3.seen=q0.seen.set id (f1,f2):=by rw[hq3,hq2,hq1]);refine⟨by rw[hq3,hq2,hq1];exact e1,by rw[hq3,hq2,hq1,<-hq0];rfl,?_,by rw[hq3,hq2,hq1];exact e2,by rw[hq3,hq2,hq1,<-hq0];rfl,by rw[hq3,hq2];simp[e5]⟩;rw[e7,eZ _ _ _ _ _ oM,if_pos rfl])
   have HRR:Hid (TR w g gc g0 L q0 (aN aQ) (aN aQ) wr):=hI (hq0▸HR.out);clear HR hq0 hq1 hq2 hq3 e1 e2 e3 e4 e5 e6 hfx Yu I6 Nr qH;go_upto_region 7 with fail;go_cut [] (λwx=>(TR w g gc g0 L q3 (aN aQ) (aN aQ)) wx)
   case first=>
    rename_i J0 K0 hJ0 jx;have nR:=hI jx;clear jx;refine eo kR [(0,pT g 0)] ⟨rfl,trivial⟩ 167 rfl [pT g 0,pT g 0,pT g 0,pT g 0,I (id:Int),pT g 0,pT g 0,pT g 0,pT g 0,I (id:Int),pT g 0,pT g 0,pT g 0,pT g 0,I (id:Int),pT g 0,pT g 0,pT g 0,pT g 20,.agg #[I fx,I fy],.agg #[I (f1:Int),I (f2:Int)],pT g 0,pT g 0,pT g 91,I (tt:Int),pT g 0,pT g 22,pT g (22+id*2),undef,pT g 0,pT g 28,pT g (28+id),undef,pT g 0,pT g 31,pT g (31+id),undef] [28,32,36] [(TR w g gc g0 L q0 (aN aQ) (aN aQ)),(TR w g gc g0 L q1 (aN aQ) (aN aQ)),(TR w g gc g0 L q2 (aN aQ) (aN aQ)),(TR w g gc g0 L q3 (aN aQ) (aN aQ))] [48,49,50,51,52,53,54,55,56,57,58,59,60,61,62,63,64,65,66,67,68,69,70,71,72,73,74,75,76,77,78,79,80,81] kR (HRR.out.drew) ?_ ?_
    ·intro b0 hb0;refine⟨?_,?_,?_,?_,?_,?_,?_,?_,?_,?_,?_,?_,?_,?_,?_,?_,?_,?_,?_,?_,?s20,?_,?_,?_,?_,?_,?_,?s27,?Yv,?_,?_,?s31,?s32,?_,?_,?s35,?s36,trivial⟩
     case s20=>refine .inr (.inl ⟨dC,kR,aM rfl (λli ac wx H hn av hM K hk=>?_)⟩);have e63:ac.tmps[63]?.getD undef=pT g 0:=H.k av 15 63;have e67:ac.tmps[67]?.getD undef=.agg #[I fx,I fy]:=H.k av 19 67;have hM1:(TR w g gc g0 L q0 (aN aQ) (aN aQ)) wx:=hM;clear av H;go_simp;refine(R7.out wx hM1).mono ?_;rintro e w9 ⟨rfl,jw⟩;exact hk _ (hM1.after jw)
     case s27=>refine .inl ⟨dC,λM=>aM rfl (λli ac wx H hn av hM K hk=>?_)⟩;have e52:ac.tmps[52]?.getD undef=I (id:Int):=H.k av 4 52;have e74:ac.tmps[74]?.getD undef=pT g 22:=H.k av 26 74;exact zfJ
     case Yv=>refine .inr (.inr (.inl ⟨0,rfl,aM rfl (λli ac wx H hn av hM K hk=>?_)⟩));have e68:ac.tmps[68]?.getD undef=.agg #[I (f1:Int),I (f2:Int)]:=H.k av 20 68;have e75:ac.tmps[75]?.getD undef=pT g (22+id*2):=H.k av 27 75;have hM1:(TR w g gc g0 L q0 (aN aQ) (aN aQ)) wx:=hM;obtain⟨x1,x2,x3,x4,⟨y1,x5⟩,⟨y2,x6⟩,x7,x8⟩:=oh.out wx hM1;clear av H;go_simp;exact hk _ (C4.out wx hM1)
     case s31=>refine .inl ⟨dC,λM=>aM rfl (λli ac wx H hn av hM K hk=>?_)⟩;have e57:ac.tmps[57]?.getD undef=I (id:Int):=H.k av 9 57;have e77:ac.tmps[77]?.getD undef=pT g 28:=H.k av 30 77;exact zfJ
     case s32=>refine .inr (.inr (.inl ⟨1,rfl,aM rfl (λli ac wx H hn av hM K hk=>?_)⟩));have e78:ac.tmps[78]?.getD undef=pT g (28+id):=H.k av 31 78;have hM1:(TR w g gc g0 L q1 (aN aQ) (aN aQ)) wx:=hM;obtain⟨⟨y1,x1⟩,x2⟩:=Me.out wx hM1;clear av H;go_simp;exact hk _ (eE.out wx hM1)
     case s35=>refine .inl ⟨dC,λM=>aM rfl (λli ac wx H hn av hM K hk=>?_)⟩;have e62:ac.tmps[62]?.getD undef=I (id:Int):=H.k av 14 62;have e80:ac.tmps[80]?.getD undef=pT g 31:=H.k av 34 80;exact zfJ
     case s36=>refine .inr (.inr (.inl ⟨2,rfl,aM rfl (λli ac wx H hn av hM K hk=>?_)⟩));have e72:ac.tmps[72]?.getD undef=I (tt:Int):=H.k av 24 72;have e81:ac.tmps[81]?.getD undef=pT g (31+id):=H.k av 35 81;have hM1:(TR w g gc g0 L q2 (aN aQ) (aN aQ)) wx:=hM;obtain⟨⟨y1,x1⟩,x2⟩:=C6.out wx hM1;clear av H;go_simp;exact hk _ (HS2.out wx hM1)
     all_goals first|(refine kP dC rfl hb0 (λac wx E K hk=>?_);simp[kn,Facts]at E;go_simp;exact hk)|(refine kE dC kR rfl hb0 (λac wx E hM K hk=>?_);simp[kn,Facts]at E;have hM1:(TR w g gc g0 L q0 (aN aQ) (aN aQ)) wx:=hM;obtain⟨x1,x2,x3,x4,⟨y1,x5⟩,⟨y2,x6⟩,x7,x8⟩:=oh.out wx hM1;go_simp;exact hk _ hM)
    ·intro ac wx hF hK hM0;have hM:(TR w g gc g0 L q3 (aN aQ) (aN aQ)) wx:=hM0;have aW:=hF.meet;simp only[bG,bS,ax,aI,aH]at aW;refine nR.out _ _ (Met.intro (hJ0 _ _ ?_));(repeat apply Exists.intro);exact⟨hM,aW⟩
   case rest=>
    have yc:=hI hcut;clear hcut oh C4 Me eE C6 HS2 R7 HRR;obtain⟨Yw,Yx,VB,Q1d,Q1e,Q1f⟩:=Q1.out;obtain⟨cy,hcy⟩:∃cy,r.cycle=cy:=⟨_,rfl⟩;have c0:=yc.out.1.cell 0 dC (show dK q3 gc 0=I (id:Int)by rw[mW,Yw]);have c2:=yc.out.1.cell 2 dC (show dK q3 gc 2=I (cy:Int)by rw[fN,Yx,hcy]);have cs1:=yc.out.1.cell (22+id*2) oM (show dK q3 gc (22+id*2)=I (f1:Int)by rw[lQ qu,VB]);have cs2:=yc.out.1.cell (22+id*2+1) oM (show dK q3 gc (22+id*2+1)=I (f2:Int)by rw[lR qu,VB]);have HCY:=hI hcy;have QA:=hI Yw;have QB:=hI Yx;have QC:=hI VB;have QD:=hI Q1d;have QE:=hI Q1e;have QF:=hI Q1f;obtain⟨cP,R8⟩:∃cP,cA 1 id cy ((f1:Int),(f2:Int),0)=cP:=⟨_,rfl⟩;have R9:Hid (aN cP= #[I 1,I (id:Int),I (cy:Int),I (f1:Int),I (f2:Int),I 0,I 0,I 0,I 0,I 0,I 0,I 0,I 0,I 0,I 0,I 0,I 0,I 0,I 0,I 0,I 0,I 0,I 0]):=hI (by rw[<-R8];rfl);(have hs1:(prog.info? 214).map (·.size)=some (aN cP).size:=by rw[R9.out];exact dh);(have hs2:(aN aQ).size=(aN cP).size:=by rw[R9.out];rfl);have Sa:=hI R8;have eE:=hI hs1;have HS2:=hI hs2;have hk0:(0:Int)<=(id:Int):=oM;have hk1:(id:Int)<3:=oM;have k0:=hI yc.out.2.2.1.drew;clear Q1 Yw Yx VB Q1d Q1e Q1f hcy R8 hs1 hs2;go_upto_region 8 with fail;(go_still_tail 18,kR);change wpList _ _ _ _ _ wc.drew;clear c0 c2 cs1 cs2;(go_upto_region 9 with(refine wpList_store_row rfl 214 (.tmp 2) (.tmp 99) rfl g0 (aN cP) rfl (congrArg Value.agg R9.out.symm) 214 _ k0.out eE.out HS2.out (dZ _) ?_));have lU:Hid (TR w g gc g0 L q3 (aN cP) (aN aQ) (wc.drew.setRow g0 (aN cP))):=hI (TR.Ek (yc.out.after ((Below.refl _ _).drew)) (Nat.le_of_eq HG.out) (aN cP));clear yc k0 HS2;generalize wc.drew.setRow g0 (aN cP)=w8 at*;obtain⟨s0,hs0⟩:∃s,q3.some.getD 0 false=s:=⟨_,rfl⟩;obtain⟨s1,hs1⟩:∃s,q3.some.getD 1 false=s:=⟨_,rfl⟩;obtain⟨s2,hs2⟩:∃s,q3.some.getD 2 false=s:=⟨_,rfl⟩;have c28:=lU.out.1.cell 28 dC (show dK q3 gc 28=.bool s0 by rw[<-hs0];exact fK (k:=0) dC);have c29:=lU.out.1.cell 29 dC (show dK q3 gc 29=.bool s1 by rw[<-hs1];exact fK (k:=1) dC);have c30:=lU.out.1.cell 30 dC (show dK q3 gc 30=.bool s2 by rw[<-hs2];exact fK (k:=2) dC);have pK:Hid (∀k:Nat,k<3->∃sk,q3.some[k]?=some sk/\∀wx,(Instr.index 170 (.agg #[.bool s0,.bool s1,.bool s2]) (I (k:Int))).run prog wx=.ok (.bool sk) wx):=hI (λk hk=>by
     (have hg:∀i,i<3->q3.some[i]?=some (q3.some.getD i false):=λi hi=>by rw[aD,bg (by rw[QF.out];exact hi)];rfl);have:k=0\/k=1\/k=2:=oM;rcases this with rfl|rfl|rfl;exact⟨s0,by rw[hg 0 dC,hs0],λwx=>ix0 _ _ _ _⟩;exact⟨s1,by rw[hg 1 dC,hs1],λwx=>ix1 _ _ _ _⟩
     ·exact⟨s2,by rw[hg 2 dC,hs2],λwx=>ix2 _ _ _ _⟩)
    clear hs0 hs1 hs2;go_wp2_with fail;clear c28 c29 c30;go_loop [6,104] (λc i=>∃k:Nat,k<=3/\i=I k/\c=I (iL q3.some k:Nat)) (λ_ i=>3-(intOf i).toNat)
    case atStart=>exact⟨0,oM,rfl,rfl⟩
    case round=>
     obtain⟨k,hk,rfl,rfl⟩:=hrel;by_cases hlt:k<3
     ·(have hki:(k:Int)<3:=by omega);obtain⟨sk,hsk,hix⟩:=pK.out k hlt;have I3:=hix w8;have HHM:=hI (C5 hsk);have hle:=I5 q3.some k;clear hsk hix;cases sk with
      |false=>
       go_wp2_with fail;go_round
       case rel=>exact⟨k+1,oM,zfW,by rw[HHM.out];rfl⟩
       case measure=>simp[intOf];omega
      |true=>
       go_wp2_with fail;go_round
       case rel=>exact⟨k+1,oM,zfW,by rw[HHM.out,if_pos rfl];exact uv oM⟩
       case measure=>simp[intOf];omega
     ·(have hk3:k=3:=by omega);subst hk3;obtain⟨m,hm⟩:∃m,iL q3.some 3=m:=⟨_,rfl⟩;rw[hm];have HM:Hid (pF q3.some=m):=hI (by rw[<-hm,Gb QF.out]);clear hm hlt pK;have I7:Hid (ea L r=if m=1/\3<=tt then(q3,cP,asks q3,true)else if m=1\/m=2/\tt<3 then(q3,cP,aQ,false)else(q3,cP,cA 2 id cy (((fused q3).1:Nat),((fused q3).2:Nat),((step L ((fused q3).1:Nat) ((fused q3).2:Nat) q3.state).2:Nat)),true)):=hI (by
       unfold ea;rw[HQ.out];simp only[QA.out,QB.out,HCY.out,QC.out,QD.out,HM.out,Sa.out])
      have c91:=lU.out.1.cell 91 dC (show dK q3 gc 91=I (tt:Int)by rw[ic,QD.out]);by_cases h1:m=1
      ·(have t1:((m:Int)==1)=true:=zf5);by_cases h3:3<=tt
       ·(have t3:decide ((3:Int)<=(tt:Int))=true:=by rw[decide_eq_true_eq];omega);have C7:Hid (ea L r=(q3,cP,asks q3,true)):=hI (by rw[I7.out,if_pos ⟨h1,h3⟩]);clear I7 h1 h3;go_upto_region 17 with fail;clear t1 t3 c91;obtain⟨ak,hak⟩:∃ak,asks q3=ak:=⟨_,rfl⟩;rw[hak]at C7;(have Sb:ak.length=23:=by rw[<-hak];rfl);have HAK:=hI hak;have I8:Hid ((prog.info? 214).map (·.size)=some (aN ak).size):=hI (by rw[cY _ Sb];exact dh);have I1:Hid ((aN aQ).size=(aN ak).size):=hI (by rw[cY _ Sb];rfl);clear hak Sb;go_cut [4] (λs4 wx=>s4=.bool true/\(TR w g gc g0 L q3 (aN cP) (aN ak)) wx)
        case first=>
         rename_i J0 K0 hJ0 jx;have nR:=hI jx;clear jx;refine eo kR [(0,pT g 0),(2,pT g0 0),(3,pT (g0+1) 0)] ⟨rfl,rfl,rfl,trivial⟩ 167 rfl [.agg (aN cP),pT g 0,.agg (aN ak),undef,undef,.bool true] [3,4] [(TR w g gc g0 L q3 (aN cP) (aN aQ)),(TR w g gc g0 L q3 (aN cP) (aN aQ)),(TR w g gc g0 L q3 (aN cP) (aN ak))] [121,122,123,4] kR (lU.out.drew) ?_ ?_
         ·intro b0 hb0;refine⟨?s0,?_,?s2,?s3,?s4,?_,trivial⟩
          case s0=>obtain⟨f0,f2,f3,_⟩:=hb0;refine .inr (.inl ⟨dC,kR,aM rfl (λli ac wx H hn av hM K hk=>?_)⟩);have e2:ac.tmps[2]?.getD undef=pT g0 0:=bP ((H.cA.slot dC).trans (gX f2));have hM1:(TR w g gc g0 L q3 (aN cP) (aN aQ)) wx:=hM;clear av H;refine wp_load_row 214 (.tmp 2) rfl g0 (eval_at e2) 214 (aN cP) (0,0) _ hM1.2.2.1 underlying214 rfl eE.out ?_;exact hk _ hM
          case s2=>refine .inr (.inl ⟨dC,kR,aM rfl (λli ac wx H hn av hM K hk=>?_)⟩);have abg:ac.tmps[122]?.getD undef=pT g 0:=H.k av 1 122;have hM1:(TR w g gc g0 L q3 (aN cP) (aN aQ)) wx:=hM;clear av H;go_simp;refine(rU hM1.1).mono ?_;rintro e w9 ⟨rfl,jw⟩;rw[HAK.out];exact hk _ (hM1.after jw)
          case s3=>obtain⟨f0,f2,f3,_⟩:=hb0;refine .inr (.inr (.inl ⟨0,rfl,aM rfl (λli ac wx H hn av hM K hk=>?_)⟩));have e2:ac.tmps[2]?.getD undef=pT g0 0:=bP ((H.cA.slot dC).trans (gX f2));have aax:ac.tmps[121]?.getD undef=.agg (aN cP):=H.k av 0 121;have hM1:(TR w g gc g0 L q3 (aN cP) (aN aQ)) wx:=hM;clear av H;refine wp_store_row 214 (.tmp 2) (.tmp 121) rfl g0 (aN cP) (eval_at e2) (eval_at aax) 214 _ hM1.2.2.1 eE.out rfl (dZ _) ?_;exact hk _ (hM1.Ek (Nat.le_of_eq HG.out) (aN cP))
          case s4=>obtain⟨f0,f2,f3,_⟩:=hb0;refine .inr (.inr (.inl ⟨1,rfl,aM rfl (λli ac wx H hn av hM K hk=>?_)⟩));have e3:ac.tmps[3]?.getD undef=pT (g0+1) 0:=bP ((H.cA.slot dC).trans (gX f3));have aay:ac.tmps[123]?.getD undef=.agg (aN ak):=H.k av 2 123;have hM1:(TR w g gc g0 L q3 (aN cP) (aN aQ)) wx:=hM;clear av H;refine wp_store_row 214 (.tmp 3) (.tmp 123) rfl (g0+1) (aN ak) (eval_at e3) (eval_at aay) 214 _ hM1.2.2.2 I8.out I1.out (dZ _) ?_;exact hk _ (hM1.El (Nat.le_of_eq HG.out) (aN ak))
          all_goals first|(refine kP dC rfl hb0 (λac wx E K hk=>?_);simp[kn,Facts]at E;go_simp;exact hk)
         ·intro ac wx hF hK hM0;have hM:(TR w g gc g0 L q3 (aN cP) (aN ak)) wx:=hM0;have E4:=hK 5 _ rfl 4 rfl;have aW:=hF.meet;simp only[bG,bS,ax,aI,aH,E4]at aW;refine nR.out _ _ (Met.intro (hJ0 _ _ ?_));(repeat apply Exists.intro);exact⟨⟨rfl,hM⟩,aW⟩
        case rest=>obtain⟨rfl,I9⟩:=hcut;have ln:=hI I9;clear I9;go_wp2_with fail;refine bodyPost_ret (gG rfl _ _ g0 (g0+1) 214 (aN cP) (aN ak) _ rfl rfl ln.out.2.2.1 ln.out.2.2.2 underlying214 rfl eE.out I8.out) rfl ?_;unfold lT;rw[C7.out];exact⟨rfl,ln.out.1,ln.out.2.1⟩
       ·(have t3:decide ((3:Int)<=(tt:Int))=false:=zf9);have C7:Hid (ea L r=(q3,cP,aQ,false)):=hI zf2;have C2:Hid ((prog.info? 214).map (·.size)=some (aN aQ).size):=hI dh;clear I7 h1 h3;go_upto_region 19 with fail;clear t1 t3 c91;have ln:Hid (TR w g gc g0 L q3 (aN cP) (aN aQ) (w8.setRow g0 (aN cP))):=hI (lU.out.Ek (Nat.le_of_eq HG.out) (aN cP));go_wp2_with (first
         |(refine wpList_load_row rfl 214 (.tmp 2) rfl g0 rfl 214 (aN cP) (0,0) _ lU.out.2.2.1 underlying214 rfl eE.out ?_)
         |(refine wpList_store_row rfl 214 (.tmp 2) (.tmp 138) rfl g0 (aN cP) rfl rfl 214 _ lU.out.2.2.1 eE.out rfl (dZ _) ?_;change wpList _ _ _ _ _ (w8.setRow g0 (aN cP));generalize w8.setRow g0 (aN cP)=w9 at*;have nT:Hid (TR w g gc g0 L q3 (aN cP) (aN aQ) (w9.setRow (g0+1) (aN aQ))):=hI (ln.out.El (Nat.le_of_eq HG.out) (aN aQ)))
         |(refine wpList_store_row rfl 214 (.tmp 3) (.tmp 139) rfl (g0+1) (aN aQ) rfl rfl 214 _ ln.out.2.2.2 C2.out rfl (dZ _) ?_;change wpList _ _ _ _ _ (w9.setRow (g0+1) (aN aQ));generalize w9.setRow (g0+1) (aN aQ)=wa at*))
        exact zfF
      ·(have t1:((m:Int)==1)=false:=zf5);by_cases h2:m=2/\tt<3
       ·(have t3:decide ((tt:Int)<3)=true:=by rw[decide_eq_true_eq];omega);(have t2:((m:Int)==2)=true:=zf5);have h3:=h2.2;have C7:Hid (ea L r=(q3,cP,aQ,false)):=hI zf2;have C2:Hid ((prog.info? 214).map (·.size)=some (aN aQ).size):=hI dh;clear I7 h1 h3 h2;go_upto_region 19 with fail;clear t1 t3 c91 t2;have ln:Hid (TR w g gc g0 L q3 (aN cP) (aN aQ) (w8.setRow g0 (aN cP))):=hI (lU.out.Ek (Nat.le_of_eq HG.out) (aN cP));go_wp2_with (first
         |(refine wpList_load_row rfl 214 (.tmp 2) rfl g0 rfl 214 (aN cP) (0,0) _ lU.out.2.2.1 underlying214 rfl eE.out ?_)
         |(refine wpList_store_row rfl 214 (.tmp 2) (.tmp 138) rfl g0 (aN cP) rfl rfl 214 _ lU.out.2.2.1 eE.out rfl (dZ _) ?_;change wpList _ _ _ _ _ (w8.setRow g0 (aN cP));generalize w8.setRow g0 (aN cP)=w9 at*;have nT:Hid (TR w g gc g0 L q3 (aN cP) (aN aQ) (w9.setRow (g0+1) (aN aQ))):=hI (ln.out.El (Nat.le_of_eq HG.out) (aN aQ)))
         |(refine wpList_store_row rfl 214 (.tmp 3) (.tmp 139) rfl (g0+1) (aN aQ) rfl rfl 214 _ ln.out.2.2.2 C2.out rfl (dZ _) ?_;change wpList _ _ _ _ _ (w9.setRow (g0+1) (aN aQ));generalize w9.setRow (g0+1) (aN aQ)=wa at*))
        exact zfF
       ·have C7:Hid (ea L r=(q3,cP,cA 2 id cy (((fused q3).1:Nat),((fused q3).2:Nat),((step L ((fused q3).1:Nat) ((fused q3).2:Nat) q3.state).2:Nat)),true)):=hI (by rw[I7.out,if_neg oM,if_neg oM]);clear I7;have hst:=hf.out.state;obtain⟨st,dD⟩:∃st,r.state=st:=⟨_,rfl⟩;rw[dD]at hst;have BL:=hI hst;have BM:(eV st).length=17:=jv hst.lM hst.lN;obtain⟨i1,hi1⟩:∃i1,(fused q3).1=i1:=⟨_,rfl⟩;obtain⟨i2,hi2⟩:∃i2,(fused q3).2=i2:=⟨_,rfl⟩;obtain⟨st2,out,hsp⟩:∃st2 out,step L (i1:Int) (i2:Int) st=(st2,out):=⟨_,_,rfl⟩;(have uU:st2.Fits (2000+T+8):=by have:=uS (c:=(i1:Int)) (d:=(i2:Int)) hL hst;rw[hsp]at this;exact this);have rW:(eV st2).length=17:=jv uU.lM uU.lN;have kG:Hid (Calls prog 181 #[pT g 0] w8 λe w'=>e=.returned (.agg #[I (i1:Int),I (i2:Int)])/\Below w8.heap.size w8 w'):=hI (by
         have h:=OO lU.out.1 QG;rw[hi1,hi2]at h;exact h)
        have Ja:Hid (∀wx,fJ wx gc L->Calls prog 172 #[pT gc 0,.agg (cJ st),.agg #[I (i1:Int),I (i2:Int)]] wx λe w'=>e=.returned (.tuple #[.agg (cJ st2),I (out:Int)])/\Below wx.heap.size wx w'):=hI (λwx hc=>by
         have h:=step_ok gc L st (2000+T) (i1:Int) (i2:Int) wx hL oM BL.out hc;rw[hsp]at h;exact h)
        rw[hi1,hi2,QE.out,dD,hsp]at C7;have Sc:Hid (q3.state=st):=hI (by rw[QE.out,dD]);have C8:Hid (∀wx,cK wx g gc L q3->wx.rangeAt g 3 (eV st)):=hI (λwx hx=>by have h:=mX hx (by rw[Sc.out];exact BM);rw[Sc.out]at h;exact h);have HI1:Hid ((prog.info? 168).map (·.size)=some (eV st).length):=hI (by rw[BM];exact eW);have HI2:Hid ((prog.info? 168).map (·.size)=some (cJ st2).size):=hI (by unfold cJ;rw[bR,rW];exact eW);have HI3:Hid ((fg:bw).size=(cJ st2).size):=hI (by unfold cJ;rw[bR,bR,rW];rfl);have HI4:Hid ((cJ st2).all (·.oneCell')=true):=hI (by
         unfold cJ eV;exact all_oneCell_toArray λv hv=>by
          simp only[List.mem_cons,List.mem_append,ints,List.mem_map]at hv;rcases hv with rfl|⟨x,_,rfl⟩|⟨x,_,rfl⟩<;>rfl)
        have ye:Hid (∀wx,cK wx g gc L q3->wx.cell? ⟨g,0,none⟩=some (I (id:Int))/\wx.cell? ⟨g,1,none⟩=some (pT gc 0)/\wx.cell? ⟨g,2,none⟩=some (I (cy:Int))):=hI (λwx hx=>⟨hx.cell 0 dC (by rw[mW,QA.out]),hx.cell 1 dC kx,hx.cell 2 dC (by rw[fN,QB.out,HCY.out])⟩);clear hst dD BM hi1 hi2 hsp uU rW;(have hcs:(((m:Int)==2)=true/\decide ((tt:Int)<3)=false)\/((m:Int)==2)=false:=by by_cases h:m=2;exact .inl ⟨zf5,zf9⟩;exact .inr zf5);clear h1 h2;rcases hcs with⟨t2,t3⟩|t2
        ·go_upto_region 20 with fail;clear t1 t2 t3 c91;(go_upto_region 21 with(go_at_call 181;refine kG.out.mono ?_;rintro e w9 ⟨rfl,jw⟩));have k9:=Has.new w9 155 #[I (i1:Int),I (i2:Int)];have hba:Below w9.heap.size w9 (w9.alloc (.cells #[I (i1:Int),I (i2:Int)] 155)):=(Below.refl _ _).alloc (aj _) _;have nT:Hid (TR w g gc g0 L q3 (aN cP) (aN aQ) (w9.alloc (.cells #[I (i1:Int),I (i2:Int)] 155))):=hI ((lU.out.after jw).after hba);have K9:=hI k9;clear jw hba k9 kG;generalize w9.alloc (.cells #[I (i1:Int),I (i2:Int)] 155)=wa at*;generalize w9.heap.size=g9 at*;go_cut [11] (λs11 wx=>s11=I (out:Int)/\Hid (∃γ,(λ_=>(λwx=>TR w g gc g0 L q3 (aN cP) (aN aQ) wx/\Has wx g9 155 #[I (i1:Int),I (i2:Int)])) γ wx))
         case first=>
          rename_i J0 K0 hJ0 jx;have nR:=hI jx;clear jx;refine uA g0 kR (λb0=>b0.tmps.getD 0 undef=pT g 0/\b0.tmps.getD 9 undef=pT g9 0) ⟨rfl,rfl⟩ 167 rfl (λγ i=>([pT g 0,pT g 0,pT g 1,pT gc 0,pT g 0,pT g 0,pT g 3,.agg (cJ st),.agg #[I (i1:Int),I (i2:Int)],.tuple #[.agg (cJ st2),I (out:Int)],.tuple #[.agg (cJ st2),I (out:Int)],.agg (cJ st2),I (out:Int),pT γ 0,undef,I (out:Int)]:List ae).getD i undef) 13 168 fg [14] kR dC kR ?_ (λwx=>TR w g gc g0 L q3 (aN cP) (aN aQ) wx/\Has wx g9 155 #[I (i1:Int),I (i2:Int)]) (λj γ=>([λ_=>True,(λ_=>(λwx=>TR w g gc g0 L q3 (aN cP) (aN aQ) wx/\Has wx g9 155 #[I (i1:Int),I (i2:Int)])) γ]:List (aa->Prop)).getD j (λ_=>True)) [143,144,145,146,147,148,149,150,151,152,142,153,154,10,11] kR kR ⟨nT.out.drew,K9.out.drew⟩ ?_ ?_;intro γ γ' j hj;by_cases hjm:j<16;(have hcase:j=0\/j=1\/j=2\/j=3\/j=4\/j=5\/j=6\/j=7\/j=8\/j=9\/j=10\/j=11\/j=12\/j=13\/j=14\/j=15:=by omega);exact zfR;rw[aD,aD,bV zf5,bV zf5]
          ·intro b0 hb0 i o ho;have hi:i<16:=(az.1 ho).1;obtain⟨f0,f9⟩:=hb0;have hcase:i=0\/i=1\/i=2\/i=3\/i=4\/i=5\/i=6\/i=7\/i=8\/i=9\/i=10\/i=11\/i=12\/i=13\/i=14\/i=15:=oM;clear hi;rcases hcase with rfl|rfl|rfl|rfl|rfl|rfl|rfl|rfl|rfl|rfl|rfl|rfl|rfl|rfl|rfl|rfl<;>simp only[ba,bf,aY]at ho<;>cases ho
           ·exact zfu
           ·exact zfK
           ·exact zfL
           ·exact zfz
           ·exact zfu
           ·exact zfN
           ·exact zfM
           ·exact zfw
           ·exact zfy
           ·exact zft
           ·exact zfG
           ·exact zfs
           ·exact zfs
           ·refine .inr (.inr (.inl ⟨dC,rfl,rfl,λ_=>rfl,λwx hM1=>?_,λac wx K hk=>?_⟩));exact zfS;go_simp;exact hk
           ·exact zfq
           ·exact zfI
          ·intro γ ac wx hF hK hM0;have hM:(λ_=>(λwx=>TR w g gc g0 L q3 (aN cP) (aN aQ) wx/\Has wx g9 155 #[I (i1:Int),I (i2:Int)])) γ wx:=hM0;have Yy:=hK 15 _ rfl 11 rfl;have aW:=hF.meet;simp only[bG,bS,ax,aI,aH,Yy]at aW;refine nR.out _ _ (Met.intro (hJ0 _ _ ?_));(repeat apply Exists.intro);exact⟨⟨rfl,hI ⟨γ,hM⟩⟩,aW⟩
         case rest=>
          obtain⟨rfl,Jb⟩:=hcut;have wT:Hid ((λwx=>TR w g gc g0 L q3 (aN cP) (aN aQ) wx/\Has wx g9 155 #[I (i1:Int),I (i2:Int)]) wc):=hI zf1;have Si:Hid ((prog.info? 214).map (·.size)=some (aN (cA 2 (id:Int) (cy:Int) ((i1:Int),(i2:Int),(out:Int)))).size):=hI dh;clear Jb nT K9;go_upto_region 22 with fail;go_cut [4] (λs4 wx=>s4=.bool true/\(λwx=>TR w g gc g0 L q3 (aN cP) (aN (cA 2 (id:Int) (cy:Int) ((i1:Int),(i2:Int),(out:Int)))) wx/\Has wx g9 155 #[I (i1:Int),I (i2:Int)]) wx)
          case first=>
           rename_i J0 K0 hJ0 jx;have nR:=hI jx;clear jx;refine eo kR [(0,pT g 0),(2,pT g0 0),(3,pT (g0+1) 0),(9,pT g9 0),(11,I (out:Int))] ⟨rfl,rfl,rfl,rfl,rfl,trivial⟩ 167 rfl [.agg (aN cP),pT g 0,pT g 0,pT g 0,I (id:Int),pT g 0,pT g 0,pT g 2,I (cy:Int),.agg #[I (i1:Int),I (i2:Int)],I (out:Int),.agg (aN (cA 2 (id:Int) (cy:Int) ((i1:Int),(i2:Int),(out:Int)))),undef,undef,.bool true] [12,13] [(λwx=>TR w g gc g0 L q3 (aN cP) (aN aQ) wx/\Has wx g9 155 #[I (i1:Int),I (i2:Int)]),(λwx=>TR w g gc g0 L q3 (aN cP) (aN aQ) wx/\Has wx g9 155 #[I (i1:Int),I (i2:Int)]),(λwx=>TR w g gc g0 L q3 (aN cP) (aN (cA 2 (id:Int) (cy:Int) ((i1:Int),(i2:Int),(out:Int)))) wx/\Has wx g9 155 #[I (i1:Int),I (i2:Int)])] [155,156,157,158,159,160,161,162,163,164,165,166,4] kR ⟨wT.out.1.drew,wT.out.2.drew⟩ ?_ ?_
           ·intro b0 hb0;refine⟨?s0,?_,?_,?_,?s4,?_,?_,?_,?s8,?s9,?_,?_,?s12,?s13,?_,trivial⟩
            case s0=>exact zfx
            case s4=>refine .inr (.inr (.inr ⟨dC,1,13,rfl,kR,λj hj=>?_⟩));have hj2:j=0\/j=1:=oM;clear hj;rcases hj2 with rfl|rfl;exact zf4;exact zf4
            case s8=>refine .inr (.inr (.inr ⟨dC,1,13,rfl,kR,λj hj=>?_⟩));have hj2:j=0\/j=1:=oM;clear hj;rcases hj2 with rfl|rfl;exact zf3;exact zf3
            case s9=>obtain⟨f0,f2,f3,f9,f11,_⟩:=hb0;refine .inr (.inr (.inr ⟨dC,1,13,rfl,kR,λj hj=>?_⟩));have hj2:j=0\/j=1:=oM;clear hj;rcases hj2 with rfl|rfl;exact zfn;exact zfn
            case s12=>exact zfr
            case s13=>exact zfo
            all_goals first|(refine kP dC rfl hb0 (λac wx E K hk=>?_);simp[kn,Facts]at E;go_simp;exact hk)
           ·intro ac wx hF hK hM0;have hM:(λwx=>TR w g gc g0 L q3 (aN cP) (aN (cA 2 (id:Int) (cy:Int) ((i1:Int),(i2:Int),(out:Int)))) wx/\Has wx g9 155 #[I (i1:Int),I (i2:Int)]) wx:=hM0;have E4:=hK 14 _ rfl 4 rfl;have aW:=hF.meet;simp only[bG,bS,ax,aI,aH,E4]at aW;refine nR.out _ _ (Met.intro (hJ0 _ _ ?_));(repeat apply Exists.intro);exact⟨⟨rfl,hM⟩,aW⟩
          case rest=>exact zfA
        ·go_upto_region 20 with fail;clear t1 t2 c91;(go_upto_region 21 with(go_at_call 181;refine kG.out.mono ?_;rintro e w9 ⟨rfl,jw⟩));have k9:=Has.new w9 155 #[I (i1:Int),I (i2:Int)];have hba:Below w9.heap.size w9 (w9.alloc (.cells #[I (i1:Int),I (i2:Int)] 155)):=(Below.refl _ _).alloc (aj _) _;have nT:Hid (TR w g gc g0 L q3 (aN cP) (aN aQ) (w9.alloc (.cells #[I (i1:Int),I (i2:Int)] 155))):=hI ((lU.out.after jw).after hba);have K9:=hI k9;clear jw hba k9 kG;generalize w9.alloc (.cells #[I (i1:Int),I (i2:Int)] 155)=wa at*;generalize w9.heap.size=g9 at*;go_cut [11] (λs11 wx=>s11=I (out:Int)/\Hid (∃γ,(λ_=>(λwx=>TR w g gc g0 L q3 (aN cP) (aN aQ) wx/\Has wx g9 155 #[I (i1:Int),I (i2:Int)])) γ wx))
         case first=>
          rename_i J0 K0 hJ0 jx;have nR:=hI jx;clear jx;refine uA g0 kR (λb0=>b0.tmps.getD 0 undef=pT g 0/\b0.tmps.getD 9 undef=pT g9 0) ⟨rfl,rfl⟩ 167 rfl (λγ i=>([pT g 0,pT g 0,pT g 1,pT gc 0,pT g 0,pT g 0,pT g 3,.agg (cJ st),.agg #[I (i1:Int),I (i2:Int)],.tuple #[.agg (cJ st2),I (out:Int)],.tuple #[.agg (cJ st2),I (out:Int)],.agg (cJ st2),I (out:Int),pT γ 0,undef,I (out:Int)]:List ae).getD i undef) 13 168 fg [14] kR dC kR ?_ (λwx=>TR w g gc g0 L q3 (aN cP) (aN aQ) wx/\Has wx g9 155 #[I (i1:Int),I (i2:Int)]) (λj γ=>([λ_=>True,(λ_=>(λwx=>TR w g gc g0 L q3 (aN cP) (aN aQ) wx/\Has wx g9 155 #[I (i1:Int),I (i2:Int)])) γ]:List (aa->Prop)).getD j (λ_=>True)) [143,144,145,146,147,148,149,150,151,152,142,153,154,10,11] kR kR ⟨nT.out.drew,K9.out.drew⟩ ?_ ?_;intro γ γ' j hj;by_cases hjm:j<16;(have hcase:j=0\/j=1\/j=2\/j=3\/j=4\/j=5\/j=6\/j=7\/j=8\/j=9\/j=10\/j=11\/j=12\/j=13\/j=14\/j=15:=by omega);exact zfR;rw[aD,aD,bV zf5,bV zf5]
          ·intro b0 hb0 i o ho;have hi:i<16:=(az.1 ho).1;obtain⟨f0,f9⟩:=hb0;have hcase:i=0\/i=1\/i=2\/i=3\/i=4\/i=5\/i=6\/i=7\/i=8\/i=9\/i=10\/i=11\/i=12\/i=13\/i=14\/i=15:=oM;clear hi;rcases hcase with rfl|rfl|rfl|rfl|rfl|rfl|rfl|rfl|rfl|rfl|rfl|rfl|rfl|rfl|rfl|rfl<;>simp only[ba,bf,aY]at ho<;>cases ho
           ·exact zfu
           ·exact zfK
           ·exact zfL
           ·exact zfz
           ·exact zfu
           ·exact zfN
           ·exact zfM
           ·exact zfw
           ·exact zfy
           ·exact zft
           ·exact zfG
           ·exact zfs
           ·exact zfs
           ·refine .inr (.inr (.inl ⟨dC,rfl,rfl,λ_=>rfl,λwx hM1=>?_,λac wx K hk=>?_⟩));exact zfS;go_simp;exact hk
           ·exact zfq
           ·exact zfI
          ·intro γ ac wx hF hK hM0;have hM:(λ_=>(λwx=>TR w g gc g0 L q3 (aN cP) (aN aQ) wx/\Has wx g9 155 #[I (i1:Int),I (i2:Int)])) γ wx:=hM0;have Yy:=hK 15 _ rfl 11 rfl;have aW:=hF.meet;simp only[bG,bS,ax,aI,aH,Yy]at aW;refine nR.out _ _ (Met.intro (hJ0 _ _ ?_));(repeat apply Exists.intro);exact⟨⟨rfl,hI ⟨γ,hM⟩⟩,aW⟩
         case rest=>
          obtain⟨rfl,Jb⟩:=hcut;have wT:Hid ((λwx=>TR w g gc g0 L q3 (aN cP) (aN aQ) wx/\Has wx g9 155 #[I (i1:Int),I (i2:Int)]) wc):=hI zf1;have Si:Hid ((prog.info? 214).map (·.size)=some (aN (cA 2 (id:Int) (cy:Int) ((i1:Int),(i2:Int),(out:Int)))).size):=hI dh;clear Jb nT K9;go_upto_region 22 with fail;go_cut [4] (λs4 wx=>s4=.bool true/\(λwx=>TR w g gc g0 L q3 (aN cP) (aN (cA 2 (id:Int) (cy:Int) ((i1:Int),(i2:Int),(out:Int)))) wx/\Has wx g9 155 #[I (i1:Int),I (i2:Int)]) wx)
          case first=>
           rename_i J0 K0 hJ0 jx;have nR:=hI jx;clear jx;refine eo kR [(0,pT g 0),(2,pT g0 0),(3,pT (g0+1) 0),(9,pT g9 0),(11,I (out:Int))] ⟨rfl,rfl,rfl,rfl,rfl,trivial⟩ 167 rfl [.agg (aN cP),pT g 0,pT g 0,pT g 0,I (id:Int),pT g 0,pT g 0,pT g 2,I (cy:Int),.agg #[I (i1:Int),I (i2:Int)],I (out:Int),.agg (aN (cA 2 (id:Int) (cy:Int) ((i1:Int),(i2:Int),(out:Int)))),undef,undef,.bool true] [12,13] [(λwx=>TR w g gc g0 L q3 (aN cP) (aN aQ) wx/\Has wx g9 155 #[I (i1:Int),I (i2:Int)]),(λwx=>TR w g gc g0 L q3 (aN cP) (aN aQ) wx/\Has wx g9 155 #[I (i1:Int),I (i2:Int)]),(λwx=>TR w g gc g0 L q3 (aN cP) (aN (cA 2 (id:Int) (cy:Int) ((i1:Int),(i2:Int),(out:Int)))) wx/\Has wx g9 155 #[I (i1:Int),I (i2:Int)])] [155,156,157,158,159,160,161,162,163,164,165,166,4] kR ⟨wT.out.1.drew,wT.out.2.drew⟩ ?_ ?_
           ·intro b0 hb0;refine⟨?s0,?_,?_,?_,?s4,?_,?_,?_,?s8,?s9,?_,?_,?s12,?s13,?_,trivial⟩
            case s0=>exact zfx
            case s4=>refine .inr (.inr (.inr ⟨dC,1,13,rfl,kR,λj hj=>?_⟩));have hj2:j=0\/j=1:=oM;clear hj;rcases hj2 with rfl|rfl;exact zf4;exact zf4
            case s8=>refine .inr (.inr (.inr ⟨dC,1,13,rfl,kR,λj hj=>?_⟩));have hj2:j=0\/j=1:=oM;clear hj;rcases hj2 with rfl|rfl;exact zf3;exact zf3
            case s9=>obtain⟨f0,f2,f3,f9,f11,_⟩:=hb0;refine .inr (.inr (.inr ⟨dC,1,13,rfl,kR,λj hj=>?_⟩));have hj2:j=0\/j=1:=oM;clear hj;rcases hj2 with rfl|rfl;exact zfn;exact zfn
            case s12=>exact zfr
            case s13=>exact zfo
            all_goals first|(refine kP dC rfl hb0 (λac wx E K hk=>?_);simp[kn,Facts]at E;go_simp;exact hk)
           ·intro ac wx hF hK hM0;have hM:(λwx=>TR w g gc g0 L q3 (aN cP) (aN (cA 2 (id:Int) (cy:Int) ((i1:Int),(i2:Int),(out:Int)))) wx/\Has wx g9 155 #[I (i1:Int),I (i2:Int)]) wx:=hM0;have E4:=hK 14 _ rfl 4 rfl;have aW:=hF.meet;simp only[bG,bS,ax,aI,aH,E4]at aW;refine nR.out _ _ (Met.intro (hJ0 _ _ ?_));(repeat apply Exists.intro);exact⟨⟨rfl,hM⟩,aW⟩
          case rest=>exact zfA
end
end Go.Proofs.YtdhekhlmdefcnaaGreatDoor
namespace Go.Proofs.YtdhekhlmdefcnaaGreatDoor
open Go.RowKit
def vv(v:Vo)(j:Nat):Cm×Bool:=v.bF.getD j (Cm.zero,false)
def zR(vt:ae)(v:Vo):bw:=#[vt,I (vv v 0).1.1,I (vv v 0).1.2.1,I (vv v 0).1.2.2,.bool (vv v 0).2,I (vv v 1).1.1,I (vv v 1).1.2.1,I (vv v 1).1.2.2,.bool (vv v 1).2,I (vv v 2).1.1,I (vv v 2).1.2.1,I (vv v 2).1.2.2,.bool (vv v 2).2,I (v.out:Int),I v.time,I v.window,.bool v.bO]
def Yz(c:Cm):List ae:=[I c.1,I c.2.1,I c.2.2]
def gH(t:List Cm):List ae:=t.flatMap Yz
theorem Em:∀(t:List Cm)(k:Nat)(c:Cm),t[k]?=some c->(gH t)[3*k]?=some (I c.1)/\(gH t)[3*k+1]?=some (I c.2.1)/\(gH t)[3*k+2]?=some (I c.2.2)
 |[],k,c,h=>by simp at h
 |d::t,0,c,h=>by simp at h;subst h;exact⟨rfl,rfl,rfl⟩
 |d::t,k+1,c,h=>by rw[aY]at h;obtain⟨h1,h2,h3⟩:=Em t k c h;have e:gH (d::t)=I d.1::I d.2.1::I d.2.2::gH t:=rfl;rw[e,show 3*(k+1)=3*k+1+1+1 by omega];exact⟨h1,h2,h3⟩
theorem Mf(t:List Cm)(c:Cm):gH (t++[c])=gH t++[I c.1,I c.2.1,I c.2.2]:=by simp[gH,Yz]
structure fo(w:aa)(B g:Nat)(vt:ae)(v:Vo):Prop where
 has:Has w g 162 (zR vt v)
 own:w.ownsRow B 157 3 vt v.trace.length (gH v.trace)
 low:B<=g
structure Vo.Wf(v:Vo):Prop where
 out:v.out<8
 bF:v.bF.length=3
 many:v.trace.length<=1000
 more:v.bO=false->v.trace.length<1000/\1<=v.time
 time:v.time<=20
 low:0<=v.time
 window:1<=v.window/\v.window<=20
def FV(g:Nat)(vt:ae)(b:Nat):Prop:=b=g\/vt.ownBlock=some b
theorem fo.turned{F:cD}{w w':aa}{B g:Nat}{vt:ae}{v:Vo}(h:fo w B g vt v)(ht:Turned F w w')(hn:∀b,FV g vt b->¬F b):fo w' B g vt v:=
 ⟨h.has.turned ht (hn g (.inl rfl)),iF h.own ht λq hq=>hn q (.inr hq),h.low⟩
theorem fo.after{w w':aa}{B g:Nat}{vt:ae}{v:Vo}(h:fo w B g vt v)(hb:Below w.heap.size w w'):fo w' B g vt v:=⟨h.has.after hb,eD h.own hb,h.low⟩
theorem fo.ge{w:aa}{B g:Nat}{vt:ae}{v:Vo}(h:fo w B g vt v):∀b,FV g vt b->B<=b:=by intro b hb;rcases hb with rfl|hb;exact h.low;rcases h.own.2 with⟨rfl,_⟩|⟨g',_,_,rfl,hg,_⟩;simp[Value.ownBlock]at hb;(have:g'=b:=by simpa[Value.ownBlock]using hb);omega
theorem fo.slice{w:aa}{B g:Nat}{vt:ae}{v:Vo}(h:fo w B g vt v):∃A c,vt=.slice A v.trace.length c/\v.trace.length<=c/\∀k cm,v.trace[k]?=some cm->∃b,A=some ⟨b,0,none⟩/\vt.ownBlock=some b/\b<w.heap.size/\
 w.cell? ⟨b,k*3,none⟩=some (I cm.1)/\w.cell? ⟨b,k*3+1,none⟩=some (I cm.2.1)/\w.cell? ⟨b,k*3+2,none⟩=some (I cm.2.2):=by
 obtain⟨h1,h2⟩:=h.own;rcases h2 with⟨hv,hn⟩|⟨b,cap,cur,hv,hg,hh,hnc,_,_,ht⟩;refine⟨none,0,by rw[hv,hn],oM,λk cm hk=>?_⟩;have:=(aX.1 hk).1;omega
 ·refine⟨some ⟨b,0,none⟩,cap,hv,hnc,λk cm hk=>?_⟩;have hc:Has w b 157 cur:=hh;have key:∀j u,(gH v.trace)[j]?=some u->w.cell? ⟨b,j,none⟩=some u:=by intro j u hu;rw[hc.cell];rw[<-ht,List.getElem?_take]at hu;split at hu;simpa using hu;cases hu
  obtain⟨a1,a2,a3⟩:=Em _ _ _ hk;rw[Nat.mul_comm]at a1 a2 a3;exact⟨b,rfl,by rw[hv];rfl,hc.lt,key _ _ a1,key _ _ a2,key _ _ a3⟩
open Go.Proofs.Tryz
section
variable {w:aa}{B g:Nat}{vt:ae}{v:Vo}
theorem OQ(h:fo w B g vt v):Calls prog 139 #[pT g 0] w λe w'=>e=.returned (.tuple #[])/\fo w' B g vt {v with bO:=true}/\Turned (FV g vt) w w':=by have c16:=h.has.aJ 16 (.bool v.bO) rfl;have f16:=h.has.free 16;have k:=h.has.set 16 (.bool true);have ko:(w.setCell ⟨g,16,none⟩ (.bool true)).ownsRow B 157 3 vt v.trace.length (gH v.trace):=ew h.own h.has dC _ _;have kt:Turned (FV g vt) w (w.setCell ⟨g,16,none⟩ (.bool true)):=(Turned.refl _ _).setCell _ _ (.inl (.inl rfl));have hl:=h.low;clear h;go_enter func139,ntmps139;go_wp2;go_end0;exact⟨rfl,⟨k,ko,hl⟩,kt⟩
theorem Jc(h:fo w B g vt v):Calls prog 148 #[pT g 0] w λe w'=>e=.returned (.bool v.bO)/\w=w':=by have c16:=h.has.aJ 16 (.bool v.bO) rfl;clear h;go_enter func148,ntmps148;go_wp2;go_ret;exact⟨rfl,rfl⟩
theorem VC(h:fo w B g vt v):Calls prog 146 #[pT g 0] w λe w'=>e=.returned (I (v.out:Int))/\w=w':=by have c13:=h.has.aJ 13 (I (v.out:Int)) rfl;clear h;go_enter func146,ntmps146;go_wp2;go_ret;exact⟨rfl,rfl⟩
theorem Sn(h:fo w B g vt v)(hw:v.Wf):Calls prog 149 #[pT g 0] w λe w'=>e=.returned (.tuple #[])/\fo w' B g vt (eM v)/\Turned (FV g vt) w w':=by
 have c16:=h.has.aJ 16 (.bool v.bO) rfl;have f16:=h.has.free 16;have c14:=h.has.aJ 14 (I v.time) rfl;have f14:=h.has.free 14;have hl:=h.low;have HH:=hI h;clear h;cases hla:v.bO with
 |true=>rw[hla]at c16;have HE:Hid (eM v=v):=hI (by unfold eM;rw[hla];rfl);clear hla;go_enter func149,ntmps149;go_wp2;exact bodyPost_ret (results_none rfl _ _ _) rfl ⟨rfl,by rw[HE.out];exact HH.out,Turned.refl _ _⟩
 |false=>rw[hla]at c16;obtain⟨_,h1⟩:=hw.more hla;have h20:=hw.time;by_cases ht:v.time-1=0;have HE:Hid (eM v={v with time:=v.time-1,bO:=true}):=hI (by unfold eM;rw[hla,if_pos ht];rfl);(have hte:(v.time-1==0)=true:=by simpa using ht);have k:=(HH.out.has.set 14 (I (v.time-1))).set 16 (.bool true);have ko:((w.setCell ⟨g,14,none⟩ (I (v.time-1))).setCell ⟨g,16,none⟩ (.bool true)).ownsRow B 157 3 vt v.trace.length (gH v.trace):=ew (ew HH.out.own HH.out.has dC _ _) (HH.out.has.set 14 _) dC _ _;have kt:Turned (FV g vt) w ((w.setCell ⟨g,14,none⟩ (I (v.time-1))).setCell ⟨g,16,none⟩ (.bool true)):=((Turned.refl _ _).setCell _ _ (.inl (.inl rfl))).setCell _ _ (.inl (.inl rfl));exact zfE;have HE:Hid (eM v={v with time:=v.time-1}):=hI (by unfold eM;rw[hla,if_neg ht];rfl);(have hte:(v.time-1==0)=false:=by simpa using ht);have k:=HH.out.has.set 14 (I (v.time-1));have ko:(w.setCell ⟨g,14,none⟩ (I (v.time-1))).ownsRow B 157 3 vt v.trace.length (gH v.trace):=ew HH.out.own HH.out.has dC _ _;have kt:Turned (FV g vt) w (w.setCell ⟨g,14,none⟩ (I (v.time-1))):=(Turned.refl _ _).setCell _ _ (.inl (.inl rfl));exact zfE
theorem pL(h:fo w B g vt v)(k:Nat)(hk:k<v.trace.length):Calls prog 175 #[pT g 0,I k] w λe w'=>e=.returned (.agg (aN (dm v k)))/\Below w.heap.size w w':=by
 obtain⟨A,c,ol,hc,hget⟩:=h.slice;obtain⟨cm,hcm⟩:∃cm,v.trace[k]?=some cm:=⟨_,bg hk⟩;obtain⟨b,rfl,hb,hlt,a0,a1,a2⟩:=hget k cm hcm;have hE:aN (dm v k)= #[I 3,I 3,I k,I cm.1,I cm.2.1,I cm.2.2,I 0,I 0,I 0,I 0,I 0,I 0,I 0,I 0,I 0,I 0,I 0,I 0,I 0,I 0,I 0,I 0,I 0]:=by unfold dm;rw[aD,hcm];rfl
 have c0:w.cell? ⟨g,0,none⟩=some (.slice (some ⟨b,0,none⟩) v.trace.length c):=by rw[<-ol];exact h.has.aJ 0 _ rfl
 have hgl:=h.has.lt;have HE:=hI hE;generalize v.trace.length=n at*;clear h hget ol hcm hE hb;have hki:(k:Int)<(n:Int):=oM;go_enter func175,ntmps175;go_upto_region 1 with(fail);have k2:Has (w.alloc (.cells gK 214)) w.heap.size 214 (aN aQ):=by rw[gy];exact Has.new _ _ _
 have hb:Below w.heap.size w (w.alloc (.cells gK 214)):=(Below.refl _ _).alloc (aj _) _;have d0:=(hb.cell (p:=⟨g,0,none⟩) hgl).trans c0;have d1:=(hb.cell (p:=⟨b,k*3,none⟩) hlt).trans a0;have d2:=(hb.cell (p:=⟨b,k*3+1,none⟩) hlt).trans a1;have d3:=(hb.cell (p:=⟨b,k*3+2,none⟩) hlt).trans a2;clear c0 a0 a1 a2;generalize w.alloc (.cells gK 214)=w1 at*;generalize hG:w.heap.size=g4 at*;have HG:=hI hG;clear hG;go_still_tail 18,kR
 change wpList _ _ _ _ _ w1.drew;have hs1:(prog.info? 214).map (·.size)=some (aN (dm v k)).size:=by rw[HE.out];exact dh
 have hs2:(aN aQ).size=(aN (dm v k)).size:=by rw[HE.out];rfl
 have k3:=k2.drew;refine wpList_store_row rfl 214 (.tmp 4) (.tmp 22) rfl g4 (aN (dm v k)) rfl (by rw[HE.out];rfl) 214 _ k3 hs1 hs2 (dZ _) ?_;have hb5:=below_setRow (hb.drew) (aj _) (aN (dm v k));have k4:=k3.setRow (aN (dm v k));clear k3 k2 hb;generalize (w1.drew.setRow g4 (aN (dm v k)))=w2 at*;go_wp2;exact bodyPost_ret (results_cell_row rfl _ _ g4 _ (aN (dm v k)) _ _ rfl k4 underlying214 rfl hs1) rfl ⟨rfl,HG.out▸hb5⟩
theorem VD(n:Int)(h1:1<=n)(h2:n<=20)(w:aa):Calls prog 61 #[I n] w λe w'=>(e=.returned (.tuple #[pT w.heap.size 0,.nilIface])/\fo w' w.heap.size w.heap.size (.slice none 0 0) (Vo.new n))/\Below w.heap.size w w':=by have k:=Has.new w 162 (zR (.slice none 0 0) (Vo.new n));go_enter func61,ntmps61;go_wp2;go_ret2;exact⟨⟨rfl,k,World.ownsRow_nil _ _ _ _,aj _⟩,(Below.refl _ _).alloc (aj _) _⟩
theorem Jd(v:Vo)(cm:Cm)(h:v.bO=false)(hc:v.trace[v.trace.length-1]?=some cm):fD v=cm.2.2:=by unfold fD;rw[h,List.getLast?_eq_getElem?,hc];rfl
theorem OS(h:fo w B g vt v)(hw:v.trace.length<=1000):Calls prog 145 #[pT g 0] w λe w'=>e=.returned (I (fD v))/\∃q,w.drewN q=w':=by
 obtain⟨A,c,ol,hc,hget⟩:=h.slice;have c16:=h.has.aJ 16 (.bool v.bO) rfl;have c0:w.cell? ⟨g,0,none⟩=some (.slice A v.trace.length c):=by rw[<-ol];exact h.has.aJ 0 _ rfl
 have hgl:=h.has.lt;cases hl:v.bO with
 |true=>have HE:Hid (fD v=0):=hI (by unfold fD;rw[hl];rfl);rw[hl]at c16;clear h hget ol hl;exact zfV
 |false=>rw[hl]at c16;by_cases hn:v.trace.length=0;have HE:Hid (fD v=0):=hI (by unfold fD;rw[hl,List.getLast?_eq_none_iff.2 (cM hn)];rfl);(have ht:(((v.trace.length:Nat):Int)==0)=true:=by simp;exact cM hn);clear h hget ol hl hn;generalize v.trace.length=n at*;exact zfV;obtain⟨cm,hcm⟩:=bY v.trace (v.trace.length-1) oM;have HE:Hid (fD v=cm.2.2):=hI (Jd v cm hl hcm);obtain⟨b,rfl,hb,hlt,a0,a1,a2⟩:=hget _ cm hcm;obtain⟨m,hm⟩:∃m,v.trace.length=m+1:=⟨v.trace.length-1,oM⟩;rw[hm]at c0 a2 hc;have e1:m+1-1=m:=rfl;rw[e1]at a2;(have ht:((((m+1:Nat)):Int)==0)=false:=zf5);have YA:(m:Int)<(m:Int)+1:=oM;have aai:m<1000:=oM;clear h hget ol hl hn hm hcm a0 a1 hb;go_enter func145,ntmps145;go_wp2;go_quiet (fail);go_wp2;go_ret;exact⟨by rw[HE.out];rfl,_,rfl⟩
end
end Go.Proofs.YtdhekhlmdefcnaaGreatDoor
namespace Go.Proofs.YtdhekhlmdefcnaaGreatDoor
open Go.RowKit
section
variable {P:aF}{ops:Array Oper}{Q:Exit->Act->aa->Prop}
end
section
variable {ty:aw}{ps:String}{af:Array Edge}{g:Option (Nat×Bool)}{a:Act}{w:aa}{K:Act->aa->Prop}{Q:Exit->Act->aa->Prop}
end
open Go.Proofs.Tryz
def pop(x:Nat):Nat:=((List.range 8).filter λi=>x.testBit i).length
theorem OT(x:Nat)(hx:x<256)(w:aa):Calls prog 180 #[.int .u64 x] w λe w'=>e=.returned (I (pop x))/\w=w':=by go_enter func180,ntmps180;go_wp2;go_ret;refine⟨congrArg (λz=>Ending.returned (.int .i64 z)) ?_,rfl⟩;clear w;revert x;decide+kernel
theorem lg(x:Nat)(hx:x<256)(w:aa):Calls prog 141 #[.int .u64 x] w λe w'=>e=.returned (I (pop x))/\w=w':=by
 go_enter func141,ntmps141;go_wp2_with (go_at_call 180;refine(OT x hx _).mono ?_;rintro e w' ⟨rfl,rfl⟩)
 go_ret;exact⟨rfl,rfl⟩
theorem OU:∀o:Nat,o<8->(decide ((1:Int)<(pop o:Int)))=(decide (o=3)||decide (o=5)||decide (o=6)||decide (o=7)):=dC
theorem Mg(cs:bw)(h:cs.size=23):∃a0 a1 a2 a3 a4 a5 a6 a7 a8 a9 mY mZ a12 rX rY rZ a16 a17 yg yh a20 a21 a22,cs= #[a0,a1,a2,a3,a4,a5,a6,a7,a8,a9,mY,mZ,a12,rX,rY,rZ,a16,a17,yg,yh,a20,a21,a22]:=by
 obtain⟨l⟩:=cs
 match l,h with
 |[a0,a1,a2,a3,a4,a5,a6,a7,a8,a9,mY,mZ,a12,rX,rY,rZ,a16,a17,yg,yh,a20,a21,a22],_=>exact⟨a0,a1,a2,a3,a4,a5,a6,a7,a8,a9,mY,mZ,a12,rX,rY,rZ,a16,a17,yg,yh,a20,a21,a22,rfl⟩
theorem C9(a0 a1 a2 a3 a4 a5 a6 a7 a8 a9 mY mZ a12 rX rY rZ a16 a17 yg yh a20 a21 a22:ae)(w:aa):(Instr.buildSlice 221 1 #[(0,.agg #[a0,a1,a2,a3,a4,a5,a6,a7,a8,a9,mY,mZ,a12,rX,rY,rZ,a16,a17,yg,yh,a20,a21,a22])]).run prog w=.ok (.slice (some ⟨w.heap.size,0,none⟩) 1 1) (w.alloc (.cells #[a0,a1,a2,a3,a4,a5,a6,a7,a8,a9,mY,mZ,a12,rX,rY,rZ,a16,a17,yg,yh,a20,a21,a22] 214)):=kR
theorem Da(a0 a1 a2 a3 a4 a5 a6 a7 a8 a9 mY mZ a12 rX rY rZ a16 a17 yg yh a20 a21 a22:ae)(b0 b1 b2 b3 b4 b5 b6 b7 b8 b9 b10 b11 b12 b13 b14 b15 b16 b17 b18 b19 b20 Sp Sq:ae)(w:aa):(Instr.buildSlice 221 2 #[(0,.agg #[a0,a1,a2,a3,a4,a5,a6,a7,a8,a9,mY,mZ,a12,rX,rY,rZ,a16,a17,yg,yh,a20,a21,a22]),(1,.agg #[b0,b1,b2,b3,b4,b5,b6,b7,b8,b9,b10,b11,b12,b13,b14,b15,b16,b17,b18,b19,b20,Sp,Sq])]).run prog w=.ok (.slice (some ⟨w.heap.size,0,none⟩) 2 2) (w.alloc (.cells #[a0,a1,a2,a3,a4,a5,a6,a7,a8,a9,mY,mZ,a12,rX,rY,rZ,a16,a17,yg,yh,a20,a21,a22,b0,b1,b2,b3,b4,b5,b6,b7,b8,b9,b10,b11,b12,b13,b14,b15,b16,b17,b18,b19,b20,Sp,Sq] 214)):=kR
theorem Gc(cs:bw)(h:cs.size=23)(w:aa):(Instr.buildSlice 221 1 #[(0,.agg cs)]).run prog w=.ok (.slice (some ⟨w.heap.size,0,none⟩) 1 1) (w.alloc (.cells cs 214)):=by obtain⟨a0,a1,a2,a3,a4,a5,a6,a7,a8,a9,mY,mZ,a12,rX,rY,rZ,a16,a17,yg,yh,a20,a21,a22,rfl⟩:=Mg cs h;exact C9 _ _ _ _ _ _ _ _ _ _ _ _ _ _ _ _ _ _ _ _ _ _ _ w
theorem Gd(cs ds:bw)(h:cs.size=23)(h':ds.size=23)(w:aa):(Instr.buildSlice 221 2 #[(0,.agg cs),(1,.agg ds)]).run prog w=.ok (.slice (some ⟨w.heap.size,0,none⟩) 2 2) (w.alloc (.cells (cs++ds) 214)):=by
 obtain⟨a0,a1,a2,a3,a4,a5,a6,a7,a8,a9,mY,mZ,a12,rX,rY,rZ,a16,a17,yg,yh,a20,a21,a22,rfl⟩:=Mg cs h;obtain⟨b0,b1,b2,b3,b4,b5,b6,b7,b8,b9,b10,b11,b12,b13,b14,b15,b16,b17,b18,b19,b20,Sp,Sq,rfl⟩:=Mg ds h';have e:(#[a0,a1,a2,a3,a4,a5,a6,a7,a8,a9,mY,mZ,a12,rX,rY,rZ,a16,a17,yg,yh,a20,a21,a22]++ #[b0,b1,b2,b3,b4,b5,b6,b7,b8,b9,b10,b11,b12,b13,b14,b15,b16,b17,b18,b19,b20,Sp,Sq]:bw)= #[a0,a1,a2,a3,a4,a5,a6,a7,a8,a9,mY,mZ,a12,rX,rY,rZ,a16,a17,yg,yh,a20,a21,a22,b0,b1,b2,b3,b4,b5,b6,b7,b8,b9,b10,b11,b12,b13,b14,b15,b16,b17,b18,b19,b20,Sp,Sq]:=by simp only[List.append_toArray,List.cons_append,List.nil_append]
 rw[e];exact Da _ _ _ _ _ _ _ _ _ _ _ _ _ _ _ _ _ _ _ _ _ _ _ _ _ _ _ _ _ _ _ _ _ _ _ _ _ _ _ _ _ _ _ _ _ _ w
section
variable {o:Oper}{a:Act}{w:aa}{ops:Array Oper}{rest:List Oper}{Q:Exit->Act->aa->Prop}
theorem fO(hg:o.guard=none)(x:Operand)(ho:o.op=.buildSlice 221 1 #[(0,x)])(cs:bw)(hs:a.eval x=.agg cs)(h:cs.size=23)
 (hk:wpList prog ops Q rest (a.put o.dst (.slice (some ⟨w.heap.size,0,none⟩) 1 1)) (w.alloc (.cells cs 214))):wpList prog ops Q (o::rest) a w:=
 wpList_plain hg λK hK=>by unfold Oper.wp execOp;simp only[ho,List.map_toArray,List.map_cons,List.map_nil,hs,Sem.run_bind,Gc cs h,Result.andThen_ok];exact hK _ _ hk
theorem zS(hg:o.guard=none)(x y:Operand)(ho:o.op=.buildSlice 221 2 #[(0,x),(1,y)])(cs ds:bw)(hs:a.eval x=.agg cs)(hs':a.eval y=.agg ds)(h:cs.size=23)(h':ds.size=23)
 (hk:wpList prog ops Q rest (a.put o.dst (.slice (some ⟨w.heap.size,0,none⟩) 2 2)) (w.alloc (.cells (cs++ds) 214))):wpList prog ops Q (o::rest) a w:=
 wpList_plain hg λK hK=>by unfold Oper.wp execOp;simp only[ho,List.map_toArray,List.map_cons,List.map_nil,hs,hs',Sem.run_bind,Gd cs ds h h',Result.andThen_ok];exact hK _ _ hk
end
theorem Ns:(prog.info? 157).map (λi=>(i.zero,i.size,i.bytes))=some (some (.agg #[.int .i64 0,.int .i64 0,.int .i64 0]),3,24):=kR
theorem OV(t:List Cm):∀u∈gH t,u.oneCell'=true:=by intro u hu;unfold gH at hu;obtain⟨c,_,hc⟩:=List.mem_flatMap.1 hu;simp[Yz]at hc;rcases hc with rfl|rfl|rfl<;>rfl
section
variable {w:aa}{B g:Nat}{vt:ae}{v:Vo}
theorem OW(h:fo w B g vt v)(hw:v.trace.length<=1000):Calls prog 151 #[pT g 0] w λe w'=>(∃vr,e=.returned vr/\w'.ownsRow w.heap.size 157 3 vr v.trace.length (gH v.trace))/\Below w.heap.size w w':=by
 obtain⟨i0,hi0,hz0,hz1,hz2⟩:=info_parts Ns;obtain⟨A,c,ol,hc,hlen,hA,hR⟩:=ix h.own;have c0:w.cell? ⟨g,0,none⟩=some (.slice A v.trace.length c):=by rw[<-ol];exact h.has.aJ 0 _ rfl
 have hgl:=h.has.lt;have HA:=hI hA;have HR:=hI hR;have HL:=hI hlen;clear h ol hA hR hlen;generalize v.trace.length=n at*;go_enter func151,ntmps151;go_wp2_with (at_builtin;go_loud (refine il rfl (.tmp 3) (.tmp 7) 153 rfl w.heap.size 157 i0 (.agg #[.int .i64 0,.int .i64 0,.int .i64 0]) 3 24 underlying153 hi0 hz0 hz1 hz2 rfl dC _ _ _ rfl (World.ownsRow_lit w #[] 0 (aj _) (bT _) rfl) w.heap.size A n c (gH v.trace) rfl HA.out HL.out ?c2 (OV _) ?c3 ?c4 ?c5 ?_))
 case c2=>exact HR.out.alloc (aj _) _
 case c3=>unfold maxLen;omega
 case c4=>omega
 case c5=>simp
 intro v1 w1 hown1 hgrow1;have hb1:Below w.heap.size w w1:=((Below.refl _ _).alloc (aj _) _).grown hgrow1 sM (λq hq=>by simp[Value.ownBlock]at hq;omega);have rG:Hid (w1.ownsRow w.heap.size 157 3 v1 n (gH v.trace)):=hI (by simpa using hown1);have HB:=hI hb1;clear hown1 hgrow1 hb1;go_wp2;go_ret;exact⟨⟨_,rfl,rG.out⟩,HB.out⟩
theorem wU(a0 a1 a2 a3 a4 a5 a6 a7 a8 a9 mY mZ:ae)(w:aa):(Instr.index 160 (.agg #[a0,a1,a2,a3,a4,a5,a6,a7,a8,a9,mY,mZ]) (.int .i64 0)).run prog w=.ok (.agg #[a0,a1,a2,a3]) w:=kR
theorem wV(a0 a1 a2 a3 a4 a5 a6 a7 a8 a9 mY mZ:ae)(w:aa):(Instr.index 160 (.agg #[a0,a1,a2,a3,a4,a5,a6,a7,a8,a9,mY,mZ]) (.int .i64 1)).run prog w=.ok (.agg #[a4,a5,a6,a7]) w:=kR
theorem wW(a0 a1 a2 a3 a4 a5 a6 a7 a8 a9 mY mZ:ae)(w:aa):(Instr.index 160 (.agg #[a0,a1,a2,a3,a4,a5,a6,a7,a8,a9,mY,mZ]) (.int .i64 2)).run prog w=.ok (.agg #[a8,a9,mY,mZ]) w:=kR
theorem yi(bF:List (Cm×Bool))(c:Cm)(out:Nat)(h:out<8):∀k,k<=3->cE bF c out k<8
 |0,_=>h
 |k+1,hk=>by have ih:=yi bF c out h k oM;rw[cE];split;exact Nat.or_lt_two_pow (n:=3) ih (by rw[Nat.shiftLeft_eq,Nat.one_mul];exact Nat.pow_lt_pow_right dC oM);exact ih
def mv(x:Cm×Bool)(c:Cm):Bool:=x.2&&decide (x.1.1=c.1)&&decide (x.1.2.1=c.2.1)&&!decide (x.1.2.2=c.2.2)
theorem sf(v:Vo)(c:Cm)(out k:Nat):cE v.bF c out (k+1)=if mv (vv v k) c then cE v.bF c out k|||1<<<k else cE v.bF c out k:=by rw[cE];unfold mv vv;by_cases h:(v.bF.getD k (Cm.zero,false)).2=true/\(v.bF.getD k (Cm.zero,false)).1.1=c.1/\(v.bF.getD k (Cm.zero,false)).1.2.1=c.2.1/\(v.bF.getD k (Cm.zero,false)).1.2.2≠c.2.2;obtain⟨h1,h2,h3,h4⟩:=h;rw[if_pos ⟨h1,h2,h3,h4⟩,if_pos (by simp only[aV,decide_eq_true_eq,Bool.not_eq_true',decide_eq_false_iff_not];exact⟨⟨⟨h1,h2⟩,h3⟩,h4⟩)];rw[if_neg h,if_neg];intro h2;apply h;simp only[aV,decide_eq_true_eq,Bool.not_eq_true',decide_eq_false_iff_not]at h2;exact⟨h2.1.1.1,h2.1.1.2,h2.1.2,h2.2⟩
def uh(vt:ae)(x0 x1 x2:Cm×Bool)(out:Nat)(time window:Int)(bO:Bool):bw:=#[vt,I x0.1.1,I x0.1.2.1,I x0.1.2.2,.bool x0.2,I x1.1.1,I x1.1.2.1,I x1.1.2.2,.bool x1.2,I x2.1.1,I x2.1.2.1,I x2.1.2.2,.bool x2.2,I (out:Int),I time,I window,.bool bO]
theorem Mh(vt:ae)(x0 x1 x2:Cm×Bool)(o:Nat)(t wi:Int)(la:Bool):((((((((((((((uh vt x0 x1 x2 o t wi la).setIfInBounds 1 (I 0)).setIfInBounds 2 (I 0)).setIfInBounds 3 (I 0)).setIfInBounds 4 (.bool false)).setIfInBounds 5 (I 0)).setIfInBounds 6 (I 0)).setIfInBounds 7 (I 0)).setIfInBounds 8 (.bool false)).setIfInBounds 9 (I 0)).setIfInBounds 10 (I 0)).setIfInBounds 11 (I 0)).setIfInBounds 12 (.bool false)).setIfInBounds 14 (I wi))=uh vt (Cm.zero,false) (Cm.zero,false) (Cm.zero,false) o wi wi la:=by simp only[uh,ax,aI,aH];rfl
theorem si(h:fo w B g vt v)(hw:v.Wf)(hn:v.trace.length<1000)(_hB:B<=w.heap.size)(c:Cm):Calls prog 176 #[pT g 0,.agg #[I c.1,I c.2.1,I c.2.2]] w λe w'=>
 (∃gr,e=.returned (.slice (some ⟨gr,0,none⟩) 1 1)/\w.heap.size<=gr/\Has w' gr 214 (aN (dm (cT v c) v.trace.length)))/\
 (∃mG,fo w' B g mG (cT v c)/\(mG.ownBlock=vt.ownBlock\/∃b,w.heap.size<=b/\mG.ownBlock=some b))/\Turned (FV g vt) w w':=by
 obtain⟨i0,hi0,hz0,hz1,hz2⟩:=info_parts Ns;have kd:Has w g 162 (uh vt (vv v 0) (vv v 1) (vv v 2) v.out v.time v.window v.bO):=h.has;have H0:=hI (sf v c v.out 0);have H1:=hI (sf v c v.out 1);have H2:=hI (sf v c v.out 2);have pM:=hI (yi v.bF c v.out hw.out);have HOW:=hI h.own;have hlow:=h.low;have HW:=hI hw;have hz:cE v.bF c v.out 0=v.out:=rfl;have HZ:=hI hz;clear h hw hz;generalize vv v 0=x0 at*;generalize vv v 1=x1 at*;generalize vv v 2=x2 at*;have hg1:=kd.lt;have k1:=kd.alloc (.cells #[I c.1,I c.2.1,I c.2.2] 157);have kb:=Has.new w 157 #[I c.1,I c.2.1,I c.2.2];have ho1:=hI (HOW.out.alloc (.cells #[I c.1,I c.2.1,I c.2.2] 157));have ht1:Turned (FV g vt) w (w.alloc (.cells #[I c.1,I c.2.1,I c.2.2] 157)):=(Turned.refl _ _).alloc _;have HT1:=hI ht1;have hs1:(w.alloc (.cells #[I c.1,I c.2.1,I c.2.2] 157)).heap.size=w.heap.size+1:=sM;have eE:Hid (w.heap.size<=(w.alloc (.cells #[I c.1,I c.2.1,I c.2.2] 157)).heap.size):=hI oM;clear ht1 hs1 kd;go_enter func176,ntmps176;go_upto_region 1 with(fail);generalize w.alloc (.cells #[I c.1,I c.2.1,I c.2.2] 157)=w1 at*;have c1:=k1.aJ 1 (I x0.1.1) rfl;have c2:=k1.aJ 2 (I x0.1.2.1) rfl;have c3:=k1.aJ 3 (I x0.1.2.2) rfl;have c4:=k1.aJ 4 (.bool x0.2) rfl;have c5:=k1.aJ 5 (I x1.1.1) rfl;have c6:=k1.aJ 6 (I x1.1.2.1) rfl;have c7:=k1.aJ 7 (I x1.1.2.2) rfl;have c8:=k1.aJ 8 (.bool x1.2) rfl;have c9:=k1.aJ 9 (I x2.1.1) rfl;have c10:=k1.aJ 10 (I x2.1.2.1) rfl;have c11:=k1.aJ 11 (I x2.1.2.2) rfl;have c12:=k1.aJ 12 (.bool x2.2) rfl;go_wp2_with fail;clear c1 c2 c3 c4 c5 c6 c7 c8 c9 c10 c11 c12;generalize hG:w.heap.size=g0 at*;have HG:=hI hG;clear hG;go_loopw [11] (λi wr=>∃k:Nat,k<=3/\i=I k/\Has wr g 162 (uh vt x0 x1 x2 (cE v.bF c v.out k) v.time v.window v.bO)/\Has wr g0 157 #[I c.1,I c.2.1,I c.2.2]/\Hid (wr.ownsRow B 157 3 vt v.trace.length (gH v.trace))/\Hid (Turned (FV g vt) w wr)/\w1.heap.size<=wr.heap.size) (λi _=>3-(intOf i).toNat)
 case atStart=>exact⟨0,oM,rfl,k1,kb,ho1,HT1,aj _⟩
 case round=>
  clear k1 kb ho1 HT1;obtain⟨k,hk,rfl,ka,kb,ho,HT,hsz⟩:=hrel;by_cases hlt:k<3
  ·(have hcase:k=0\/k=1\/k=2:=by omega);have hga:=ka.lt;have hgb:=kb.lt;have b0:=kb.aJ 0 _ rfl;have b1:=kb.aJ 1 _ rfl;have b2:=kb.aJ 2 _ rfl;have o13:=ka.aJ 13 (I (cE v.bF c v.out k)) rfl;have f13:=ka.free 13;have hq8:=pM.out k oM;rcases hcase with rfl|rfl|rfl
   ·have hix:=wU (I x0.1.1) (I x0.1.2.1) (I x0.1.2.2) (.bool x0.2) (I x1.1.1) (I x1.1.2.1) (I x1.1.2.2) (.bool x1.2) (I x2.1.1) (I x2.1.2.1) (I x2.1.2.2) (.bool x2.2) wr;obtain⟨⟨y0,y1,y2⟩,yf⟩:=x0;cases yf with
    |false=>
     have HE:Hid (cE v.bF c v.out (0+1)=cE v.bF c v.out 0):=hI zf0;go_wp2_with fail;go_roundw
     case rel=>exact⟨1,oM,rF,zfB,kb.alloc _,hI (ho.out.alloc _),hI (HT.out.alloc _),zf5⟩
     case measure=>simp[intOf]
    |true=>
     by_cases h0:y0=c.1
     ·subst h0;by_cases h1:y1=c.2.1
      ·subst h1;by_cases h2:y2=c.2.2
       ·subst h2;have HE:Hid (cE v.bF c v.out (0+1)=cE v.bF c v.out 0):=hI zf0;go_wp2_with fail;go_roundw
        case rel=>exact⟨1,oM,rF,zfB,kb.alloc _,hI (ho.out.alloc _),hI (HT.out.alloc _),zf5⟩
        case measure=>simp[intOf]
       ·(have Sr:(y2 !=c.2.2)=true:=by simpa using h2);have HE:Hid (cE v.bF c v.out (0+1)=cE v.bF c v.out 0|||1<<<0):=hI (by rw[H0.out,if_pos];unfold mv;simp[h2]);have hq:bits .or .i64 ((cE v.bF c v.out 0:Nat):Int) 1=((cE v.bF c v.out 0|||1<<<0:Nat):Int):=jH (cE v.bF c v.out 0) (1<<<0) oM dC;have HQ:=hI hq;clear h2 hq;go_wp2_with fail;go_region;all_goals
         go_wp2_with fail;go_roundw
         case rel=>refine⟨1,oM,rF,?_,((kb.far (kb.ne ka dC) _).alloc _).drew,hI ((ew ho.out ka dC _ _).alloc _).drew,hI (((HT.out.setCell _ _ (.inl (.inl rfl))).alloc _).drew),zf5⟩;rw[HE.out];show Has _ g 162 ((uh vt ((c.1,c.2.1,y2),true) x1 x2 (cE v.bF c v.out 0) v.time v.window v.bO).setIfInBounds 13 (I ((cE v.bF c v.out 0|||1<<<0:Nat):Int)));exact zfT
         case measure=>simp[intOf]
      ·(have Mi:(y1==c.2.1)=false:=by simpa using h1);have HE:Hid (cE v.bF c v.out (0+1)=cE v.bF c v.out 0):=hI (by rw[H0.out,if_neg];unfold mv;simp[h1]);go_wp2_with fail;go_roundw
       case rel=>exact⟨1,oM,rF,zfB,kb.alloc _,hI (ho.out.alloc _),hI (HT.out.alloc _),zf5⟩
       case measure=>simp[intOf]
     ·(have Ss:(y0==c.1)=false:=by simpa using h0);have HE:Hid (cE v.bF c v.out (0+1)=cE v.bF c v.out 0):=hI (by rw[H0.out,if_neg];unfold mv;simp[h0]);go_wp2_with fail;go_roundw
      case rel=>exact⟨1,oM,rF,zfB,kb.alloc _,hI (ho.out.alloc _),hI (HT.out.alloc _),zf5⟩
      case measure=>simp[intOf]
   ·have hix:=wV (I x0.1.1) (I x0.1.2.1) (I x0.1.2.2) (.bool x0.2) (I x1.1.1) (I x1.1.2.1) (I x1.1.2.2) (.bool x1.2) (I x2.1.1) (I x2.1.2.1) (I x2.1.2.2) (.bool x2.2) wr;obtain⟨⟨y0,y1,y2⟩,yf⟩:=x1;cases yf with
    |false=>
     have HE:Hid (cE v.bF c v.out (1+1)=cE v.bF c v.out 1):=hI zfZ;go_wp2_with fail;go_roundw
     case rel=>exact⟨2,oM,rF,zfB,kb.alloc _,hI (ho.out.alloc _),hI (HT.out.alloc _),zf5⟩
     case measure=>simp[intOf]
    |true=>
     by_cases h0:y0=c.1
     ·subst h0;by_cases h1:y1=c.2.1
      ·subst h1;by_cases h2:y2=c.2.2
       ·subst h2;have HE:Hid (cE v.bF c v.out (1+1)=cE v.bF c v.out 1):=hI zfZ;go_wp2_with fail;go_roundw
        case rel=>exact⟨2,oM,rF,zfB,kb.alloc _,hI (ho.out.alloc _),hI (HT.out.alloc _),zf5⟩
        case measure=>simp[intOf]
       ·(have Sr:(y2 !=c.2.2)=true:=by simpa using h2);have HE:Hid (cE v.bF c v.out (1+1)=cE v.bF c v.out 1|||1<<<1):=hI (by rw[H1.out,if_pos];unfold mv;simp[h2]);have hq:bits .or .i64 ((cE v.bF c v.out 1:Nat):Int) 2=((cE v.bF c v.out 1|||1<<<1:Nat):Int):=jH (cE v.bF c v.out 1) (1<<<1) oM dC;have HQ:=hI hq;clear h2 hq;go_wp2_with fail;go_region;all_goals
         go_wp2_with fail;go_roundw
         case rel=>refine⟨2,oM,rF,?_,((kb.far (kb.ne ka dC) _).alloc _).drew,hI ((ew ho.out ka dC _ _).alloc _).drew,hI (((HT.out.setCell _ _ (.inl (.inl rfl))).alloc _).drew),zf5⟩;rw[HE.out];show Has _ g 162 ((uh vt x0 ((c.1,c.2.1,y2),true) x2 (cE v.bF c v.out 1) v.time v.window v.bO).setIfInBounds 13 (I ((cE v.bF c v.out 1|||1<<<1:Nat):Int)));exact zfT
         case measure=>simp[intOf]
      ·(have Mi:(y1==c.2.1)=false:=by simpa using h1);have HE:Hid (cE v.bF c v.out (1+1)=cE v.bF c v.out 1):=hI (by rw[H1.out,if_neg];unfold mv;simp[h1]);go_wp2_with fail;go_roundw
       case rel=>exact⟨2,oM,rF,zfB,kb.alloc _,hI (ho.out.alloc _),hI (HT.out.alloc _),zf5⟩
       case measure=>simp[intOf]
     ·(have Ss:(y0==c.1)=false:=by simpa using h0);have HE:Hid (cE v.bF c v.out (1+1)=cE v.bF c v.out 1):=hI (by rw[H1.out,if_neg];unfold mv;simp[h0]);go_wp2_with fail;go_roundw
      case rel=>exact⟨2,oM,rF,zfB,kb.alloc _,hI (ho.out.alloc _),hI (HT.out.alloc _),zf5⟩
      case measure=>simp[intOf]
   ·have hix:=wW (I x0.1.1) (I x0.1.2.1) (I x0.1.2.2) (.bool x0.2) (I x1.1.1) (I x1.1.2.1) (I x1.1.2.2) (.bool x1.2) (I x2.1.1) (I x2.1.2.1) (I x2.1.2.2) (.bool x2.2) wr;obtain⟨⟨y0,y1,y2⟩,yf⟩:=x2;cases yf with
    |false=>
     have HE:Hid (cE v.bF c v.out (2+1)=cE v.bF c v.out 2):=hI zfY;go_wp2_with fail;go_roundw
     case rel=>exact⟨3,oM,rF,zfB,kb.alloc _,hI (ho.out.alloc _),hI (HT.out.alloc _),zf5⟩
     case measure=>simp[intOf]
    |true=>
     by_cases h0:y0=c.1
     ·subst h0;by_cases h1:y1=c.2.1
      ·subst h1;by_cases h2:y2=c.2.2
       ·subst h2;have HE:Hid (cE v.bF c v.out (2+1)=cE v.bF c v.out 2):=hI zfY;go_wp2_with fail;go_roundw
        case rel=>exact⟨3,oM,rF,zfB,kb.alloc _,hI (ho.out.alloc _),hI (HT.out.alloc _),zf5⟩
        case measure=>simp[intOf]
       ·(have Sr:(y2 !=c.2.2)=true:=by simpa using h2);have HE:Hid (cE v.bF c v.out (2+1)=cE v.bF c v.out 2|||1<<<2):=hI (by rw[H2.out,if_pos];unfold mv;simp[h2]);have hq:bits .or .i64 ((cE v.bF c v.out 2:Nat):Int) 4=((cE v.bF c v.out 2|||1<<<2:Nat):Int):=jH (cE v.bF c v.out 2) (1<<<2) oM dC;have HQ:=hI hq;clear h2 hq;go_wp2_with fail;go_region;all_goals
         go_wp2_with fail;go_roundw
         case rel=>refine⟨3,oM,rF,?_,((kb.far (kb.ne ka dC) _).alloc _).drew,hI ((ew ho.out ka dC _ _).alloc _).drew,hI (((HT.out.setCell _ _ (.inl (.inl rfl))).alloc _).drew),zf5⟩;rw[HE.out];show Has _ g 162 ((uh vt x0 x1 ((c.1,c.2.1,y2),true) (cE v.bF c v.out 2) v.time v.window v.bO).setIfInBounds 13 (I ((cE v.bF c v.out 2|||1<<<2:Nat):Int)));exact zfT
         case measure=>simp[intOf]
      ·(have Mi:(y1==c.2.1)=false:=by simpa using h1);have HE:Hid (cE v.bF c v.out (2+1)=cE v.bF c v.out 2):=hI (by rw[H2.out,if_neg];unfold mv;simp[h1]);go_wp2_with fail;go_roundw
       case rel=>exact⟨3,oM,rF,zfB,kb.alloc _,hI (ho.out.alloc _),hI (HT.out.alloc _),zf5⟩
       case measure=>simp[intOf]
     ·(have Ss:(y0==c.1)=false:=by simpa using h0);have HE:Hid (cE v.bF c v.out (2+1)=cE v.bF c v.out 2):=hI (by rw[H2.out,if_neg];unfold mv;simp[h0]);go_wp2_with fail;go_roundw
      case rel=>exact⟨3,oM,rF,zfB,kb.alloc _,hI (ho.out.alloc _),hI (HT.out.alloc _),zf5⟩
      case measure=>simp[intOf]
  ·(have hk3:k=3:=by omega);subst hk3;have hq8:=pM.out 3 oM;have HE:Hid (cT v c={v with out:=cE v.bF c v.out 3,trace:=v.trace++[c],bF:=BB,time:=v.window,bO:=v.bO||iQ (cE v.bF c v.out 3)||decide (1000<=v.trace.length+1)}):=hI rfl;clear pM H0 H1 H2 HZ;obtain⟨A,cc,ol,hcc,hlen,hA,hR⟩:=ix ho.out;have BN:=hI ol;have hgb:=kb.lt;have hga:=ka.lt;have b0:=kb.aJ 0 _ rfl;have b1:=kb.aJ 1 _ rfl;have b2:=kb.aJ 2 _ rfl;(have a0:wr.cell? ⟨g,0,none⟩=some (.slice A v.trace.length cc):=by rw[<-ol];exact ka.aJ 0 vt rfl);have h15:=ka.aJ 15 (I v.window) rfl;have h16:=ka.aJ 16 (.bool v.bO) rfl;have HN1:Hid (v.trace.length=v.trace.length):=hI rfl;have HS:Hid (w1.heap.size<=wr.heap.size):=hI hsz;(have hm1:v.trace.length+1<=maxLen:=by unfold maxLen;omega);have hm2:(v.trace.length+1)*24<=140737488355328:=oM;(have hBr:B<=wr.heap.size:=by have:=eE.out;have:=HG.out;omega);clear ol hA hR hlen hcc hsz;rw[BN.out]at ho;have Je:Hid (some g≠(Value.slice A v.trace.length cc).ownBlock):=hI (λe=>dz ho.out ka dC e.symm);go_upto_region 7 with(fail);go_cut [] (λwx=>∃A2 c2,Has wx g 162 (uh (.slice A2 (v.trace.length+1) c2) x0 x1 x2 (cE v.bF c v.out 3) v.time v.window v.bO)/\Hid (wx.ownsRow B 157 3 (.slice A2 (v.trace.length+1) c2) (v.trace.length+1) (gH (v.trace++[c])))/\
    Hid ((Value.slice A2 (v.trace.length+1) c2).ownBlock=vt.ownBlock\/∃b,g0<=b/\(Value.slice A2 (v.trace.length+1) c2).ownBlock=some b)/\Hid (Turned (FV g vt) w wx)/\w1.heap.size<=wx.heap.size)
   case first=>
    (go_region_law ((refine qG rfl _ _ 153 rfl B 157 i0 (.agg #[.int .i64 0,.int .i64 0,.int .i64 0]) 3 24 underlying153 hi0 hz0 hz1 hz2 rfl dC _ v.trace.length _ rfl (World.ownsRow.alloc ho.out _) _ 1 1 _ rfl rfl (jq _ _ _) (by intro u hu;simp at hu;rcases hu with rfl|rfl|rfl<;>rfl) hm1 hm2 (aS hBr sM) ?_;intro v2 w2 hown2 hgrow2 BO;obtain⟨A2,c2,rfl,hc2,-⟩:=ix hown2;have k2:Has w2 g 162 (uh vt x0 x1 x2 (cE v.bF c v.out 3) v.time v.window v.bO):=(ka.alloc _).drew.grown hgrow2 Je.out;have f20:=k2.free 0;have c20:=k2.aJ 0 vt rfl)));all_goals
     have hg2:(wr.alloc (.cells #[I c.1,I c.2.1,I c.2.2] 157)).drew.grownBy w2 (Value.slice A v.trace.length cc).ownBlock:=hgrow2;have ho2:Hid ((w2.setCell ⟨g,0,none⟩ (.slice A2 (v.trace.length+1) c2)).ownsRow B 157 3 (.slice A2 (v.trace.length+1) c2) (v.trace.length+1) (gH (v.trace++[c]))):=hI (ew (by rw[Mf];exact hown2) k2 dC _ _);have hl2:Hid ((Value.slice A2 (v.trace.length+1) c2).ownBlock=vt.ownBlock\/∃b,g0<=b/\(Value.slice A2 (v.trace.length+1) c2).ownBlock=some b):=hI (by
      rw[BN.out];rcases BO with h|h;exact .inl h
      ·exact .inr ⟨_,by have:=HG.out;have:=eE.out;have:=HS.out;simp;omega,h⟩)
     have ht2:Hid (Turned (FV g vt) w (w2.setCell ⟨g,0,none⟩ (.slice A2 (v.trace.length+1) c2))):=hI ((((HT.out.alloc _).drew).grown hg2 (λq hq=>.inl (.inr (by rw[BN.out];exact hq)))).setCell _ _ (.inl (.inl rfl)));(have hz2:w1.heap.size<=(w2.setCell ⟨g,0,none⟩ (.slice A2 (v.trace.length+1) c2)).heap.size:=by have h1:=hg2.size;have h2:=HS.out;simp at h1;simp[World.setCell];omega);have k3:=k2.set 0 (.slice A2 (v.trace.length+1) c2);clear hgrow2 BO hown2 hg2 f20 c20;go_wp2_with fail;go_meet
     case rel=>exact⟨A2,c2,k3,ho2,hl2,ht2,hz2⟩
   case rest=>
    obtain⟨A2,c2,kv,ho2,hl2,ht2,hz2⟩:=hcut;generalize cE v.bF c v.out 3=OUT at*;clear ka kb ho HT a0 h15 h16 b0 b1 b2 hm1 hm2 BN Je HS HOW hga hgb eE hg1 HN1;have e1:=kv.aJ 1 (I x0.1.1) rfl;have e2:=kv.aJ 2 (I x0.1.2.1) rfl;have e3:=kv.aJ 3 (I x0.1.2.2) rfl;have e4:=kv.aJ 4 (.bool x0.2) rfl;have e5:=kv.aJ 5 (I x1.1.1) rfl;have e6:=kv.aJ 6 (I x1.1.2.1) rfl;have e7:=kv.aJ 7 (I x1.1.2.2) rfl;have e8:=kv.aJ 8 (.bool x1.2) rfl;have e9:=kv.aJ 9 (I x2.1.1) rfl;have e10:=kv.aJ 10 (I x2.1.2.1) rfl;have e11:=kv.aJ 11 (I x2.1.2.2) rfl;have e12:=kv.aJ 12 (.bool x2.2) rfl;have e13:=kv.aJ 13 (I (OUT:Int)) rfl;have e14:=kv.aJ 14 (I v.time) rfl;have e15:=kv.aJ 15 (I v.window) rfl;have e16:=kv.aJ 16 (.bool v.bO) rfl;have f1:=kv.free 1;have f2:=kv.free 2;have f3:=kv.free 3;have f4:=kv.free 4;have f5:=kv.free 5;have f6:=kv.free 6;have f7:=kv.free 7;have f8:=kv.free 8;have f9:=kv.free 9;have f10:=kv.free 10;have f11:=kv.free 11;have f12:=kv.free 12;have f14:=kv.free 14;have f16:=kv.free 16;(go_upto_region 9 with(fail);have k8:Has (((((((((((((wc.setCell ⟨g,1,none⟩ (I 0)).setCell ⟨g,2,none⟩ (I 0)).setCell ⟨g,3,none⟩ (I 0)).setCell ⟨g,4,none⟩ (.bool false)).setCell ⟨g,5,none⟩ (I 0)).setCell ⟨g,6,none⟩ (I 0)).setCell ⟨g,7,none⟩ (I 0)).setCell ⟨g,8,none⟩ (.bool false)).setCell ⟨g,9,none⟩ (I 0)).setCell ⟨g,10,none⟩ (I 0)).setCell ⟨g,11,none⟩ (I 0)).setCell ⟨g,12,none⟩ (.bool false)).setCell ⟨g,14,none⟩ (I v.window)) g 162 (uh (.slice A2 (v.trace.length+1) c2) (Cm.zero,false) (Cm.zero,false) (Cm.zero,false) OUT v.window v.window v.bO):=by have h:=(((((((((((((kv.set 1 (I 0)).set 2 (I 0)).set 3 (I 0)).set 4 (.bool false)).set 5 (I 0)).set 6 (I 0)).set 7 (I 0)).set 8 (.bool false)).set 9 (I 0)).set 10 (I 0)).set 11 (I 0)).set 12 (.bool false)).set 14 (I v.window));rw[Mh]at h;exact h);have t8:Turned (λb=>b=g) wc (((((((((((((wc.setCell ⟨g,1,none⟩ (I 0)).setCell ⟨g,2,none⟩ (I 0)).setCell ⟨g,3,none⟩ (I 0)).setCell ⟨g,4,none⟩ (.bool false)).setCell ⟨g,5,none⟩ (I 0)).setCell ⟨g,6,none⟩ (I 0)).setCell ⟨g,7,none⟩ (I 0)).setCell ⟨g,8,none⟩ (.bool false)).setCell ⟨g,9,none⟩ (I 0)).setCell ⟨g,10,none⟩ (I 0)).setCell ⟨g,11,none⟩ (I 0)).setCell ⟨g,12,none⟩ (.bool false)).setCell ⟨g,14,none⟩ (I v.window)):=((((((((((((((Turned.refl (λb=>b=g) wc).setCell ⟨g,1,none⟩ (I 0) (.inl rfl)).setCell ⟨g,2,none⟩ (I 0) (.inl rfl)).setCell ⟨g,3,none⟩ (I 0) (.inl rfl)).setCell ⟨g,4,none⟩ (.bool false) (.inl rfl)).setCell ⟨g,5,none⟩ (I 0) (.inl rfl)).setCell ⟨g,6,none⟩ (I 0) (.inl rfl)).setCell ⟨g,7,none⟩ (I 0) (.inl rfl)).setCell ⟨g,8,none⟩ (.bool false) (.inl rfl)).setCell ⟨g,9,none⟩ (I 0) (.inl rfl)).setCell ⟨g,10,none⟩ (I 0) (.inl rfl)).setCell ⟨g,11,none⟩ (I 0) (.inl rfl)).setCell ⟨g,12,none⟩ (.bool false) (.inl rfl)).setCell ⟨g,14,none⟩ (I v.window) (.inl rfl));have HO8:=hI (iF ho2.out t8 (λq hq e=>dz ho2.out kv dC (by rw[hq,e])));have lU:Hid (Turned (FV g vt) w (((((((((((((wc.setCell ⟨g,1,none⟩ (I 0)).setCell ⟨g,2,none⟩ (I 0)).setCell ⟨g,3,none⟩ (I 0)).setCell ⟨g,4,none⟩ (.bool false)).setCell ⟨g,5,none⟩ (I 0)).setCell ⟨g,6,none⟩ (I 0)).setCell ⟨g,7,none⟩ (I 0)).setCell ⟨g,8,none⟩ (.bool false)).setCell ⟨g,9,none⟩ (I 0)).setCell ⟨g,10,none⟩ (I 0)).setCell ⟨g,11,none⟩ (I 0)).setCell ⟨g,12,none⟩ (.bool false)).setCell ⟨g,14,none⟩ (I v.window))):=hI (ht2.out.trans t8 (λb _ e=>.inl e));have HS8:Hid (w1.heap.size<=((((((((((((((wc.setCell ⟨g,1,none⟩ (I 0)).setCell ⟨g,2,none⟩ (I 0)).setCell ⟨g,3,none⟩ (I 0)).setCell ⟨g,4,none⟩ (.bool false)).setCell ⟨g,5,none⟩ (I 0)).setCell ⟨g,6,none⟩ (I 0)).setCell ⟨g,7,none⟩ (I 0)).setCell ⟨g,8,none⟩ (.bool false)).setCell ⟨g,9,none⟩ (I 0)).setCell ⟨g,10,none⟩ (I 0)).setCell ⟨g,11,none⟩ (I 0)).setCell ⟨g,12,none⟩ (.bool false)).setCell ⟨g,14,none⟩ (I v.window))).heap.size):=hI (aS hz2 t8.size);clear e1 e2 e3 e4 e5 e6 e7 e8 e9 e10 e11 e12 e13 e14 e15 e16 f1 f2 f3 f4 f5 f6 f7 f8 f9 f10 f11 f12 f14 f16 kv ho2 ht2 hz2 t8;generalize (((((((((((((wc.setCell ⟨g,1,none⟩ (I 0)).setCell ⟨g,2,none⟩ (I 0)).setCell ⟨g,3,none⟩ (I 0)).setCell ⟨g,4,none⟩ (.bool false)).setCell ⟨g,5,none⟩ (I 0)).setCell ⟨g,6,none⟩ (I 0)).setCell ⟨g,7,none⟩ (I 0)).setCell ⟨g,8,none⟩ (.bool false)).setCell ⟨g,9,none⟩ (I 0)).setCell ⟨g,10,none⟩ (I 0)).setCell ⟨g,11,none⟩ (I 0)).setCell ⟨g,12,none⟩ (.bool false)).setCell ⟨g,14,none⟩ (I v.window))=w8 at*;have e13:=k8.aJ 13 (I (OUT:Int)) rfl;have e0:=k8.aJ 0 (.slice A2 (v.trace.length+1) c2) rfl;have e16:=k8.aJ 16 (.bool v.bO) rfl;have f16:=k8.free 16;have hpm:decide ((1:Int)<(pop OUT:Int))=iQ OUT:=OU OUT hq8;have hn1:v.trace.length+1<=1000:=oM;by_cases hfull:iQ OUT=true\/1000<=v.trace.length+1
    ·have HL:Hid ((v.bO||iQ OUT||decide (1000<=v.trace.length+1))=true):=hI (by rcases hfull with h|h<;>simp[h]);have k9:Has (w8.setCell ⟨g,16,none⟩ (.bool true)) g 162 (uh (.slice A2 (v.trace.length+1) c2) (Cm.zero,false) (Cm.zero,false) (Cm.zero,false) OUT v.window v.window true):=k8.set 16 _;have o9:=hI (ew HO8.out k8 dC 16 (.bool true));have ln:Hid (Turned (FV g vt) w (w8.setCell ⟨g,16,none⟩ (.bool true))):=hI (lU.out.setCell _ _ (.inl (.inl rfl)));have c90:=k9.aJ 0 (.slice A2 (v.trace.length+1) c2) rfl;have Su:zR (.slice A2 (v.trace.length+1) c2) (cT v c)=uh (.slice A2 (v.trace.length+1) c2) (Cm.zero,false) (Cm.zero,false) (Cm.zero,false) OUT v.window v.window true:=by exact zfH
     have BP:fo (w8.setCell ⟨g,16,none⟩ (.bool true)) B g (.slice A2 (v.trace.length+1) c2) (cT v c):=⟨by rw[Su];exact k9,zfP,hlow⟩;have Mj:=hI BP;(have BQ:v.trace.length<(cT v c).trace.length:=zf8);have VE:=hI BQ;have Jf:Hid ((aN (dm (cT v c) v.trace.length)).size=23):=hI (cY _ rfl);clear Su BP BQ;cases hm:iQ OUT with
     |true=>
      rw[hm]at hpm;clear hm hfull;go_wp2_with (first
       |(go_at_call 141;refine(lg OUT oM _).mono ?_;rintro e w' ⟨rfl,rfl⟩)
       |(go_at_call 175;refine(pL Mj.out v.trace.length VE.out).mono ?_;rintro e wd ⟨rfl,hbd⟩)
       |(refine fO rfl (.tmp 89) rfl (aN (dm (cT v c) v.trace.length)) rfl Jf.out ?_))
      exact zfv
     |false=>
      rw[hm]at hpm;have hfl:1000<=v.trace.length+1:=by rcases hfull with h|h;rw[hm]at h;cases h;exact h
      have hfi:(1000:Int)<=(v.trace.length:Int)+1:=oM;clear hm hfull;go_wp2_with (first
       |(go_at_call 141;refine(lg OUT oM _).mono ?_;rintro e w' ⟨rfl,rfl⟩)
       |(go_at_call 175;refine(pL Mj.out v.trace.length VE.out).mono ?_;rintro e wd ⟨rfl,hbd⟩)
       |(refine fO rfl (.tmp 89) rfl (aN (dm (cT v c) v.trace.length)) rfl Jf.out ?_))
      exact zfv
    ·have hm:iQ OUT=false:=by
      cases h:iQ OUT with
      |true=>exact absurd (.inl h) hfull
      |false=>rfl
     have hnf:¬1000<=v.trace.length+1:=λh=>hfull (.inr h);have hfi:¬(1000:Int)<=(v.trace.length:Int)+1:=oM;have HL:Hid ((v.bO||iQ OUT||decide (1000<=v.trace.length+1))=v.bO):=hI (by simp[hm,hnf]);have k9:=k8;have o9:=HO8;have ln:=lU;have Su:zR (.slice A2 (v.trace.length+1) c2) (cT v c)=uh (.slice A2 (v.trace.length+1) c2) (Cm.zero,false) (Cm.zero,false) (Cm.zero,false) OUT v.window v.window v.bO:=by exact zfH
     have BP:fo w8 B g (.slice A2 (v.trace.length+1) c2) (cT v c):=⟨by rw[Su];exact k9,zfP,hlow⟩;have Mj:=hI BP;(have BQ:v.trace.length<(cT v c).trace.length:=zf8);have VE:=hI BQ;have Jf:Hid ((aN (dm (cT v c) v.trace.length)).size=23):=hI (cY _ rfl);clear Su BP BQ;rw[hm]at hpm;clear hm hfull hnf;go_wp2_with (first
      |(go_at_call 141;refine(lg OUT oM _).mono ?_;rintro e w' ⟨rfl,rfl⟩)
      |(go_at_call 175;refine(pL Mj.out v.trace.length VE.out).mono ?_;rintro e wd ⟨rfl,hbd⟩)
      |(refine fO rfl (.tmp 89) rfl (aN (dm (cT v c) v.trace.length)) rfl Jf.out ?_))
     exact zfv
end
end Go.Proofs.YtdhekhlmdefcnaaGreatDoor
namespace Go.Proofs.YtdhekhlmdefcnaaGreatDoor
open Go.RowKit
def uB:List (List Int)->bw
 |[]=>#[]
 |f::l=>aN f++uB l
theorem lV(f:List Int):uB [f]=aN f:=by simp[uB]
theorem OX(f f':List Int):uB [f,f']=aN f++aN f':=by simp[uB]
def pN(w:aa)(lo:Nat)(x:ae)(fs:List (List Int)):Prop:=
 (fs=[]/\x=.slice none 0 0)\/∃gr,x=.slice (some ⟨gr,0,none⟩) fs.length fs.length/\lo<=gr/\Has w gr 214 (uB fs)
theorem yj{f:List Int}{i:Nat}{x:Int}(h:f[i]?=some x):f.getD i 0=x:=by rw[aD,h];rfl
theorem aaG{a b c d e:Bool}:(a&&b&&c&&d&&e)=true↔a=true/\b=true/\c=true/\d=true/\e=true:=by cases a<;>cases b<;>cases c<;>cases d<;>cases e<;>decide
theorem Sv{v:Vo}{f:List Int}(h:fS v f=false):dR v f=(v,[],false):=by unfold dR;rw[if_pos h]
theorem Mk{v:Vo}{f:List Int}{C:Nat}(h:fS v f=true)(hc:f.getD 2 0=(C:Int))(hn:C+1=v.trace.length):dR v f=(v,[dm v C],false):=by unfold dR;rw[if_neg zfU,hc,if_pos oM];simp
theorem OY{v:Vo}{f:List Int}{C:Nat}(h:fS v f=true)(hc:f.getD 2 0=(C:Int))(hn:C+1<v.trace.length):dR v f=(v,[dm v C,dm v (v.trace.length-1)],false):=by unfold dR;rw[if_neg zfU,hc,if_neg oM,if_pos oM];simp
theorem OZ{v:Vo}{f:List Int}{C:Nat}(h:fS v f=true)(hc:f.getD 2 0=(C:Int))(hn:v.trace.length<=C)(h2:v.trace.length<C\/v.bO=true\/f.getD 0 0=4):dR v f=(v,[],false):=by unfold dR;rw[if_neg zfU,hc,if_neg oM,if_neg oM,if_pos (by rcases h2 with h|h|h;exact .inl oM;exact .inr (.inl h);exact .inr (.inr h))]
def jy(v:Vo)(J:Nat)(c:Cm):Vo:={v with bF:=v.bF.set J (c,true)}
theorem Ml{v:Vo}{f:List Int}{C J:Nat}(h:fS v f=true)(hc:f.getD 2 0=(C:Int))(hn:v.trace.length=C)(hl:v.bO=false)(hk:f.getD 0 0≠4)(hj:f.getD 1 0=(J:Int)):
 dR v f=if alike (jy v J (mr f)).bF J (mr f)then(cT (jy v J (mr f)) (mr f),[dm (cT (jy v J (mr f)) (mr f)) v.trace.length],true)else(jy v J (mr f),[],false):=by
 unfold dR;rw[if_neg zfU,hc,if_neg oM,if_neg oM,if_neg (by rintro(h|h|h);omega;rw[hl]at h;cases h;exact hk h),hj];rfl
theorem YB{α:Type}(l:List α)(h:l.length=3):∃a b c,l=[a,b,c]:=by
 match l,h with
 |[a,b,c],_=>exact⟨a,b,c,rfl⟩
theorem O0(vt:ae)(v:Vo)(J:Nat)(p0 p1 p2:Int)(hJ:J<3)(hv:v.bF.length=3):
 ((((zR vt v).setIfInBounds (1+J*4) (I p0)).setIfInBounds (1+J*4+1) (I p1)).setIfInBounds (1+J*4+2) (I p2)).setIfInBounds (1+J*4+3) (.bool true)=zR vt (jy v J (p0,p1,p2)):=by
 obtain⟨a,b,c,e⟩:=YB _ hv;have hc:J=0\/J=1\/J=2:=oM;unfold zR vv jy;dsimp only;rw[e];rcases hc with rfl|rfl|rfl<;>simp
theorem Jg(v:Vo)(J:Nat)(c:Cm)(hJ:J<3)(hv:v.bF.length=3):vv (jy v J c) J=(c,true):=by unfold vv jy;have hl:J<v.bF.length:=oM;simp[hl]
theorem En{v:Vo}(h:v.Wf)(J:Nat)(c:Cm):(jy v J c).Wf:=⟨h.out,by simpa[jy]using h.bF,h.many,h.more,h.time,h.low,h.window⟩
theorem VF(vt:ae)(v:Vo)(J:Nat)(hJ:J<3):(zR vt v)[1+J*4]?=some (I (vv v J).1.1)/\(zR vt v)[1+J*4+1]?=some (I (vv v J).1.2.1)/\(zR vt v)[1+J*4+2]?=some (I (vv v J).1.2.2):=by have hc:J=0\/J=1\/J=2:=oM;rcases hc with rfl|rfl|rfl<;>exact⟨rfl,rfl,rfl⟩
def dU(v:Vo)(J:Nat)(c:Cm)(r:Nat):Bool:=decide (r≠J)&&(vv v r).2&&decide ((vv v r).1=c)
theorem tI(v:Vo)(J:Nat)(c:Cm):alike v.bF J c=(dU v J c 0||(dU v J c 1||(dU v J c 2||false))):=rfl
theorem jU(w:aa)(lo:Nat):pN w lo (.slice none 0 0) []:=.inl ⟨rfl,rfl⟩
open Go.Proofs.Tryz
theorem VG{L:Lay}{l:List Int}{k:Nat}(hk:k<8)(h:iR L (l.getD 0 0) ((l.drop 1).take 8) ((l.drop 9).take 8) k=false):gJ L l=false:=by
 unfold gJ;have:(List.range 8).all (iR L (l.getD 0 0) ((l.drop 1).take 8) ((l.drop 9).take 8))=false:=by rw[List.all_eq_false];exact⟨k,bX.2 hk,zfU⟩
 rw[this,Bool.and_false]
theorem Jh{L:Lay}{l:List Int}(h:l.getD 0 0<0\/2^L.routes.length<=l.getD 0 0):gJ L l=false:=by unfold gJ;rcases h with h|h;rw[decide_eq_false oM];rfl;rw[decide_eq_false (p:=l.getD 0 0<2^L.routes.length) oM,Bool.and_false,Bool.false_and]
theorem Sw{L:Lay}{l:List Int}(h0:0<=l.getD 0 0)(h1:l.getD 0 0<2^L.routes.length)(h:∀k,k<8->iR L (l.getD 0 0) ((l.drop 1).take 8) ((l.drop 9).take 8) k=true):gJ L l=true:=by
 unfold gJ;rw[decide_eq_true h0,decide_eq_true h1];have:(List.range 8).all (iR L (l.getD 0 0) ((l.drop 1).take 8) ((l.drop 9).take 8))=true:=by rw[bj];exact λk hk=>h k (bX.1 hk)
 rw[this];rfl
theorem Sy{l:List Int}{k:Nat}(h:k<8):((l.drop 1).take 8).getD k 0=l.getD (1+k) 0:=by exact zfX
theorem Sz{l:List Int}{k:Nat}(h:k<8):((l.drop 9).take 8).getD k 0=l.getD (9+k) 0:=by exact zfX
theorem O1{L:Lay}{l:List Int}{k:Nat}(h:k<8):iR L (l.getD 0 0) ((l.drop 1).take 8) ((l.drop 9).take 8) k=
 if L.routes.length<=k\/(l.getD 0 0).toNat.testBit k=false then decide (l.getD (1+k) 0=0)&&decide (l.getD (9+k) 0=0)
 else decide ((l.getD 0 0).toNat&&&conf L.routes k=0)&&decide (0<=l.getD (1+k) 0)&&decide (nb (l.getD (1+k) 0).toNat (L.routes.getD k 0)=0)&&decide (0<=l.getD (9+k) 0)&&decide (l.getD (9+k) 0<=1000)&&!(decide (l.getD (1+k) 0=0)&&decide ((L.delay:Int)<l.getD (9+k) 0)):=by
 unfold iR;rw[Sy h,Sz h]
theorem aaH{n:Nat}(h:n<=8):2^n<=256:=cn (n:=2) dC h
theorem zk(g:Nat)(L:Lay)(l:List Int)(w:aa)(hL:L.Ok)(hl:Hid (l.length=17))(hlo:Hid (∀x∈l,-9223372036854775808<=x/\x<=9223372036854775807))(hg:fJ w g L):
 Calls prog 174 #[pT g 0,.agg (ints l).toArray] w λe w'=>e=.returned (.bool (gJ L l))/\Below w.heap.size w w':=by
 obtain⟨vr,vc,hcore,hrow,hcon⟩:=hg;obtain⟨A,c,rfl,hc,-,hrd⟩:=dQ hrow;obtain⟨A2,c2,rfl,hc2,-,Nn⟩:=dQ hcon;have Bz:=hL.ja;have hb1:Below w.heap.size w (w.alloc (.cells (ints l).toArray 168)):=(Below.refl _ _).alloc (aj _) _;have k0:=Has.new w 168 (ints l).toArray;have hgl:=hcore.lt;have hc1:=hcore.after hb1;have hr1:=hrd.below hb1;have hr2:=Nn.below hb1;clear hcore hrow hcon hrd Nn;have HP:=hI (Bv L.routes.length Bz);have abh:=aaH Bz;obtain⟨x0,hx0⟩:=bY l 0 (by rw[hl.out];decide);have HX0:Hid (l.getD 0 0=x0):=hI (by rw[aD,hx0];rfl);have c00:=k0.aJ 0 (I x0) (by simp[ints,hx0]);obtain⟨lo0,hi0⟩:=hlo.out x0 (aR hx0);have HLL:=hI (rfl:L.routes.length=L.routes.length);go_enter func174,ntmps174;go_upto_region 1 with fail;have HXL:=hI hx0;clear hx0;generalize w.alloc (.cells (ints l).toArray 168)=w1 at*;have hl1:=k0.lt;generalize hG:w.heap.size=g0 at*;have HG:=hI hG;clear hG;have g0c:=hc1.aJ 0 _ rfl;have g1c:=hc1.aJ 1 _ rfl;have g2c:=hc1.aJ 2 _ rfl;have g3c:=hc1.aJ 3 _ rfl;by_cases h1:x0<0
 ·have HE:=hI (Jh (L:=L) (l:=l) (.inl (by rw[HX0.out];exact h1)));have t1:decide (x0<0)=true:=decide_eq_true h1;clear h1;go_quiet (fail);exact zfO
 ·have t1:decide (x0<0)=false:=decide_eq_false h1;have hle:0<=x0:=oM;have hpw:wrap64 (2^L.routes.length)=((2^L.routes.length:Nat):Int):=by rw[HP.out,Nat.shiftLeft_eq,Nat.one_mul]
  by_cases h2:((2^L.routes.length:Nat):Int)<=x0
  ·have HE:=hI (Jh (L:=L) (l:=l) (.inr (by rw[HX0.out];simpa using h2)));(have t2:decide (wrap64 (2^L.routes.length)<=x0)=true:=by rw[hpw];exact decide_eq_true h2);clear h1 h2 hpw;go_quiet (fail);exact zfO
  ·(have t2:decide (wrap64 (2^L.routes.length)<=x0)=false:=by rw[hpw];exact decide_eq_false h2);have H2:=hI h2;obtain⟨s,rfl⟩:∃s:Nat,x0=(s:Int):=⟨x0.toNat,oM⟩;have aaI:s<256:=oM;clear h1 h2 hpw hle;go_upto_region 1 with fail;go_quiet (fail);go_wp2_with fail;have kq:=hb1;clear g0c t1 t2 c00;go_loopw [21] (λi wx=>∃k:Nat,k<=8/\i=I k/\Hid (∀j,j<k->iR L (l.getD 0 0) ((l.drop 1).take 8) ((l.drop 9).take 8) j=true)/\∃q,w1.drewN q=wx) (λi _=>8-(intOf i).toNat)
   case atStart=>exact⟨0,oM,rfl,hI (λj hj=>absurd hj oM),_,rfl⟩
   case round=>
    obtain⟨k,hk,rfl,hno,q,rfl⟩:=hrel;by_cases hlt:k<8
    ·have HAT:=hI (O1 (L:=L) (l:=l) hlt);rw[HX0.out,cg]at HAT;obtain⟨u,hu⟩:=bY l (1+k) (by rw[hl.out];omega);obtain⟨d,hd⟩:=bY l (9+k) (by rw[hl.out];omega);(have HU:l.getD (1+k) 0=u:=by rw[aD,hu];rfl);(have HD:l.getD (9+k) 0=d:=by rw[aD,hd];rfl);rw[HU,HD]at HAT;have c0:=k0.aJ 0 (I (s:Int)) (by have:=HXL.out;simp[ints,this]);have cu:=k0.aJ (1+k) (I u) (by simp[ints,hu]);have cd:=k0.aJ (9+k) (I d) (by simp[ints,hd]);obtain⟨lou,hiu⟩:=hlo.out u (aR hu);obtain⟨lod,hid⟩:=hlo.out d (aR hd);have hki:(k:Int)<8:=oM;clear hu hd HU HD;have BR:Hid (iR L ((s:Int)) ((l.drop 1).take 8) ((l.drop 9).take 8) k=true->∀j,j<k+1->iR L (l.getD 0 0) ((l.drop 1).take 8) ((l.drop 9).take 8) j=true):=hI (λh j hj=>by
      by_cases e:j=k;subst e;rw[HX0.out];exact h
      ·exact hno.out j oM)
     have Ji:Hid (iR L ((s:Int)) ((l.drop 1).take 8) ((l.drop 9).take 8) k=false->gJ L l=false):=hI (λh=>VG hlt (by rw[HX0.out];exact h));by_cases hcase:L.routes.length<=k\/s.testBit k=false
     ·rw[if_pos hcase]at HAT;(have hcs:(L.routes.length<=k)\/(k<L.routes.length/\s.testBit k=false):=by rcases hcase with h|h;exact .inl h;by_cases h2:L.routes.length<=k;exact .inl h2;exact .inr ⟨oM,h⟩);clear hcase;by_cases hu0:u=0
      ·by_cases hd0:d=0
       ·have HT:=hI (BR.out (by rw[HAT.out,hu0,hd0];rfl));(have tu:(u !=0)=false:=by simpa using hu0);(have td:(d !=0)=false:=by simpa using hd0);clear hu0 hd0 hno;rcases hcs with h|⟨h,hbit⟩
        ·go_wp2_with fail;go_roundw
         case rel=>exact⟨k+1,oM,zfW,hI HT.out,_,rfl⟩
         case measure=>simp[intOf];omega
        ·(have tb:(bits .and .i64 ((s:Int)/2^k) 1==0)=true:=zf7);clear hbit;go_wp2_with fail;go_roundw
         case rel=>exact⟨k+1,oM,zfW,hI HT.out,_,rfl⟩
         case measure=>simp[intOf];omega
       ·have HT:=hI (Ji.out (by rw[HAT.out,decide_eq_false hd0,Bool.and_false]));(have tu:(u !=0)=false:=by simpa using hu0);(have td:(d !=0)=true:=by simpa using hd0);clear hu0 hd0 hno;rcases hcs with h|⟨h,hbit⟩;exact zfC;(have tb:(bits .and .i64 ((s:Int)/2^k) 1==0)=true:=zf7);clear hbit;exact zfC
      ·have HT:=hI (Ji.out (by rw[HAT.out,decide_eq_false hu0,Bool.false_and]));(have tu:(u !=0)=true:=by simpa using hu0);clear hu0 hno;rcases hcs with h|⟨h,hbit⟩;exact zfC;(have tb:(bits .and .i64 ((s:Int)/2^k) 1==0)=true:=zf7);clear hbit;exact zfC
     ·rw[if_neg hcase]at HAT;have hkn:k<L.routes.length:=by rcases cp k L.routes.length with h|h;exact h;exact absurd (.inl h) hcase
      have hbit:s.testBit k=true:=by
       cases h:s.testBit k with
       |true=>rfl
       |false=>exact absurd (.inr h) hcase
      (have tb:(bits .and .i64 ((s:Int)/2^k) 1==0)=false:=zf7);clear hcase hbit;obtain⟨r,hr⟩:=bY L.routes k hkn;obtain⟨bb,oo,rfl,hbb,hcr⟩:=hr1.at_ (jR hr);obtain⟨cf,hcf⟩:=bY (dp L.routes) k (by rw[jT];exact hkn);obtain⟨bb2,oo2,rfl,aau,hcc⟩:=hr2.at_ (jR hcf);(have YC:cf=conf L.routes k:=by unfold dp at hcf;rw[gR,List.getElem?_range hkn]at hcf;simpa using hcf.symm);rw[<-YC,gz hr]at HAT;(have aaj:cf<256:=by rw[YC];exact iY _ _ _ Bz);clear hr hcf YC;(have tA:(bits .and .i64 (s:Int) (cf:Int) !=0)=!decide (s&&&cf=0):=by rw[kY s cf oM oM];by_cases h:s&&&cf=0;simp[h];simp[h]);by_cases hA:s&&&cf=0
      ·rw[decide_eq_true hA]at HAT tA;clear hA;by_cases hB:u<0;rw[decide_eq_false (show¬0<=u by omega)]at HAT;have HT:=hI (Ji.out zf6);have tB:decide (u<0)=true:=decide_eq_true hB;clear hB hno;exact zfp
       ·skip
        have tB:decide (u<0)=false:=decide_eq_false hB;obtain⟨U,rfl⟩:∃U:Nat,u=(U:Int):=⟨u.toNat,oM⟩;rw[decide_eq_true (show(0:Int)<=(U:Int)by omega),cg]at HAT;(have tC:(bits .andNot .i64 (U:Int) (r:Int) !=0)=!decide (nb U r=0):=by rw[zb U r oM];by_cases h:nb U r=0;simp[h];simp[h]);clear hB;by_cases hC:nb U r=0
        ·rw[decide_eq_true hC]at HAT tC;clear hC;by_cases hD:d<0;rw[decide_eq_false (show¬0<=d by omega)]at HAT;have HT:=hI (Ji.out zf6);have tD:decide (d<0)=true:=decide_eq_true hD;clear hD hno;exact zfp
         ·rw[decide_eq_true (show 0<=d by omega)]at HAT;have tD:decide (d<0)=false:=decide_eq_false hD;clear hD;by_cases hE:1000<d;rw[decide_eq_false (show¬d<=1000 by omega)]at HAT;have HT:=hI (Ji.out zf6);have tE:decide (1000<d)=true:=decide_eq_true hE;clear hE hno;exact zfp
          ·rw[decide_eq_true (show d<=1000 by omega)]at HAT;have tE:decide (1000<d)=false:=decide_eq_false hE;clear hE;by_cases hU:U=0
           ·(have tU:((U:Int)==0)=true:=by simp[hU]);rw[decide_eq_true (show(U:Int)=0 by omega)]at HAT;clear hU;by_cases hF:(L.delay:Int)<d;rw[decide_eq_true hF]at HAT;have HT:=hI (Ji.out zf6);have tF:decide ((L.delay:Int)<d)=true:=decide_eq_true hF;clear hF hno;exact zfp
            ·rw[decide_eq_false hF]at HAT;have HT:=hI (BR.out zf6);have tF:decide ((L.delay:Int)<d)=false:=decide_eq_false hF;clear hF hno;go_wp2_with fail;go_quiet (fail);go_wp2_with fail;go_roundw
             case rel=>exact⟨k+1,oM,zfW,hI HT.out,_,rfl⟩
             case measure=>simp[intOf];omega
           ·(have tU:((U:Int)==0)=false:=zf5);rw[decide_eq_false (show¬(U:Int)=0 by omega)]at HAT;have HT:=hI (BR.out (by rw[HAT.out];rfl));clear hU hno;go_wp2_with fail;go_quiet (fail);go_wp2_with fail;go_roundw
            case rel=>exact⟨k+1,oM,zfW,hI HT.out,_,rfl⟩
            case measure=>simp[intOf];omega
        ·rw[decide_eq_false hC]at HAT tC;have HT:=hI (Ji.out zf6);clear hC hno;exact zfp
      ·rw[decide_eq_false hA]at HAT tA;have HT:=hI (Ji.out zf6);clear hA hno;exact zfp
    ·(have SA:k=8:=by omega);subst SA;have HE:=hI (Sw (L:=L) (l:=l) (by rw[HX0.out];omega) (by have:=H2.out;rw[HX0.out];simp at this⊢;omega) hno.out);clear hno;exact zfO
structure oK(f:List Int)(kd fr cy c d:Nat)(s:St):Prop where
 len:f.length=23
 e0:f.getD 0 0=(kd:Int)
 e1:f.getD 1 0=(fr:Int)
 e2:f.getD 2 0=(cy:Int)
 e3:f.getD 3 0=(c:Int)
 e4:f.getD 4 0=(d:Int)
 hfr:fr<=3
 hcy:cy<=1048576
 hc:c<=1048576
 hd:d<=1048576
 st:abx (jr f)=s
 sl:ints (jr f)=eV s
 sn:(jr f).length=17
 lo:∀x∈jr f,0<=x/\x<=1048576
theorem Nt{f:List Int}(hm:fC f=true):∀n,∀x∈jM f n,0<=x/\x<=1048576:=by
 intro n;unfold jM;have hk:0<=f.getD 0 0/\f.getD 0 0<=1048576:=by unfold fC qf at hm;simp only[aV,decide_eq_true_eq]at hm;omega
 have h0:∀x∈aQ.set 0 (f.getD 0 0),0<=x/\x<=1048576:=by intro x hx;rcases List.mem_or_eq_of_mem_set hx with h|h;have:=List.eq_of_mem_replicate h;omega;rw[h];exact hk
 have hl:∀i∈(idx (f.getD 0 0)).take n,0<=f.getD i 0/\f.getD i 0<=1048576:=λi hi=>RD hm i (List.mem_of_mem_take hi);generalize (idx (f.getD 0 0)).take n=l at hl;generalize aQ.set 0 (f.getD 0 0)=g at h0
 induction l generalizing g with
 |nil=>exact h0
 |cons i l ih=>refine ih (λj hj=>hl j (List.mem_cons_of_mem _ hj)) _ (λx hx=>?_);rcases List.mem_or_eq_of_mem_set hx with h|h;exact h0 x h;rw[h];exact hl i (List.mem_cons_self ..)
theorem yl:∀(l:List Int),(∀x∈l,0<=x)->ints l=ints (zs (l.map Int.toNat))
 |[],_=>rfl
 |x::l,h=>by have ih:=yl l λy hy=>h y (List.mem_cons_of_mem _ hy);have hx:=h x (List.mem_cons_self ..);unfold ints zs at ih⊢;simp only[List.map_cons,List.map_map]at ih⊢;rw[ih,Int.toNat_of_nonneg hx]
theorem Nu(l:List Int)(h:l.length=17):∃x u d,l=x::(u++d)/\u.length=8/\d.length=8:=by
 match l,h with
 |x::l,h=>refine⟨x,l.take 8,l.drop 8,by rw[List.take_append_drop],?_,?_⟩;simp at h⊢;omega;simp at h⊢;omega
theorem YD{l:List Int}(h:l.length=17)(h0:∀x∈l,0<=x):ints l=eV (abx l)/\(abx l).used.length=8/\(abx l).idle.length=8:=by
 obtain⟨x,u,d,rfl,hu,hd⟩:=Nu l h;have e1:(((x::(u++d)).drop 1).take 8)=u:=by simp[hu]
 have e2:(((x::(u++d)).drop 9).take 8)=d:=by exact zfQ
 refine⟨?_,?_,?_⟩;unfold abx eV;simp only[e1,e2];rw[<-yl u (λy hy=>h0 y (by simp[hy])),<-yl d (λy hy=>h0 y (by simp[hy]))];have hx:=h0 x (List.mem_cons_self ..);show I x::(u++d).map I=I ((x.toNat:Nat):Int)::(u.map I++d.map I);rw[Int.toNat_of_nonneg hx,List.map_append];unfold abx;simp only[e1,List.length_map,hu];unfold abx;simp only[e2,List.length_map,hd]
theorem SB{f:List Int}(hm:fC f=true):∃kd fr cy c d s,oK f kd fr cy c d s:=by
 have hcp:=Vi hm;have hall:∀x∈f,0<=x/\x<=1048576:=by rw[hcp];exact Nt hm _
 have hlen:f.length=23:=by rw[hcp];exact kX f _
 have hg:∀i,0<=f.getD i 0/\f.getD i 0<=1048576:=λi=>by
  rw[aD];cases h:f[i]? with
  |none=>exact⟨Int.le_refl _,dC⟩
  |some x=>exact hall x (aR h)
 have hfr:f.getD 1 0<=3:=by have:=hm;unfold fC qf at this;simp only[aV,decide_eq_true_eq]at this;omega
 have hsn:(jr f).length=17:=by unfold jr;simp[hlen]
 have hlo:∀x∈jr f,0<=x/\x<=1048576:=λx hx=>hall x (List.mem_of_mem_drop hx);have e0:=hg 0;have e1:=hg 1;have e2:=hg 2;have e3:=hg 3;have e4:=hg 4;exact⟨(f.getD 0 0).toNat,(f.getD 1 0).toNat,(f.getD 2 0).toNat,(f.getD 3 0).toNat,(f.getD 4 0).toNat,abx (jr f),hlen,oM,oM,oM,oM,oM,oM,oM,oM,oM,rfl,(YD hsn λx hx=>(hlo x hx).1).1,hsn,hlo⟩
theorem zl{L:Lay}{l:List Int}(hL:L.Ok)(hl:l.length=17)(hr:gJ L l=true):(abx l).Fits 1000:=by
 unfold gJ at hr;simp only[aV,decide_eq_true_eq,bj,bX]at hr;obtain⟨⟨h0,h1⟩,h2⟩:=hr;obtain⟨x,u,d,rfl,hu,hd⟩:=Nu l hl;have e1:(((x::(u++d)).drop 1).take 8)=u:=by simp[hu]
 have e2:(((x::(u++d)).drop 9).take 8)=d:=by exact zfQ
 rw[e1,e2]at h2;have hx:(x::(u++d)).getD 0 0=x:=rfl;rw[hx]at h0 h1;have hp:(2:Int)^L.routes.length<=256:=by have h:=cn (n:=2) dC hL.ja;have:((2^L.routes.length:Nat):Int)<=256:=oM;simpa using this
 have hat:∀k,k<8->(u.getD k 0).toNat<4096/\(d.getD k 0).toNat<=1000:=by intro k hk;have h:=h2 k hk;unfold iR at h;split at h;simp only[aV,decide_eq_true_eq]at h;rw[h.1,h.2];decide;simp only[aV,decide_eq_true_eq]at h;obtain⟨⟨⟨⟨⟨_,hu0⟩,hnb⟩,hd0⟩,hd1⟩,_⟩:=h;refine⟨?_,oM⟩;generalize hU:(u.getD k 0).toNat=U at hnb⊢;(have hkn:k<L.routes.length:=by rename_i hc;omega);(have hr:L.routes.getD k 0<4096:=by rw[aD,bg hkn];have h1:=hL.high _ (List.getElem_mem hkn);have h2:=cn (n:=2) dC hL.uQ;simp only[br];omega);refine Nat.lt_pow_two_of_testBit (n:=12) U λi hi=>?_;have ht:=congrArg (λx=>Nat.testBit x i) hnb;simp only[rH,Nat.zero_testBit]at ht;have hri:(L.routes.getD k 0).testBit i=false:=Nat.testBit_lt_two_pow (aT hr (cn (n:=2) dC hi));rw[hri]at ht;simpa using ht
 have hus:(abx (x::(u++d))).used=u.map Int.toNat:=by unfold abx;rw[e1]
 have hds:(abx (x::(u++d))).idle=d.map Int.toNat:=by unfold abx;rw[e2]
 refine⟨?_,by rw[hus];simpa using hu,by rw[hds];simpa using hd,?_,?_⟩;show x.toNat<256;omega
 ·rw[hus];intro y hy;obtain⟨k,hk,rfl⟩:=List.getElem_of_mem hy;have SA:k<8:=by simpa[hu]using hk
  have h:=(hat k SA).1;rw[aD,bg oM]at h;simpa using h
 ·rw[hds];intro y hy;obtain⟨k,hk,rfl⟩:=List.getElem_of_mem hy;have SA:k<8:=by simpa[hd]using hk
  have h:=(hat k SA).2;rw[aD,bg oM]at h;simpa using h
theorem Eo{a b:List Int}(h:ints a=ints b):a=b:=(List.map_inj_right (λa b hab=>by injection hab)).1 h
theorem Nv{a b:List Nat}(h:zs a=zs b):a=b:=(List.map_inj_right (λa b hab=>oM)).1 h
theorem VH{a b:Nat×St×Bool}(ha:a.2.1.used.length=8)(ha2:a.2.1.idle.length=8)(hb:b.2.1.used.length=8)(hb2:b.2.1.idle.length=8):nQ a b=true↔(ej a).toArray=(ej b).toArray:=by
 obtain⟨ac,⟨as_,au,ai⟩,ab⟩:=a;obtain⟨bc,⟨bs,bu,bi⟩,bb⟩:=b;simp only at ha ha2 hb hb2;constructor;intro h;unfold nQ at h;simp only[aV,decide_eq_true_eq,beq_iff_eq]at h;obtain⟨⟨⟨⟨h1,h2⟩,h3⟩,h4⟩,h5⟩:=h;subst h1 h2 h3 h4 h5;rfl
 ·intro h;have h:=Array.toList_inj.2 h;simp only[ej,eV,List.cons_append,List.cons.injEq]at h;obtain⟨h1,h2,h3⟩:=h;have h1':ac=bc:=by injection h1 with _ h1;omega
  have h2':as_=bs:=by injection h2 with _ h2;omega
  obtain⟨h4,h5⟩:=List.append_inj h3 (by simp[ints,zs,ha,ha2,hb,hb2]);obtain⟨h6,h7⟩:=List.append_inj h4 (by simp[ints,zs,ha,hb]);have h6':=Nv (Eo h6);have h7':=Nv (Eo h7);have h5':ab=bb:=by simpa using h5
  subst h1' h2' h6' h7' h5';simp[nQ]
theorem O2:sig prog 6 173=some (List.replicate 18 (some .i64)++[none]):=kR
theorem Fit.append:∀{a b:List (Option IntKind)}{x y:List ae},Fit a x->Fit b y->Fit (a++b) (x++y)
 |[],_,[],_,_,h=>h
 |_::_,_,_::_,_,h,h'=>⟨h.1,Fit.append h.2 h'⟩
 |[],_,_::_,_,h,_=>h.elim
 |_::_,_,[],_,h,_=>h.elim
theorem BS{k:Nat×St×Bool}{M:Nat}(hM:M<=1000000000000)(h:k.2.1.Fits M)(hc:k.1<=1000000000000):Fit (List.replicate 18 (some .i64)++[none]) (ej k).toArray.toList:=by
 have e:ej k=ints ((k.1:Int)::(k.2.1.set:Int)::(zs k.2.1.used++zs k.2.1.idle))++[.bool k.2.2]:=by simp[ej,eV,ints]
 show Fit _ (ej k);rw[e];refine Fit.append ?_ ⟨trivial,trivial⟩;have hl:((k.1:Int)::(k.2.1.set:Int)::(zs k.2.1.used++zs k.2.1.idle)).length=18:=by simp[zs,h.lM,h.lN]
 have:=xV ((k.1:Int)::(k.2.1.set:Int)::(zs k.2.1.used++zs k.2.1.idle)) (λx hx=>by
  simp only[List.mem_cons,List.mem_append,zs,List.mem_map]at hx;have h1:=h.set;rcases hx with rfl|rfl|⟨y,hy,rfl⟩|⟨y,hy,rfl⟩;exact wf_i64 oM oM;exact wf_i64 oM oM;have:=h.used y hy;exact wf_i64 oM oM
  ·have:=h.idle y hy;exact wf_i64 oM oM)
 rw[hl]at this;exact this
theorem O3{o:Oper}{x:Act}{w:aa}{K:Act->aa->Prop}{Q:Exit->Act->aa->Prop}(t2:aw)(p q:Nat×St×Bool){M:Nat}(hM:M<=1000000000000)(hp:p.2.1.Fits M)(hp2:p.1<=1000000000000)(hq:q.2.1.Fits M)(hq2:q.1<=1000000000000)
 (u v:Operand)(ho:o.op=.binOp .eql 173 u v t2)(hu:x.eval u=.agg (ej p).toArray)(hv:x.eval v=.agg (ej q).toArray)(h:K (x.put o.dst (.bool (nQ p q))) w):o.wp prog x w K Q:=
 za 173 t2 6 _ _ _ u v ho hu hv dC kR O2 kR kR kR (BS hM hp hp2) (BS hM hq hq2) _ (VH hp.lM hp.lN hq.lM hq.lN) h
def jK(l:List (Nat×St×Bool)):List ae:=ej (l.getD 0 iB)++(ej (l.getD 1 iB)++ej (l.getD 2 iB))
theorem qw:(prog.info? 173).map (·.size)=some 19:=kR
theorem sj{l:List (Nat×St×Bool)}(h:∀k,(ej (l.getD k iB)).length=19):(jK l).length=57:=by unfold jK;rw[bm,bm,h,h,h]
theorem BU{l:List (Nat×St×Bool)}(h:∀k,(ej (l.getD k iB)).length=19){k i:Nat}(hk:k<3)(hi:i<19):(jK l)[k*19+i]?=(ej (l.getD k iB))[i]?:=by have hc:k=0\/k=1\/k=2:=oM;have h0:=h 0;have h1:=h 1;unfold jK;rcases hc with rfl|rfl|rfl;rw[gZ oM];congr 1;omega;rw[fe oM,gZ oM];congr 1;omega;rw[fe oM,fe oM];congr 1;omega
theorem VI{l:List (Nat×St×Bool)}(h:∀k,(ej (l.getD k iB)).length=19){k:Nat}(hk:k<3):((jK l).drop (k*19)).take 19=ej (l.getD k iB):=by apply List.ext_getElem?;intro i;by_cases hi:i<19;rw[List.getElem?_take_of_lt hi,List.getElem?_drop,BU h hk hi];rw[bV zf5,bV (by rw[h];omega)]
def TK(w:aa)(g gc gf:Nat)(L:Lay)(r:Re)(f:List Int)(wx:aa):Prop:=
 cK wx g gc L r/\Turned (λb=>b=g) w wx/\Has wx gf 214 (aN f)/\w.heap.size<=gf
theorem TK.after{w wx wy:aa}{g gc gf:Nat}{L:Lay}{r:Re}{f:List Int}(h:TK w g gc gf L r f wx)(hb:Below wx.heap.size wx wy):TK w g gc gf L r f wy:=
 ⟨h.1.after hb,h.2.1.eU hb,h.2.2.1.after hb,h.2.2.2⟩
theorem TK.drew{w wx:aa}{g gc gf:Nat}{L:Lay}{r:Re}{f:List Int}(h:TK w g gc gf L r f wx):TK w g gc gf L r f wx.drew:=h.after ((Below.refl _ _).drew)
theorem TK.drewN{w wx:aa}{g gc gf:Nat}{L:Lay}{r:Re}{f:List Int}(h:TK w g gc gf L r f wx)(n:Nat):TK w g gc gf L r f (wx.drewN n):=h.after (below_drewN (Below.refl _ _) n)
theorem TK.turn{w wx wy:aa}{g gc gf:Nat}{L:Lay}{r r':Re}{f:List Int}(h:TK w g gc gf L r f wx)(ht:Turned (λb=>b=g) wx wy)(k:cK wy g gc L r'):TK w g gc gf L r' f wy:=
 ⟨k,h.2.1.trans ht (λ_ _ e=>e),h.2.2.1.turned ht (λe=>h.2.2.1.ne h.1.has dC e),h.2.2.2⟩
theorem TK.set{w wx:aa}{g gc gf:Nat}{L:Lay}{r r':Re}{f:List Int}(h:TK w g gc gf L r f wx)(i:Nat)(v:ae)(he:∀j,j<93->(if j=i then v else dK r gc j)=dK r' gc j):TK w g gc gf L r' f (wx.setCell ⟨g,i,none⟩ v):=by have ht:Turned (λb=>b=g) wx (wx.setCell ⟨g,i,none⟩ v):=(Turned.refl (λb=>b=g) wx).setCell ⟨g,i,none⟩ v (.inl rfl);exact h.turn ht (h.1.to ht (h.1.has.rO i v) he)
theorem TK.set2{w wx:aa}{g gc gf:Nat}{L:Lay}{r r':Re}{f:List Int}(h:TK w g gc gf L r f wx)(i j:Nat)(u v:ae)(he:∀m,m<93->(if m=j then v else if m=i then u else dK r gc m)=dK r' gc m):TK w g gc gf L r' f ((wx.setCell ⟨g,i,none⟩ u).setCell ⟨g,j,none⟩ v):=by have ht:Turned (λb=>b=g) wx ((wx.setCell ⟨g,i,none⟩ u).setCell ⟨g,j,none⟩ v):=((Turned.refl (λb=>b=g) wx).setCell ⟨g,i,none⟩ u (.inl rfl)).setCell ⟨g,j,none⟩ v (.inl rfl);exact h.turn ht (h.1.to ht ((h.1.has.rO i u).rO j v) he)
theorem TK.sets{w wx:aa}{g gc gf:Nat}{L:Lay}{r r':Re}{f:List Int}(h:TK w g gc gf L r f wx)(o:Nat)(cs:List ae)(he:∀m,m<93->iA (dK r gc) o cs m=dK r' gc m):TK w g gc gf L r' f (wx.setCells g o cs):=by have ht:Turned (λb=>b=g) wx (wx.setCells g o cs):=Turned.setCells (F:=λb=>b=g) (g:=g) (.inl rfl) cs o (Turned.refl _ wx);exact h.turn ht (h.1.to ht (Has.iA cs o h.1.has) he)
def dB(w:aa)(g gc:Nat)(L:Lay)(r:Re)(f:List Int)(e:Ending)(w':aa):Prop:=
 (∃x,e=.returned x/\pN w' w.heap.size x (cZ L r f).2)/\cK w' g gc L (cZ L r f).1/\Turned (λb=>b=g) w w'
theorem pO{f:List Int}{kd fr cy c d:Nat}{s:St}(h:oK f kd fr cy c d s)(wx:aa)(gf:Nat)(hx:Has wx gf 214 (aN f)):
 wx.cell? ⟨gf,0,none⟩=some (I (kd:Int))/\wx.cell? ⟨gf,1,none⟩=some (I (fr:Int))/\wx.cell? ⟨gf,2,none⟩=some (I (cy:Int))/\wx.cell? ⟨gf,3,none⟩=some (I (c:Int))/\wx.cell? ⟨gf,4,none⟩=some (I (d:Int)):=by
 have hg:∀i x,i<23->f.getD i 0=x->wx.cell? ⟨gf,i,none⟩=some (I x):=λi x hi he=>by refine hx.aJ i (I x) (dO f i x ?_);rw[aD,bg (by rw[h.len];exact hi)]at he;rw[bg (by rw[h.len];exact hi),<-he];rfl
 exact⟨hg 0 _ dC h.e0,hg 1 _ dC h.e1,hg 2 _ dC h.e2,hg 3 _ dC h.e3,hg 4 _ dC h.e4⟩
theorem tJ{f:List Int}{kd fr cy c d:Nat}{s:St}(h:oK f kd fr cy c d s)(wx:aa)(gf:Nat)(hx:Has wx gf 214 (aN f)):wx.rangeAt gf 6 (eV s):=by intro j v hv;have hs:=h.sl;rw[<-hs]at hv;refine hx.aJ (6+j) v ?_;unfold jr at hv;show(ints f).toArray[6+j]?=some v;unfold ints at hv⊢;rw[List.map_drop,List.getElem?_drop]at hv;simpa using hv
theorem Nw{f:List Int}{kd fr cy c d:Nat}{s:St}(h:oK f kd fr cy c d s):(eV s).length=17:=by rw[<-h.sl,dG,h.sn]
theorem lW{r:Re}{f:List Int}{kd fr cy c d:Nat}{s:St}(h:oK f kd fr cy c d s):other r f=(decide (fr<3)&&decide (fr≠r.id)):=by
 unfold other;rw[h.e1];have e1:decide ((0:Int)<=(fr:Int))=true:=sM;have e2:decide ((fr:Int)<3)=decide (fr<3):=by rw[decide_eq_decide];omega
 have e3:decide ((fr:Int)≠(r.id:Int))=decide (fr≠r.id):=by rw[decide_eq_decide];omega
 rw[e1,e2,e3,Bool.true_and]
theorem oL{P:aF}{ops:Array Oper}{rest:List Oper}{o:Oper}{a:Act}{w:aa}{Q:Act->Prop}(hg:o.guard=none)(ty:aw)(x:Operand)(ho:o.op=.load ty x)
 (b off:Nat)(hx:a.eval x=pT b off)(cs:bw)(hr:(Instr.loadAt ty (pT b off)).run P w=.ok (.agg cs) w)
 (h:wpStill P ops w Q rest (a.put o.dst (.agg cs))):wpStill P ops w Q (o::rest) a:=by
 have hw:Region.wanted o (yielded ops a.tmps)=true:=by unfold Region.wanted;rw[hg]
 unfold wpStill;rw[if_pos hw];unfold Oper.still execOp;simp only[ho,hx,Sem.run_bind,hr,Result.andThen_ok,Sem.run_pure,Oper.stillUpon_value];exact h
theorem Jj(L:Lay){r:Re}{f:List Int}{cy c d:Nat}{s:St}(h:oK f 3 3 cy c d s)(e:cy=r.cycle):
 cZ L r f=(goes {r with ahead:=max r.ahead cy,state:=(step L c d r.state).1} (r.cycle+1),if(goes {r with ahead:=max r.ahead cy,state:=(step L c d r.state).1} (r.cycle+1)).cycle<=(goes {r with ahead:=max r.ahead cy,state:=(step L c d r.state).1} (r.cycle+1)).ahead then[asks (goes {r with ahead:=max r.ahead cy,state:=(step L c d r.state).1} (r.cycle+1))]else[]):=by
 unfold cZ;rw[h.e0,h.e1,h.e2,h.e3,h.e4,if_neg oM,if_pos ⟨rfl,rfl,oM⟩];dsimp only;rw[if_pos oM,cg]
theorem Jk(L:Lay){r:Re}{f:List Int}{cy c d:Nat}{s:St}(h:oK f 3 3 cy c d s)(e:r.cycle<cy):
 cZ L r f=({r with ahead:=max r.ahead cy},if r.cycle<=max r.ahead cy then[asks {r with ahead:=max r.ahead cy}]else[]):=by
 unfold cZ;rw[h.e0,h.e1,h.e2,h.e3,h.e4,if_neg oM,if_pos ⟨rfl,rfl,oM⟩];dsimp only;rw[if_neg oM,cg]
theorem zm(L:Lay){r:Re}{f:List Int}{fr cy c d:Nat}{s:St}(h:oK f 5 fr cy c d s)(h3:fr<3)(hne:fr≠r.id)(hcc:r.cycle<cy)(hr:gJ L (jr f)=true):
 cZ L r f=(if iK (r.told.set fr (cy,s,true)) fr then goes {r with told:=r.told.set fr (cy,s,true),state:=s} cy else{r with told:=r.told.set fr (cy,s,true)},[]):=by
 have ho:other r f=true:=by rw[lW h];simp[h3,hne]
 unfold cZ;rw[h.e0,h.e1,h.e2,h.st,if_neg oM,if_neg oM,if_neg oM,if_pos ⟨rfl,ho,oM,hr⟩];dsimp only;rw[cg,cg]
theorem O4{l:List (Nat×St×Bool)}{j k:Nat}(hk:k<3)(hne:¬k=j)(h:nQ (l.getD k iB) (l.getD j iB)=true):iK l j=true:=by unfold iK;rw[List.any_eq_true];exact⟨k,bX.2 hk,by unfold iB at h;rw[h,Bool.and_true];exact decide_eq_true hne⟩
theorem SC{l:List (Nat×St×Bool)}{j:Nat}(h:∀k,k<3->(decide (k≠j)&&nQ (l.getD k iB) (l.getD j iB))=false):iK l j=false:=by unfold iK;rw[List.any_eq_false];intro k hk;have:=h k (bX.1 hk);unfold iB at this;rw[this];decide
theorem O5(a:Act):a.put none undef=a:=rfl
theorem BV(L:Lay){r:Re}{f:List Int}{kd fr cy c d:Nat}{s:St}(h:oK f kd fr cy c d s)(hn1:¬(kd=1/\other r f=true/\cy=r.cycle))(hn2:¬(kd=3/\fr=3/\r.cycle<=cy))(Db:¬(kd=4/\other r f=true))(Jl:¬(kd=5/\other r f=true/\r.cycle<cy/\gJ L (jr f)=true)):
 cZ L r f=(r,[]):=by
 unfold cZ;rw[h.e0,h.e1,h.e2];dsimp only;rw[if_neg (λe=>hn1 ⟨oM,e.2.1,oM⟩),if_neg (λe=>hn2 ⟨oM,oM,oM⟩),if_neg (λe=>Db ⟨oM,e.2⟩),if_neg (λe=>Jl ⟨oM,e.2.1,oM,e.2.2.2⟩)]
theorem Jm{kd fr cy eB:Nat}{o rb:Bool}(hn1:¬(kd=1/\o=true/\cy=eB))(hn2:¬(kd=3/\fr=3/\eB<=cy))(Db:¬(kd=4/\o=true))(Jl:¬(kd=5/\o=true/\eB<cy/\rb=true)):
 (kd=1/\o=false)\/(kd=1/\o=true/\¬cy=eB)\/(kd=3/\¬fr=3)\/(kd=3/\fr=3/\¬eB<=cy)\/(kd=4/\o=false)\/(kd=5/\o=false)\/(kd=5/\o=true/\¬eB<cy)\/(kd=5/\o=true/\eB<cy/\rb=false)\/(¬kd=1/\¬kd=3/\¬kd=4/\¬kd=5):=by
 cases o<;>cases rb<;>simp_all<;>omega
theorem ky{w:aa}{g gc g0:Nat}{L:Lay}{r:Re}{f:List Int}{wx:aa}(h:TK w g gc g0 L r f wx):(∃x,Ending.returned (.slice none 0 0)=.returned x/\pN wx w.heap.size x [])/\cK wx g gc L r/\Turned (λb=>b=g) w wx:=⟨⟨_,rfl,.inl ⟨rfl,rfl⟩⟩,h.1,h.2.1⟩
theorem Jn(x:Nat×St×Bool):(ej x).toArray.all (·.oneCell')=true:=by unfold ej eV;exact all_oneCell_toArray λv hv=>by simp only[List.mem_cons,List.mem_append,ints,List.mem_map,List.cons_append,List.not_mem_nil,or_false]at hv;rcases hv with rfl|rfl|(⟨x,_,rfl⟩|⟨x,_,rfl⟩)|rfl<;>rfl
theorem St.Fits.mono{s:St}{M N:Nat}(h:s.Fits M)(Yk:M<=N):s.Fits N:=⟨h.set,h.lM,h.lN,h.used,λx hx=>aS (h.idle x hx) Yk⟩
theorem Jo{w:aa}{g gc:Nat}{L:Lay}{r:Re}(h:cK w g gc L r)(hl:∀k,(ej (r.told.getD k iB)).length=19):w.rangeAt g 34 (jK r.told):=h.has.FX 34 _ λj v hv=>by
 have hj:j<57:=by rw[<-sj hl];exact(aX.1 hv).1
 obtain⟨k,i,hk,hi,rfl⟩:∃k i,k<3/\i<19/\j=k*19+i:=⟨j/19,j %19,oM,oM,oM⟩;rw[BU hl hk hi]at hv;refine⟨oM,?_⟩;rw[<-Nat.add_assoc,pI hk hi,aD,hv];rfl
theorem Jp(l:List ae)(h:l.length=17):∃a0 a1 a2 a3 a4 a5 a6 a7 a8 a9 mY mZ a12 rX rY rZ a16,l=[a0,a1,a2,a3,a4,a5,a6,a7,a8,a9,mY,mZ,a12,rX,rY,rZ,a16]:=by
 match l,h with
 |[a0,a1,a2,a3,a4,a5,a6,a7,a8,a9,mY,mZ,a12,rX,rY,rZ,a16],_=>exact⟨a0,a1,a2,a3,a4,a5,a6,a7,a8,a9,mY,mZ,a12,rX,rY,rZ,a16,rfl⟩
theorem SD{l:List (Nat×St×Bool)}(h:∀k,(ej (l.getD k iB)).length=19){k:Nat}(hk:k<3)(w:aa):(Instr.index 174 (.agg (jK l).toArray) (I (k:Int))).run prog w=.ok (.agg (ej (l.getD k iB)).toArray) w:=by
 have hU:prog.underlying 174=some (.array 3 173):=kR;have hU2:((prog.underlying 173).map λd=>match d with|.struct _|.array _ _=>true|_=>false)=some true:=kR;obtain⟨i,hi,hz⟩:=bQ.1 qw;obtain⟨u,hu,hu2⟩:=bQ.1 hU2;have hn:(0:Int)<=(k:Int)/\(k:Int)<((3:Nat):Int):=oM;have hagg:(isAgg 173).run prog w=.ok true w:=by unfold isAgg;rw[Sem.run_bind,run_underlying hu w];cases u<;>simp_all
 have hsz:(sizeOf 173).run prog w=.ok 19 w:=by simp[sizeOf,typeInfo,hi,hz]
 have hx:(jK l).toArray.extract (k*19) (k*19+19)=(ej (l.getD k iB)).toArray:=by rw[List.extract_toArray,List.extract_eq_take_drop,Nat.add_sub_cancel_left,VI h hk]
 have e0:(asIntOf (I (k:Int))).run prog w=.ok (.i64,(k:Int)) w:=rfl;unfold Instr.index;rw[Sem.run_bind,e0,Result.andThen_ok,Sem.run_bind,run_underlying hU w,Result.andThen_ok];simp only[hn,and_self,if_true,Sem.run_bind,hsz,Result.andThen_ok,cg,part,hagg,Sem.run_pure,hx]
end Go.Proofs.YtdhekhlmdefcnaaGreatDoor
