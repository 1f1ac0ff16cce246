/- Part 8 of the proof. -/
import Derived.Test.YtdhekhlmdefcnaaGreatDoorPart7
import Derived.Test.YtdhekhlmdefcnaaGreatDoorPart6
import Derived.Deep.RegionWith
import Derived.Deep.MidRow
import Derived.Lib.SliceRun
import Derived.Deep.RegionLaw
import Derived.Deep.LoopGhost
set_option maxHeartbeats 16000000
set_option maxRecDepth 1000000
namespace Go
section
variable {p:Prop}
theorem zga(h:p:=by go_quiet (fail);go_wp2_with fail;go_quiet (fail);go_wp2_with fail;go_quiet (fail);go_wp2_with fail;go_ret;unfold dB;rw[HE.out];refine ky (g0:=g0) (f:=f) (r:=r) (L:=L) ?_;repeat (first|exact HT2.out|refine TK.drewN ?_ _)):p:=h
theorem zgb(h:p:=by have vd:Hid (Turned (λq=>q=g) w (wr.setCell ⟨g,2,none⟩ (I 0))):=hI (hT.out.setCell _ _ (.inl rfl));have HR2:=hI hR2;clear hR hR2;go_wp2;go_ret;exact⟨⟨rF,HR2.out⟩,vd.out⟩):p:=h
theorem zgc(h:p:=by refine .inr (.inl ⟨dC,kR,jd (j:=15) rfl rfl rfl rfl sM (λli ac wx H hn av hM K hk=>?_)⟩);have SF:ac.tmps[180]?.getD undef=pT g0 6:=H.k av 20 180;have hM1:(TK w g gc g0 L r f) wx:=hM;clear av H;obtain⟨x1,x2,x3,x4,x5⟩:=oh.out wx hM1;refine wp_load_mid 168 (.tmp 180) rfl g0 6 (eval_at SF) (eV s) _ x5 underlying168 rfl HI1.out ?_;exact hk _ hM):p:=h
theorem zgd(h:p:=by refine .inr (.inl ⟨dC,kR,jd (j:=15) rfl rfl rfl rfl sM (λli ac wx H hn av hM K hk=>?_)⟩);have aaL:ac.tmps[179]?.getD undef=pT gc 0:=H.k av 19 179;have e181:ac.tmps[181]?.getD undef=.agg (cJ s):=H.k av 21 181;have hM1:(TK w g gc g0 L r f) wx:=hM;clear av H;go_simp;refine(VJ.out _ hM1).mono ?_;rintro e w' ⟨rfl,hb⟩;exact hk _ (hM1.after hb)):p:=h
theorem zge(h:p:=by simp;omega):p:=h
theorem zgf(h:p:=by go_wp2;go_ret2;rw[HG.out,HE.out];exact⟨⟨_,rfl,jU _ _⟩,⟨vt,H2.out,.inl rfl⟩,HT2.out⟩):p:=h
theorem zgg(h:p:=by obtain⟨_,x2,_⟩:=kG.out _ _ hM1.2.2.1;clear av H;go_simp;exact hk _ hM):p:=h
theorem zgh(h:p:=by refine .inl ⟨dC,λM=>jd (j:=6) rfl rfl rfl rfl sM (λli ac wx H hn av hM K hk=>?_)⟩;have e168:ac.tmps[168]?.getD undef=I (cy:Int):=H.k av 8 168;have aaK:ac.tmps[172]?.getD undef=I (eB:Int):=H.k av 12 172;have x6:=VK.out;clear av H;go_simp;exact hk _ hM):p:=h
theorem zgi(h:p:=by refine .inl ⟨dC,λM=>aM rfl (λli ac wx H hn av hM K hk=>?_)⟩;have e203:ac.tmps[203]?.getD undef=I (k:Int):=H.k av 0 203;have aaN:ac.tmps[205]?.getD undef=I (fr:Int):=H.k av 2 205;have x6:=YJ.out;clear av H;go_simp;exact hk _ hM):p:=h
theorem zgj(h:p:=by subst this;exact HF.out):p:=h
theorem zgk(h:p:=by exact⟨⟨_,rfl,.inr ⟨_,rfl,by rw[HG.out];exact aS (bA uY.out.2.2.1.lt) hby.size,by rw[lV];exact Has.new wy 214 _⟩⟩,uY.out.1.after hbz,uY.out.2.1.eU hbz⟩):p:=h
theorem zgl(h:p:=by rw[<-hW2];repeat (first|exact HT1.out|refine TK.drewN ?_ _)):p:=h
theorem zgm(h:p:=by exact HN.out r' h'):p:=h
theorem zgn(h:p:=by have:=hbr.size;have:=HT3.out.size;have:=HG.out;omega):p:=h
theorem zgo(h:p:=by repeat (first|exact HT1.out|refine TK.drewN ?_ _)):p:=h
theorem zgp(h:p:=by rw[uX.out.1,uX.out.2];exact hle):p:=h
theorem zgq(h:p:=by exact(((HT3.out.eU hbr).alloc _).drewN _).trans SX (λ_ _ h=>h)):p:=h
theorem zgr(h:p:=by rw[hf.1];decide):p:=h
theorem zgs(h:p:=by clear h e hk;go_enter func130,ntmps130;go_wp2;go_ret;exact⟨by rw[HE.out];rfl,rfl⟩):p:=h
theorem zgt(h:p:=by simpa using h):p:=h
theorem zgu(h:p:=by rw[HN.out];rfl):p:=h
theorem zgv(h:p:=by refine⟨rfl,_,?_,(dx.of_below HB1.out).trans h4⟩;rw[HE.out];exact h3):p:=h
theorem zgw(h:p:=by exact .inr ⟨b,by simp at hb;omega,h⟩):p:=h
theorem zgx(h:p:=by rw[mW,hid]):p:=h
theorem zgy(h:p:=by rw[lW hin,aV,decide_eq_true_eq,decide_eq_true_eq]):p:=h
theorem zgz(h:p:=by rw[HX.out];simp[h2]):p:=h
theorem zgA(h:p:=by rw[HX.out];simp[h1]):p:=h
theorem zgB(h:p:=by rw[HX.out];simp[h0]):p:=h
theorem zgC(h:p:=by exact⟨⟨rfl,hM⟩,aW⟩):p:=h
theorem zgD(h:p:=by rw[bN,show T+(l.length+1)=T+1+l.length by omega];exact this):p:=h
theorem zgE(h:p:=by have:=List.eq_of_mem_replicate hx;omega):p:=h
theorem zgF(h:p:=by rw[HX.out];simp):p:=h
theorem zgG(h:p:=by rw[lV];rw[SQ.out]at Ju;exact Ju):p:=h
theorem zgH(h:p:=by go_wp2_with fail;go_ret;unfold dB;rw[HE2.out];exact⟨⟨_,rfl,.inl ⟨rfl,rfl⟩⟩,uY.out.1,uY.out.2.1⟩):p:=h
theorem zgI(h:p:=by rw[HX.out];simpa using B2.out):p:=h
theorem zgJ(h:p:=by rw[<-hW2];repeat (first|exact uW.out|refine TK.drewN ?_ _)):p:=h
theorem zgK(h:p:=by simp;omega):p:=h
theorem zgL(h:p:=by generalize v.trace.length=n at*;exact zgf):p:=h
theorem zgM(h:p:=by rw[HX.out,SR.out];rfl):p:=h
theorem zgN(h:p:=by rw[fN,lh]):p:=h
theorem zgO(h:p:=by subst hk ho;exact zga):p:=h
theorem zgP(h:p:=by rw[<-hW2];repeat (first|exact yn.out|refine TK.drewN ?_ _)):p:=h
theorem zgQ(h:p:=by rw[<-hW2];repeat (first|exact lU.out|refine TK.drewN ?_ _)):p:=h
theorem zgR(h:p:=by rw[tI,HF.out];simp):p:=h
theorem zgS(h:p:=by have:=YN.out;omega):p:=h
end
end Go
